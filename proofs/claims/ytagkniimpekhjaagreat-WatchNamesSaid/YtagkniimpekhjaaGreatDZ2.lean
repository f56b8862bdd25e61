/- A part of the proof: contracts over a program of the model. -/
import Derived.Test.YtagkniimpekhjaaGreatDZ1
import Derived.Test.YtagkniimpekhjaaGreatProg
set_option linter.unusedVariables false
set_option linter.unusedSimpArgs false
namespace Go.Proofs.YtagkniimpekhjaaGreat
open Go.RowKit
theorem S24 : tSl PP 24 3 1 = true := by kernel_rfl
theorem T3 : tOne PP 3 = true := by kernel_rfl
theorem c_Vals1 {v : Value} {c ct y : Nat} {l : List Int} {J : Nat → HP} {Jx : HP} (hv : v.oneCell' = true) (hl : l.length ≤ 1000000) (hr : Rounds PP y px1 J Jx l) : Fn PP 155 [vyield y, vptr c 0] [J 0, hvar c ct [vis v], hrow v 3 1 eint l] fun _ h' => h' = [J l.length, hvar c ct [vis v], hrow v 3 1 eint l] ∨ h' = [Jx, hvar c ct [vis v], hrow v 3 1 eint l] := by
  refine Fn.body Tryz.func155 rfl Tryz.ntmps155 rfl fun B => ?_
  refine seq ?_
  refine region ?_
  refine ld1 (j := 1) T24 rfl ?_
  refine lnw (j := 2) S24 rfl (fun h1 => ?_)
  refine mv ?_
  refine done ?_
  refine nxt ?_
  refine block ?_
  refine lp (ι := Nat) (fun i => i ≤ l.length) (fun i => [(7, vint .i64 (i : Int)), (6, vint .i64 (l.length : Int)), (5, vis v), (0, vyield y)]) (fun i => [J i, hvar c ct [vis v], hrow v 3 1 eint l]) (fun i => l.length - i) 0 (Nat.zero_le _) ⟨rfl, rfl, rfl, rfl, trivial⟩ (rfl) (fun i hI => ?_)
  refine seq ?_
  refine region ?_
  refine lss ?_
  refine done ?_
  refine nxt ?_
  refine seq ?_
  refine cond (fun h2 => ?_) (fun h2 => ?_)
  · have h2k := h2
    try simp at h2
    refine skip ?_
    refine nxt ?_
    refine seq ?_
    refine block ?_
    refine seq ?_
    refine region ?_
    refine ixw2 (j := 2) S24 rfl (fun hi3 => ?_)
    refine lw12 (j := 2) T3 rfl ?_
    refine asg ?_
    refine done ?_
    refine nxt ?_
    refine seq ?_
    refine region ?_
    refine mv ?_
    refine mv ?_
    refine callyB (i := i) (x := l[i]'(by omega)) (j := 0) hr (by rw [List.getElem?_eq_getElem (by omega)]) rfl (fun bb => ?_)
    refine not_ ?_
    refine done ?_
    refine nxt ?_
    refine cond (fun h4 => ?_) (fun h4 => ?_)
    · have h4k := h4
      try simp at h4
      refine ret ?_
      refine kbr ?_
      refine kt ?_
      refine kq ?_
      refine kbr ?_
      have hbb : bb = false := by simpa using h4k
      subst hbb
      exact ⟨_, _, _, .nil, .cons 0 rfl (.cons 0 rfl (.cons 0 rfl (.nil))), .inr rfl⟩
    · have h4k := h4
      try simp at h4
      refine skip ?_
      refine kbn ?_
      refine nxt ?_
      refine region ?_
      refine add ?_
      refine mv ?_
      refine done ?_
      have hbb : bb = true := by simpa using h4k
      subst hbb
      refine lpe (i + 1) (by omega) (by omega) ⟨rfl, rfl, rfl, rfl, trivial⟩ (.cons 0 rfl (.cons 0 rfl (.cons 0 rfl (.nil)))) (rfl)
  · have h2k := h2
    try simp at h2
    refine exit ?_
    refine kt ?_
    refine kq ?_
    refine kbx ?_
    exact ⟨_, _, _, .nil, .cons 0 rfl (.cons 0 rfl (.cons 0 rfl (.nil))), .inl (by rw [show l.length = i by omega])⟩

theorem it_Vals {v : Value} {c ct : Nat} {l : List Int} (hv : v.oneCell' = true) (hl : l.length ≤ 1000000) : IterFn PP 155 [.pointer (some ⟨c, 0, none⟩)] [hvar c ct [vis v], hrow v 3 1 eint l] [hvar c ct [vis v], hrow v 3 1 eint l] px1 l :=
  fun y J Jx hr => c_Vals1 hv hl hr

end Go.Proofs.YtagkniimpekhjaaGreat
