/- A part of the proof: contracts over a program of the model. -/
import Derived.Test.YtagkniimpekhjaaGreatL1
import Derived.Test.YtagkniimpekhjaaGreatS5
import Derived.Test.YtagkniimpekhjaaGreatE22
import Derived.Test.YtagkniimpekhjaaGreatProg
set_option linter.unusedVariables false
set_option linter.unusedSimpArgs false
namespace Go.Proofs.YtagkniimpekhjaaGreat
open Go.RowKit
noncomputable abbrev PP := Tryz.prog
theorem G153 : isGo PP 153 = true := by kernel_rfl
theorem G154 : isGo PP 154 = true := by kernel_rfl
theorem G227 : isGo PP 227 = true := by kernel_rfl
theorem R24 : tRow PP 24 3 1 8 [.int .i64 0] := tRow_mk (by kernel_rfl) (by kernel_rfl)
theorem T24 : tOne PP 24 = true := by kernel_rfl
theorem take_at {xs : List Int} {i : Nat} {x : Int} (h : xs[i]? = some x) : xs.take i ++ [x] = xs.take (i + 1) := by
  obtain ⟨h1, h2⟩ := List.getElem?_eq_some_iff.1 h
  rw [← h2, take_succ' h1]
def px1 (x : Int) : List VP := [vint .i64 x]

theorem iter_all {P : Program} {gf : FuncId} {caps : List Value} {hc hc' : List HP} {α : Type} {px : α → List VP} {xs : List α} (h : IterFn P gf caps hc hc' px xs) : IterFn P gf caps [hAll hc] [hAll hc'] px xs := by
  intro l J Jx hr w W S vs hv hsat hsub hbd
  obtain ⟨S1, S2, h1, h2, h3, h4⟩ := hsat
  refine (h l J Jx hr w W S vs hv ⟨S1, S2, h1, sat_one.1 h2, h3, h4⟩ hsub hbd).mono ?_
  rintro e w' ⟨v, r, h', W', S', he, hp, hor, hs, hrun⟩
  rcases hor with rfl | rfl
  · obtain ⟨T1, T2, t1, t2, t3, t4⟩ := hs
    exact ⟨v, r, _, W', S', he, hp, .inl rfl, ⟨T1, T2, t1, sat_one.2 t2, t3, t4⟩, hrun⟩
  · obtain ⟨T1, T2, t1, t2, t3, t4⟩ := hs
    exact ⟨v, r, _, W', S', he, hp, .inr rfl, ⟨T1, T2, t1, sat_one.2 t2, t3, t4⟩, hrun⟩
/-- a row of ints, as an answer -/
def AnsL (e : Nat) (xs : List Int) (hc' : List HP) : VP → List HP → Prop := fun r h' => ∃ v : Value, v.oneCell' = true ∧ (xs = [] → v = .slice none 0 0) ∧ r = vis v ∧ h' = [hrow v e 1 eint xs, hAll hc']

theorem c_AppSeq {gf : FuncId} {caps : List Value} {hc hc' : List HP} {xs : List Int} (hit : IterFn PP gf caps hc hc' px1 xs) (hgo : isGo PP gf = true) (hlen : xs.length ≤ 1000000) : Fn PP 227 [vis (.slice none 0 0), vfn gf [] caps] [hAll hc] (AnsL 3 xs hc') := by
  refine Fn.bodyF Tryz.func227 rfl Tryz.ntmps227 rfl fun B hro => ?_
  refine seqF ?_
  refine evf (fun B => ?_)
  refine region ?_
  refine nilrow 3 1 eint ?_
  refine box1 (one_vis rfl) (fun b1 => ?_)
  refine asg ?_
  refine done ?_
  refine nxtF ?_
  refine seqF ?_
  refine seqF ?_
  refine evf (fun B => ?_)
  refine region ?_
  refine mv ?_
  refine done ?_
  refine nxtF ?_
  refine blockF ?_
  refine pkF (c := b1) (l := []) (e := 3) (h' := [hAll hc]) rfl (fun _ => rfl) (.cons 0 rfl (.cons 0 rfl (.nil))) ?_
  refine rangeF hro (iter_all hit) hgo (fun i => [hSl b1 24 3 (xs.take i)]) (fun _ _ => False) (.cons 1 rfl .nil) (fun _ => rfl) (fun i x hi B => ?_) ?_ ?_
  · skip
    have htl : (xs.take i).length ≤ 1000000 := by rw [List.length_take]; omega
    refine region ?_
    refine asg ?_
    refine done ?_
    refine fun B => ?_
    refine opnC (fun v hv hv0 => ?_)
    refine block ?_
    refine region ?_
    refine ld1 (j := 0) T24 rfl ?_
    refine mv ?_
    refine litI (xs := [.tmp 9]) [_] eint R24 (.cons (cel1 (one_vis rfl)) (.nil)) ?_
    refine app (j := 1) R24 rfl (fun v2 ov2 => ?_) ?_ ?_
    rotate_left
    · (simp only [List.length_singleton]; omega)
    · (simp only [List.length_singleton]; omega)
    refine st1 (j := 0) T24 rfl (one_vis ov2) ?_
    refine pkL (c := b1) (l := xs.take (i + 1)) (e := 3) (v := v2) (h' := []) ov2 (fun e => absurd e (by have h9 := (List.getElem?_eq_some_iff.1 hi).1; intro e2; have h8 := congrArg List.length e2; rw [List.length_take] at h8; simp only [List.length_nil] at h8; omega)) (by rw [← take_at hi]; exact .cons 0 rfl (.cons 0 rfl (.nil))) ?_
    refine done ?_
    refine kbn ?_
    exact ⟨_, .cons 0 rfl .nil⟩
  · skip
    rw [List.take_length]
    refine kbn ?_
    refine nxtF ?_
    refine evf (fun B => ?_)
    refine seq ?_
    refine opnC (fun v hv hv0 => ?_)
    refine region ?_
    refine ld1 (j := 0) T24 rfl ?_
    refine asg ?_
    refine done ?_
    refine nxt ?_
    refine ret ?_
    exact ⟨_, _, _, .cons (.tmp rfl) .nil, .cons 1 rfl (.cons 1 rfl (.nil)), v, hv, hv0, rfl, rfl⟩
  · exact fun _ _ h => h.elim

theorem c_Collect {gf : FuncId} {caps : List Value} {hc hc' : List HP} {xs : List Int} (hit : IterFn PP gf caps hc hc' px1 xs) (hgo : isGo PP gf = true) (hlen : xs.length ≤ 1000000) : Fn PP 153 [vfn gf [] caps] [hAll hc] (AnsL 3 xs hc') := by
  refine Fn.body Tryz.func153 rfl Tryz.ntmps153 rfl fun B => ?_
  refine seq ?_
  refine region ?_
  refine asg ?_
  refine done ?_
  refine nxt ?_
  refine seq ?_
  refine region ?_
  refine mv ?_
  refine call (c_AppSeq hit hgo hlen) G227 (.cons 0 rfl (.nil)) (fun r h' hp => ?_)
  obtain ⟨v, hv, hv0, rfl, rfl⟩ := hp
  refine asg ?_
  refine done ?_
  refine nxt ?_
  refine ret ?_
  exact ⟨_, _, _, .cons (.tmp rfl) .nil, .cons 0 rfl (.cons 0 rfl (.nil)), v, hv, hv0, rfl, rfl⟩

theorem c_Sorted {gf : FuncId} {caps : List Value} {hc hc' : List HP} {xs : List Int} (hit : IterFn PP gf caps hc hc' px1 xs) (hgo : isGo PP gf = true) (hlen : xs.length ≤ 1000000) (hsort : SortC PP 154) : Fn PP 77 [vfn gf [] caps] [hAll hc] (AnsL 3 (srtI xs) hc') := by
  refine Fn.body Tryz.func77 rfl Tryz.ntmps77 rfl fun B => ?_
  refine seq ?_
  refine region ?_
  refine asg ?_
  refine done ?_
  refine nxt ?_
  refine seq ?_
  refine region ?_
  refine mv ?_
  refine call (c_Collect hit hgo hlen) G153 (.cons 0 rfl (.nil)) (fun r h' hp => ?_)
  obtain ⟨v, hv, hv0, rfl, rfl⟩ := hp
  refine asg ?_
  refine done ?_
  refine nxt ?_
  refine seq ?_
  refine region ?_
  refine mv ?_
  refine call (sort_fn hsort) G154 (.cons 0 rfl (.nil)) (fun r h' hp => ?_)
  obtain ⟨rfl, rfl⟩ := hp
  refine done ?_
  refine nxt ?_
  refine seq ?_
  refine region ?_
  refine mv ?_
  refine asg ?_
  refine done ?_
  refine nxt ?_
  refine ret ?_
  exact ⟨_, _, _, .cons (.tmp rfl) .nil, .cons 0 rfl (.cons 0 rfl (.nil)), v, hv, (fun e => hv0 (List.eq_nil_of_length_eq_zero (by rw [← srtI_len, e]; rfl))), rfl, rfl⟩

end Go.Proofs.YtagkniimpekhjaaGreat
