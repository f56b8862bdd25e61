/- A part of the proof: contracts over a program of the model. -/
import Derived.Test.YtkcpejbabbbjpaaD3
import Derived.Test.YtkcpejbabbbjpaaProg
set_option linter.unusedVariables false
set_option linter.unusedSimpArgs false
namespace Go.Proofs.Ytkcpejbabbbjpaa
open Go.RowKit
theorem G114 : isGo PP 114 = true := by kernel_rfl
theorem G135 : isGo PP 135 = true := by kernel_rfl
theorem G139 : isGo PP 139 = true := by kernel_rfl
theorem M74 : tMap PP 74 3 3 = true := by kernel_rfl
theorem T74 : tOne PP 74 = true := by kernel_rfl
theorem fn_post {P : Program} {f : FuncId} {args : List VP} {h : List HP} {Q Q' : VP → List HP → Prop} (hf : Fn P f args h Q) (hq : ∀ r h', Q r h' → ∃ h2, Q' r h2 ∧ ∀ (w : World) (W : WS) (S : Nat → Prop), Sat w W h' S → ∃ S', Sat w W h2 S' ∧ ∀ b, S' b → S b) : Fn P f args h Q' := by
  intro w W S vs hv hsat hsub hbd
  refine (hf w W S vs hv hsat hsub hbd).mono ?_
  rintro e w' ⟨v, r, h', W', S', he, hr, hp, hs, hrun⟩
  obtain ⟨h2, q1, q2⟩ := hq r h' hp
  obtain ⟨S2, q3, q4⟩ := q2 w' W' S' hs
  exact ⟨v, r, h2, W', S2, he, hr, q1, q3, hrun.less q4⟩

theorem c_Vals0 {c et mb y : Nat} {ν : Type} {encV : ν → VP} {J Jx : HP} : Fn PP 139 [vyield y, vptr c 0] [J, hvar c et [vmap mb], hmap mb eI encV ([] : List (Int × ν))] fun _ h' => ∃ ib, h' = [J, hvar c et [vmap mb], hmapI mb ib eI encV ([] : List (Int × ν)) [] none] := by
  refine Fn.body Try.func139 rfl Try.ntmps139 rfl fun B => ?_
  refine seq ?_
  refine region ?_
  refine ld1 (j := 1) T74 rfl ?_
  refine rngm (j := 2) M74 rfl (fun ib => ?_)
  refine done ?_
  refine nxt ?_
  refine block ?_
  refine lp (ι := Nat) (fun i => True) (fun i => [(6, vptr ib 0), (0, vyield y), (1, vptr c 0)]) (fun i => [J, hvar c et [vmap mb], hmapI mb ib eI encV [] [] none]) (fun i => 0) 0 (trivial) ⟨rfl, rfl, rfl, trivial⟩ (rfl) (fun i hI => ?_)
  refine seq ?_
  refine region ?_
  refine nxtm (j := 2) rfl (fun hl => ?_) (fun i hi => absurd hi (by simp))
  refine ext ?_
  refine done ?_
  refine nxt ?_
  refine seq ?_
  refine cond (fun h1 => ?_) (fun h1 => ?_)
  · cases h1
  · skip
    refine exit ?_
    refine kt ?_
    refine kq ?_
    refine kbx ?_
    exact ⟨_, _, _, .nil, .cons 0 rfl (.cons 0 rfl (.cons 0 rfl (.nil))), ib, rfl⟩

theorem it_Vals0 {c et mb : Nat} {ν : Type} {encV : ν → VP} : IterFn PP 139 [.pointer (some ⟨c, 0, none⟩)] [hvar c et [vmap mb], hmap mb eI encV ([] : List (Int × ν))] [hvar c et [vmap mb], hmap mb eI encV ([] : List (Int × ν))] (fun x : Int => [vint .i64 x]) [] := by
  intro y J Jx _
  refine fn_post (c_Vals0 (Jx := Jx)) ?_
  rintro r h' ⟨ib, rfl⟩
  exact ⟨_, .inl rfl, fun w W S hs => endm (j := 2) rfl hs⟩

theorem c_AppSeq0 {c et mb : Nat} {ν : Type} {encV : ν → VP} : Fn PP 135 [vis (.slice none 0 0), vfn 139 [] [.pointer (some ⟨c, 0, none⟩)]] [hvar c et [vmap mb], hmap mb eI encV ([] : List (Int × ν))] fun r h' => r = vis (.slice none 0 0) ∧ h' = [hvar c et [vmap mb], hmap mb eI encV ([] : List (Int × ν))] := by
  refine Fn.bodyF Try.func135 rfl Try.ntmps135 rfl fun B hro => ?_
  refine seqF ?_
  refine evf (fun B => ?_)
  refine region ?_
  refine box1 (one_vis rfl) (fun b1 => ?_)
  refine asg ?_
  refine done ?_
  refine nxtF ?_
  refine seqF ?_
  refine seqF ?_
  refine evf (fun B => ?_)
  refine region ?_
  refine mv ?_
  refine done ?_
  refine nxtF ?_
  refine blockF ?_
  refine rangeF0 hro it_Vals0 G139 (fun _ _ => False) (.cons 1 rfl (.cons 1 rfl (.nil))) (fun _ => rfl) (fun i x hi => absurd hi (by simp)) ?_ (fun _ _ h => h.elim)
  refine kbn ?_
  refine nxtF ?_
  refine evf (fun B => ?_)
  refine seq ?_
  refine region ?_
  refine ld1 (j := 0) T22 rfl ?_
  refine asg ?_
  refine done ?_
  refine nxt ?_
  refine ret ?_
  exact ⟨_, _, _, .cons (.tmp rfl) .nil, .cons 1 rfl (.cons 1 rfl (.nil)), rfl, rfl⟩

theorem c_Collect0 {c et mb : Nat} {ν : Type} {encV : ν → VP} : Fn PP 114 [vfn 139 [] [.pointer (some ⟨c, 0, none⟩)]] [hvar c et [vmap mb], hmap mb eI encV ([] : List (Int × ν))] fun r h' => r = vis (.slice none 0 0) ∧ h' = [hvar c et [vmap mb], hmap mb eI encV ([] : List (Int × ν))] := by
  refine Fn.body Try.func114 rfl Try.ntmps114 rfl fun B => ?_
  refine seq ?_
  refine region ?_
  refine asg ?_
  refine done ?_
  refine nxt ?_
  refine seq ?_
  refine region ?_
  refine mv ?_
  refine call c_AppSeq0 G135 (.cons 0 rfl (.cons 0 rfl (.nil))) (fun r h' hp => ?_)
  obtain ⟨rfl, rfl⟩ := hp
  refine asg ?_
  refine done ?_
  refine nxt ?_
  refine ret ?_
  exact ⟨_, _, _, .cons (.tmp rfl) .nil, .cons 0 rfl (.cons 0 rfl (.nil)), rfl, rfl⟩

theorem c_Sort0 (hs : SortC PP 115) : Fn PP 115 [vis (.slice none 0 0)] [] fun r h' => r = vtup [] ∧ h' = [] := by
  have h := sort_fn (te := 3) (v := .slice none 0 0) (l := []) hs
  intro w W S vs hv hsat hsub hbd
  refine (h w W S vs hv (Sat.cons0 (.inl ⟨rfl, rfl, fun _ h => h⟩) hsat) hsub hbd).mono ?_
  rintro e w' ⟨v, r, h', W', S', he, hr, ⟨rfl, rfl⟩, hs, hrun⟩
  obtain ⟨S1, S2, h1, h2, h3, h4⟩ := hs
  exact ⟨v, _, [], W', S2, he, hr, ⟨rfl, rfl⟩, h2, hrun.less fun b hb => (h4 b).2 (.inr hb)⟩

theorem c_Sorted0 {c et mb : Nat} {ν : Type} {encV : ν → VP} (hsort : SortC PP 115) : Fn PP 87 [vfn 139 [] [.pointer (some ⟨c, 0, none⟩)]] [hvar c et [vmap mb], hmap mb eI encV ([] : List (Int × ν))] fun r h' => r = vis (.slice none 0 0) ∧ h' = [hvar c et [vmap mb], hmap mb eI encV ([] : List (Int × ν))] := by
  refine Fn.body Try.func87 rfl Try.ntmps87 rfl fun B => ?_
  refine seq ?_
  refine region ?_
  refine asg ?_
  refine done ?_
  refine nxt ?_
  refine seq ?_
  refine region ?_
  refine mv ?_
  refine call c_Collect0 G114 (.cons 0 rfl (.cons 0 rfl (.nil))) (fun r h' hp => ?_)
  obtain ⟨rfl, rfl⟩ := hp
  refine asg ?_
  refine done ?_
  refine nxt ?_
  refine seq ?_
  refine region ?_
  refine mv ?_
  refine call (c_Sort0 hsort) G115 .nil (fun r h' hp => ?_)
  obtain ⟨rfl, rfl⟩ := hp
  refine done ?_
  refine nxt ?_
  refine seq ?_
  refine region ?_
  refine mv ?_
  refine asg ?_
  refine done ?_
  refine nxt ?_
  refine ret ?_
  exact ⟨_, _, _, .cons (.tmp rfl) .nil, .cons 0 rfl (.cons 0 rfl (.nil)), rfl, rfl⟩

end Go.Proofs.Ytkcpejbabbbjpaa
