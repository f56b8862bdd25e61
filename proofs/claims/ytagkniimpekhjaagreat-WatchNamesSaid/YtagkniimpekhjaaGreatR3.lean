/- Law WatchNames: the call returns true; no parameters. -/
import Derived.Test.YtagkniimpekhjaaGreatR0
import Derived.Test.YtagkniimpekhjaaGreatK5
import Derived.Test.YtagkniimpekhjaaGreatJ4
set_option linter.unusedVariables false
namespace Go.Proofs.YtagkniimpekhjaaGreat
open Go.Deep Go.RowKit Go.ChangeShapes Go.WideShapes Go.ChangeAt
theorem joined4 : joinedFacts Tryz.prog 4 Tryz.f4 Rows.watchNamesSpec Rows.watchNamesRow = true := by
  unfold joinedFacts
  simp only [w0, w1, w2, w3, w4, w5, w6, w7, w8, jf1, jf2, jf3, jf4, jf5, jf6, Bool.true_and, Bool.and_true]
  kernel_rfl
set_option maxRecDepth 100000 in
theorem watch_lifted (os : Os) (started : os.Started) (H : Type) (enc : TypeId × Value → H) :
    ReturnsInHanded {} Tryz.checked os 4 .any (Rows.watchNamesSpec.pre6 enc Tryz.prog Tryz.f4 Rows.watchNamesRow.domain false) (Rows.watchNamesSpec.post enc Tryz.prog Tryz.f4 false true false false) := by
  refine returnsInHanded_of_change (C := Tryz.checked) jf7 started (by kernel_rfl) Tryz.func4
    (ChangeSpec.witness6 (enc := enc) (C := Tryz.checked) false ⟨#[], #[], []⟩ 8 (by kernel_rfl) (by kernel_rfl) (by kernel_rfl) (by kernel_rfl)) ?_
  intro W base args ds gs before hval0 hW hcnd _
  have hW' := hW
  obtain ⟨p, q, hA0, hV, rfl, hfz, hnd⟩ := hW
  have hA : DataW.TrodAll enc Tryz.prog W 0 (fun _ => true) true Tryz.f4.params.toList args.toList ds p := hA0
  have hp5 : Tryz.f4.params.toList = [] := rfl
  rw [hp5] at hA
  obtain ⟨rfl, rfl, rfl⟩ := trodAll_none hA
  obtain ⟨rfl, rfl⟩ := trodVars_none hV
  refine (law_calls watchNames_run.2 (vs := #[]) trivial).mono fun e W' ⟨he, hbl⟩ => ⟨_, he, ?_⟩
  exact law_post (tb := 4) jf1 (by rw [hp5]; intro t ht; cases ht) rfl (by kernel_rfl) rfl rfl hW' hbl
theorem wrap4 : Tryz.f4.isWrapper Tryz.prog Rows.watchNamesRow.wrapper Rows.watchNamesRow.mainSum := by unfold Func.isWrapper; first | (rw [if_pos (by decide +kernel)]; kernel_rfl) | (rw [if_neg (by decide +kernel)]; exact ⟨rfl, rfl⟩)
theorem inst4 : Tryz.f4.isInstance Tryz.prog Rows.watchNamesRow.origin Rows.watchNamesRow.targs := of_decide_eq_true (by kernel_rfl)
theorem watchNames_holds : Rows.WatchNamesSaid :=
  OpenClaim.holds_of_wide 4 Tryz.f4 rfl rfl rfl rfl rfl rfl rfl ⟨rfl, rfl, rfl, rfl, rfl⟩ rfl rfl rfl rfl rfl w9 Tryz.func4 joined4 inst4 wrap4
    (fun os started H enc _ => watch_lifted os started H enc)
end Go.Proofs.YtagkniimpekhjaaGreat
