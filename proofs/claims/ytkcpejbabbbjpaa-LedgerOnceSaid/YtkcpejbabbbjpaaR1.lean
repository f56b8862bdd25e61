/- Law LedgerOnce: for every two slices of ints the call returns true and turns nothing that was there; no conditions. -/
import Derived.Test.YtkcpejbabbbjpaaR0
import Derived.Test.YtkcpejbabbbjpaaD1
import Derived.Test.YtkcpejbabbbjpaaRows
set_option linter.unusedVariables false
namespace Go.Proofs.Ytkcpejbabbbjpaa
open Go.Deep Go.RowKit Go.ChangeShapes Go.WideShapes Go.ChangeAt
theorem Try.own : ownKnob Try.prog.godebug = none := by kernel_rfl
theorem Try.laidOut : laidOutB Try.prog = true := by kernel_rfl
theorem rdInts : Rd Try.prog 22 (fun l : List Int => [vsl 1 eint l]) (fun l => ∀ a ∈ l, (Lit.int .i64 a).wf = true) := rdSlice (e := 3) (by kernel_rfl) (by kernel_rfl) (by omega) (rdInt (by kernel_rfl))
set_option maxRecDepth 100000 in
theorem once_lifted (os : Os) (started : os.Started) (H : Type) (enc : TypeId × Value → H) :
    ReturnsInHanded {} Try.checked os 3 .any (Rows.ledgerOnceSpec.pre6 enc Try.prog Try.f3 Rows.ledgerOnceRow.domain false) (Rows.ledgerOnceSpec.post enc Try.prog Try.f3 false true false false) := by
  refine returnsInHanded_of_change (C := Try.checked) Try.own started (by kernel_rfl) Try.func3
    (ChangeSpec.witness6 (enc := enc) (C := Try.checked) false ⟨#[], #[.slice none 0 0, .slice none 0 0], []⟩ 8 (by kernel_rfl) (by kernel_rfl) (by kernel_rfl) (by kernel_rfl)) ?_
  intro W base args ds gs before hval0 hW hcnd _
  have hW' := hW
  obtain ⟨p, q, hA0, hV, rfl, hfz, hnd⟩ := hW
  have hA : DataW.TrodAll enc Try.prog W 0 (fun _ => true) true Try.f3.params.toList args.toList ds p := hA0
  rw [Try.params3] at hA
  obtain ⟨v0, v1, d0, d1, p0, p1, rfl, rfl, rfl, h0, h1⟩ := trodAll_two hA
  obtain ⟨rfl, rfl⟩ := trodVars_none hV
  obtain ⟨a, _, ha⟩ := rdInts.one h0 (ok_slice_cells (e := 3) (by kernel_rfl) (hval0 0 22 v0 rfl rfl))
  obtain ⟨b, _, hb⟩ := rdInts.one h1 (ok_slice_cells (e := 3) (by kernel_rfl) (hval0 1 22 v1 rfl rfl))
  refine (law_calls (c_LedgerOnce (a := a) (b := b)).2 (vs := #[v0, v1]) ⟨ha, hb, trivial⟩).mono fun e W' ⟨he, hbl⟩ => ⟨_, he, ?_⟩
  exact law_post (tb := 4) Try.laidOut (by rw [show Try.f3.params.toList = [22, 22] from rfl]; intro t ht; simp at ht; subst ht; exact ⟨by kernel_rfl, by decide +kernel⟩) rfl (by kernel_rfl) rfl rfl hW' hbl
theorem ledgerOnce_holds : Rows.LedgerOnceSaid :=
  OpenClaim.holds_of_wide 3 Try.f3 rfl rfl rfl rfl rfl rfl rfl ⟨rfl, rfl, rfl, rfl, rfl⟩ rfl rfl rfl rfl rfl (by kernel_rfl) Try.func3 (by kernel_rfl)
    (of_decide_eq_true (by kernel_rfl)) (by unfold Func.isWrapper; first | (rw [if_pos (by decide +kernel)]; kernel_rfl) | (rw [if_neg (by decide +kernel)]; exact ⟨rfl, rfl⟩))
    (fun os started H enc _ => once_lifted os started H enc)
end Go.Proofs.Ytkcpejbabbbjpaa
