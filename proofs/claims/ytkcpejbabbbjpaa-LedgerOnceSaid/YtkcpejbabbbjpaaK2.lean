/- A part of the proof: contracts over a program of the model. -/
import Derived.Test.YtkcpejbabbbjpaaS4
namespace Go.Proofs.Ytkcpejbabbbjpaa
noncomputable abbrev PY := Try.prog
theorem alive17 : PFn PY 6 [] (vbool true) := closed (u := undef) (m := 100000) prim_ok (by kernel_rfl)
end Go.Proofs.Ytkcpejbabbbjpaa
