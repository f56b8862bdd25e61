/- A part of the proof: contracts over a program of the model. -/
import Derived.Test.YtagkniimpekhjaaGreatS7
namespace Go.Proofs.YtagkniimpekhjaaGreat
theorem watchNames_run : PFn Tryz.prog 4 [] (vbool true) := closed (u := undef) (m := 100000) (primSV_ok sortZ) (by kernel_rfl)
end Go.Proofs.YtagkniimpekhjaaGreat
