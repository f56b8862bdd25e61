/- Closed facts of the program that every law's row asks. -/
import Derived.JoinedOf
import Derived.Test.YtagkniimpekhjaaGreatRows
import Derived.Test.YtagkniimpekhjaaGreatChecked
set_option linter.unusedVariables false
namespace Go.Proofs.YtagkniimpekhjaaGreat
open Go Go.Proofs.YtagkniimpekhjaaGreat
theorem jf1 : laidOutB Tryz.prog = true := by kernel_rfl
theorem jf2 : mapsRowed Tryz.prog = true := by kernel_rfl
theorem jf3 : (Tryz.prog.stops == []) = true := by kernel_rfl
theorem jf4 : (Tryz.prog.stopKnobs == []) = true := by kernel_rfl
theorem jf5 : Tryz.prog.stopsHeard = true := by kernel_rfl
theorem jf6 : Tryz.prog.mayEnter = true := by kernel_rfl
theorem jf7 : ownKnob Tryz.prog.godebug = none := by kernel_rfl
end Go.Proofs.YtagkniimpekhjaaGreat
