/- Closed facts of WatchNames' row. -/
import Derived.Test.YtagkniimpekhjaaGreatJ0
set_option linter.unusedVariables false
namespace Go.Proofs.YtagkniimpekhjaaGreat
open Go Go.Proofs.YtagkniimpekhjaaGreat
theorem w0 : Rows.watchNamesRow.wf (OpenSpec.ofChange Rows.watchNamesSpec) = true := by kernel_rfl
theorem w1 : (Rows.watchNamesRow.inPlace == Tryz.prog.inPlace 4) = true := by kernel_rfl
theorem w2 : (Rows.watchNamesRow.unfollowed == Tryz.prog.unfollowed 4) = true := by kernel_rfl
theorem w3 : (Rows.watchNamesRow.recurses == Tryz.prog.recurses 4) = true := by kernel_rfl
theorem w4 : (Rows.watchNamesRow.named == Tryz.prog.varsNamed 4) = true := by kernel_rfl
theorem w5 : (Rows.watchNamesRow.plainKeys == Tryz.prog.plainKeys) = true := by kernel_rfl
theorem w6 : (Rows.watchNamesRow.lifted == Tryz.prog.liftsFinal) = true := by kernel_rfl
theorem w7 : (Tryz.prog.make == some Rows.watchNamesRow.make) = true := by kernel_rfl
theorem w8 : (Rows.watchNamesRow.pinned == Rows.watchNamesRow.pinnedBy) = true := by kernel_rfl
theorem w9 : Tryz.prog.funcNamed Rows.watchNamesRow.func = some 4 := by kernel_rfl
end Go.Proofs.YtagkniimpekhjaaGreat
