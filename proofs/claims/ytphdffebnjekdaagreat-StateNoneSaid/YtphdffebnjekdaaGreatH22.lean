/- Closed facts of the row. -/
import Derived.Test.YtphdffebnjekdaaGreatRows
import Derived.JoinedOf
namespace Go.Proofs.YtphdffebnjekdaaGreat
open Go
set_option maxRecDepth 100000
theorem g1 : (Rows.stateNoneRow.inPlace == Tryz.prog.inPlace 4) = true := by kernel_rfl
theorem g2 : (Rows.stateNoneRow.unfollowed == Tryz.prog.unfollowed 4) = true := by kernel_rfl
theorem g3 : (Rows.stateNoneRow.recurses == Tryz.prog.recurses 4) = true := by kernel_rfl
theorem g4 : (Rows.stateNoneRow.named == Tryz.prog.varsNamed 4) = true := by kernel_rfl
theorem g5 : Rows.stateNoneRow.wf (OpenSpec.ofChange Rows.stateNoneSpec) = true := by kernel_rfl
theorem g6 : laidOutB Tryz.prog = true := by kernel_rfl
theorem g7 : mapsRowed Tryz.prog = true := by kernel_rfl
theorem g8 : Tryz.prog.stopsHeard = true := by kernel_rfl
theorem g9 : Tryz.prog.mayEnter = true := by kernel_rfl
theorem g10 : (Rows.stateNoneRow.lifted == Tryz.prog.liftsFinal) = true := by kernel_rfl
theorem g11 : (Tryz.prog.make == some Rows.stateNoneRow.make) = true := by kernel_rfl
theorem g12 : (Rows.stateNoneRow.plainKeys == Tryz.prog.plainKeys) = true := by kernel_rfl
end Go.Proofs.YtphdffebnjekdaaGreat
