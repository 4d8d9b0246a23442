/- The closed facts of ElabNobody's row, one by one. -/
import Derived.Test.YtfgghbikbaopjaaGreatDoorCards
import Derived.Test.YtfgghbikbaopjaaGreatDoorTie
import Derived.KernelRfl
import Derived.JoinedOf
import Derived.SevenTiedAt
import Derived.Stop.Joined
namespace Go.Proofs.YtfgghbikbaopjaaGreatDoor
open Go
theorem nb0 : Rows.elabNobodyRow.wf (OpenSpec.ofChange Rows.elabNobodySpec) = true := by kernel_rfl
theorem nb1 : laidOutB Tryz.prog = true := by kernel_rfl
theorem nb2 : mapsRowed Tryz.prog = true := by kernel_rfl
theorem nb3 : Tryz.f5.params.all (Tryz.prog.readableRec ·) = true := by kernel_rfl
theorem nb4 : namedTie Tryz.prog Rows.elabNobodyRow.named Rows.elabNobodySpec.vars = true := by kernel_rfl
theorem nb5 : (Rows.elabNobodyRow.stops == []) = true := by kernel_rfl
theorem nb6 : (Tryz.prog.stops == []) = true := by kernel_rfl
theorem nb7 : (Rows.elabNobodyRow.knobs == []) = true := by kernel_rfl
theorem nb8 : (Tryz.prog.stopKnobs == []) = true := by kernel_rfl
theorem nb9 : (Rows.elabNobodyRow.inPlace == Tryz.prog.inPlace 5) = true := by kernel_rfl
theorem nb10 : (Rows.elabNobodyRow.unfollowed == Tryz.prog.unfollowed 5) = true := by kernel_rfl
theorem nb11 : (Rows.elabNobodyRow.recurses == Tryz.prog.recurses 5) = true := by kernel_rfl
end Go.Proofs.YtfgghbikbaopjaaGreatDoor
