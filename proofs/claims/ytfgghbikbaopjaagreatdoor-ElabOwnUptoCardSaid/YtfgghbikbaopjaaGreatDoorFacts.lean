/- The closed facts of the row, one by one. -/
import Derived.Test.YtfgghbikbaopjaaGreatDoorCards
import Derived.Test.YtfgghbikbaopjaaGreatDoorTie
import Derived.KernelRfl
import Derived.JoinedOf
import Derived.SevenTiedAt
import Derived.Stop.Joined
namespace Go.Proofs.YtfgghbikbaopjaaGreatDoor
open Go
theorem nb0 : Rows.elabOwnUptoRow.wf (OpenSpec.ofChange (Rows.OpenSpec.upto Rows.elabOwnSpec).bare) = true := by kernel_rfl
theorem nb1 : laidOutB Tryz.prog = true := by kernel_rfl
theorem nb2 : mapsRowed Tryz.prog = true := by kernel_rfl
theorem nb3 : Tryz.f3.params.all (Tryz.prog.readableRec ·) = true := by kernel_rfl
theorem nb4 : namedTie Tryz.prog Rows.elabOwnUptoRow.named (Rows.OpenSpec.upto Rows.elabOwnSpec).bare.vars = true := by kernel_rfl
theorem nb5 : (Rows.elabOwnUptoRow.stops == []) = true := by kernel_rfl
theorem nb6 : (Tryz.prog.stops == []) = true := by kernel_rfl
theorem nb7 : (Rows.elabOwnUptoRow.knobs == []) = true := by kernel_rfl
theorem nb8 : (Tryz.prog.stopKnobs == []) = true := by kernel_rfl
theorem nb9 : (Rows.elabOwnUptoRow.inPlace == Tryz.prog.inPlace 3) = true := by kernel_rfl
end Go.Proofs.YtfgghbikbaopjaaGreatDoor
