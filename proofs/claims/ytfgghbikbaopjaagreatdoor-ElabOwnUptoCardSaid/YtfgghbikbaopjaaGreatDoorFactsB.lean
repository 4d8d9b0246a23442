/- The closed facts of the row, one by one. -/
import Derived.Test.YtfgghbikbaopjaaGreatDoorCards
import Derived.Test.YtfgghbikbaopjaaGreatDoorTie
import Derived.KernelRfl
import Derived.JoinedOf
import Derived.SevenTiedAt
import Derived.Stop.Joined
namespace Go.Proofs.YtfgghbikbaopjaaGreatDoor
open Go
theorem nb10 : (Rows.elabOwnUptoRow.unfollowed == Tryz.prog.unfollowed 3) = true := by kernel_rfl
theorem nb11 : (Rows.elabOwnUptoRow.recurses == Tryz.prog.recurses 3) = true := by kernel_rfl
end Go.Proofs.YtfgghbikbaopjaaGreatDoor
