/- The closed facts of the row, one by one. -/
import Derived.Test.YtbnllnbeapfmbaaGreatDoorRows
import Derived.KernelRfl
import Derived.JoinedOf
import Derived.SevenTiedAt
import Derived.Stop.Joined
namespace Go.Proofs.YtbnllnbeapfmbaaGreatDoor
open Go
theorem nb10 : (Rows.stackNobodyRow.unfollowed == Tryz.prog.unfollowed 3) = true := by kernel_rfl
theorem nb11 : (Rows.stackNobodyRow.recurses == Tryz.prog.recurses 3) = true := by kernel_rfl
end Go.Proofs.YtbnllnbeapfmbaaGreatDoor
