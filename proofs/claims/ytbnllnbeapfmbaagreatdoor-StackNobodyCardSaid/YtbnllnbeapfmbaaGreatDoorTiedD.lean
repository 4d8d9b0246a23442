/- The closed facts of the tie of StackNobody, one by one. -/
import Derived.Test.YtbnllnbeapfmbaaGreatDoorRows
import Derived.Test.YtbnllnbeapfmbaaGreatDoorTiedA
import Derived.LaidByTextLater
import Derived.SevenTiedAt
import Derived.KernelRfl
namespace Go.Proofs.YtbnllnbeapfmbaaGreatDoor
open Go
theorem ta8 : ∀ os tape, laidRowsB Tryz.prog (varsWorld Tryz.prog 60 (varsId Tryz.prog) os tape).memory tps = true := fun _ _ => by kernel_rfl
end Go.Proofs.YtbnllnbeapfmbaaGreatDoor
