/- The variables that StackNobody names. -/
import Derived.Test.YtbnllnbeapfmbaaGreatDoorFactsF0
import Derived.Test.YtbnllnbeapfmbaaGreatDoorFactsF1
import Derived.Test.YtbnllnbeapfmbaaGreatDoorFactsF2
import Derived.Test.YtbnllnbeapfmbaaGreatDoorFactsF3
import Derived.KernelRfl
namespace Go.Proofs.YtbnllnbeapfmbaaGreatDoor
open Go
theorem nb12 : (Rows.stackNobodyRow.named == Tryz.prog.varsNamed 3) = true := by
  unfold Program.varsNamed
  rw [clo]
  simp only [List.flatMap_append, List.filterMap_append]
  rw [glo0, glo1, glo2, glo3, rea0, rea1, rea2, rea3]
  kernel_rfl
end Go.Proofs.YtbnllnbeapfmbaaGreatDoor
