/- The variables that StackNobody comes to, a part. -/
import Derived.Test.YtbnllnbeapfmbaaGreatDoorRows
import Derived.Test.YtbnllnbeapfmbaaGreatDoorFactsE
import Derived.KernelRfl
import Derived.JoinedOf
import Derived.SevenTiedAt
import Derived.Stop.Joined
namespace Go.Proofs.YtbnllnbeapfmbaaGreatDoor
open Go
theorem glo3 : (clo3.flatMap fun g => ((Tryz.prog.funcs[g]?).bind (·.body)).elim [] Code.globalsNamed) = ([] : List Nat) := by kernel_rfl
theorem rea3 : (clo3.filterMap fun g => (Tryz.prog.funcs[g]?).bind fun fn => if fn.body.isNone then entryReads.lookup fn.name else none) = ([] : List String) := by kernel_rfl
end Go.Proofs.YtbnllnbeapfmbaaGreatDoor
