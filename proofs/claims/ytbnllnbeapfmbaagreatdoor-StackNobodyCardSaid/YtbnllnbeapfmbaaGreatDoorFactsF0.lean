/- The variables that StackNobody comes to, a part. -/
import Derived.Test.YtbnllnbeapfmbaaGreatDoorRows
import Derived.Test.YtbnllnbeapfmbaaGreatDoorFactsE
import Derived.KernelRfl
import Derived.JoinedOf
import Derived.SevenTiedAt
import Derived.Stop.Joined
namespace Go.Proofs.YtbnllnbeapfmbaaGreatDoor
open Go
theorem glo0 : (clo0.flatMap fun g => ((Tryz.prog.funcs[g]?).bind (·.body)).elim [] Code.globalsNamed) = ([5, 5, 5, 6, 7, 10, 4, 8, 9, 0, 0, 0, 0, 1] : List Nat) := by kernel_rfl
theorem rea0 : (clo0.filterMap fun g => (Tryz.prog.funcs[g]?).bind fun fn => if fn.body.isNone then entryReads.lookup fn.name else none) = (["internal/bytealg.MaxLen"] : List String) := by kernel_rfl
end Go.Proofs.YtbnllnbeapfmbaaGreatDoor
