/- StackNobody, run on the machine: whatever its argument's cells are, it returns true. -/
import Derived.Test.YtbnllnbeapfmbaaGreatDoorCodes
import Derived.Test.YtbnllnbeapfmbaaGreatDoorEng31
namespace Go.Proofs.YtbnllnbeapfmbaaGreatDoorEng
open Go
def intr0 : Nat → Option (List V → H → CR)
  | 53 => some (iFields 9)
  | 360 => some iSame
  | _ => none
def T0 : Tab := { code := codes.find, intr := intr0 }
def isTrue : CR → Bool
  | .ret (.bool true) _ => true
  | _ => false
theorem isTrue_ret : ∀ {r : CR}, isTrue r = true → ∃ σ, r = .ret (.bool true) σ
  | .ret (.bool true) σ, _ => ⟨σ, rfl⟩
def any20 : List V := [.any, .any, .any, .any, .any, .any, .any, .any, .any, .any, .any, .any, .any, .any, .any, .any, .any, .any, .any, .any]
set_option maxRecDepth 1000000 in
theorem nobody_run : isTrue (call T0 100000 1000 3 [.agg any20] H.empty) = true := by kernel_rfl
end Go.Proofs.YtbnllnbeapfmbaaGreatDoorEng
