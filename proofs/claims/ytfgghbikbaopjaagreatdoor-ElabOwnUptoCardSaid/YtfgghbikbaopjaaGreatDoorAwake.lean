/- awake, run apart: it returns true. -/
import Derived.Test.YtfgghbikbaopjaaGreatDoorCodes
import Derived.Test.YtfgghbikbaopjaaGreatDoorEng31
namespace Go.Proofs.YtfgghbikbaopjaaGreatDoorEng
open Go
def intr0 : Nat → Option (List V → H → CR)
  | 212 => some iSame
  | 225 => some (iFields 9)
  | 295 => some iAdd64
  | 320 => some iIxb
  | 322 => some (iMkNZ 5)
  | 336 => some iCnt
  | _ => none
def T0 : Tab := { code := codes.find, intr := intr0 }
def isTrue : CR → Bool
  | .ret (.bool true) _ => true
  | _ => false
theorem isTrue_ret : ∀ {r : CR}, isTrue r = true → ∃ σ, r = .ret (.bool true) σ
  | .ret (.bool true) σ, _ => ⟨σ, rfl⟩
set_option maxRecDepth 1000000 in
theorem awake_run : isTrue (call T0 100000 1000 7 [] H.empty) = true := by kernel_rfl
end Go.Proofs.YtfgghbikbaopjaaGreatDoorEng
