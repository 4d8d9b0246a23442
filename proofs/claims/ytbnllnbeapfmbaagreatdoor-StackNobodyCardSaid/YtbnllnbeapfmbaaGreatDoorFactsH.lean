/- StackNobody starts no goroutine: no function of the program does. -/
import Derived.Test.YtbnllnbeapfmbaaGreatDoorRows
import Derived.KernelRfl
import Derived.JoinedOf
import Derived.SevenTiedAt
import Derived.Stop.Joined
namespace Go.Proofs.YtbnllnbeapfmbaaGreatDoor
open Go
theorem goes_none {P : Program} (h : P.funcs.any Func.goes = false) (name : String) : P.goesFrom name = false := by
  have hf : ∀ g : Nat, (P.funcs[g]?).any Func.goes = false := fun g => by
    cases hg : P.funcs[g]? with
    | none => rfl
    | some fn =>
      show Func.goes fn = false
      obtain ⟨hlt, rfl⟩ := Array.getElem?_eq_some_iff.1 hg
      have := Array.any_eq_false.1 h g hlt
      simpa using this
  unfold Program.goesFrom
  cases P.funcNamed name with
  | none => rfl
  | some f =>
    show P.goes f = false
    unfold Program.goes
    rw [h, Bool.and_false, Bool.or_false]
    exact List.any_eq_false.2 fun g _ => by rw [hf g]; decide
theorem go_none : Tryz.prog.funcs.any Func.goes = false := by kernel_rfl
theorem nb_goes : false = Rows.stackNobodyRow.goesBy Tryz.pinned.checked.prog := by
  have h : Tryz.pinned.checked.prog.goesFrom Rows.stackNobodyRow.func = false := goes_none go_none _
  unfold OpenClaim.goesBy Program.goesAt
  rw [h]; rfl
end Go.Proofs.YtbnllnbeapfmbaaGreatDoor
