/- The closed facts of the row, one by one. -/
import Derived.Test.YtbnllnbeapfmbaaGreatDoorRows
import Derived.KernelRfl
import Derived.JoinedOf
import Derived.SevenTiedAt
import Derived.Stop.Joined
namespace Go.Proofs.YtbnllnbeapfmbaaGreatDoor
open Go
theorem nb_name : Tryz.prog.funcNamed "tribunal/tribunallaw24.StackNobody" = some 3 := by kernel_rfl
theorem nb_inst : Tryz.f3.isInstance Tryz.pinned.checked.prog Rows.stackNobodyRow.origin Rows.stackNobodyRow.targs := of_decide_eq_true (by kernel_rfl)
theorem nb_wrap : Tryz.f3.isWrapper Tryz.pinned.checked.prog Rows.stackNobodyRow.wrapper Rows.stackNobodyRow.mainSum := by unfold Func.isWrapper; first | (rw [if_pos (by decide +kernel)]; kernel_rfl) | (rw [if_neg (by decide +kernel)]; exact ⟨rfl, rfl⟩)
theorem nb_wf : Rows.stackNobodyRow.wfByText (OpenSpec.ofChange Rows.stackNobodySpec) = true := by kernel_rfl
theorem nb_main : Tryz.pinned.checked.prog.mainIs = some (true, "d1a09f5923c599f8b6393819bc75be5592d1bce4f349b60e4bb1e3a18b56a92d".toList) := by kernel_rfl
theorem nb_looks : true = Tryz.pinned.checked.prog.looks [] := by kernel_rfl
theorem nb_stand : ([37].all fun u => !Tryz.prog.wantsStandIn u) = true := by kernel_rfl
end Go.Proofs.YtbnllnbeapfmbaaGreatDoor
