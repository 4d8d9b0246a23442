/- The closed facts of the row, one by one. -/
import Derived.Test.YtfgghbikbaopjaaGreatDoorCards
import Derived.Test.YtfgghbikbaopjaaGreatDoorTie
import Derived.KernelRfl
import Derived.JoinedOf
import Derived.SevenTiedAt
import Derived.Stop.Joined
namespace Go.Proofs.YtfgghbikbaopjaaGreatDoor
open Go
theorem nb_name : Tryz.prog.funcNamed "tribunal/tribunallaw08.ElabOwn" = some 3 := by kernel_rfl
theorem nb_inst : Tryz.f3.isInstance Tryz.pinned.checked.prog Rows.elabOwnUptoRow.origin Rows.elabOwnUptoRow.targs := of_decide_eq_true (by kernel_rfl)
theorem nb_wrap : Tryz.f3.isWrapper Tryz.pinned.checked.prog Rows.elabOwnUptoRow.wrapper Rows.elabOwnUptoRow.mainSum := by unfold Func.isWrapper; first | (rw [if_pos (by decide +kernel)]; kernel_rfl) | (rw [if_neg (by decide +kernel)]; exact ⟨rfl, rfl⟩)
theorem nb_wf : Rows.elabOwnUptoRow.wfByText (Rows.OpenSpec.upto Rows.elabOwnSpec) = true := by kernel_rfl
theorem nb_main : Tryz.pinned.checked.prog.mainIs = some (true, "5eb932d640fb09bbdb294dbfe636880b2e5fe5907ddbbb94e8ba69101b7528b5".toList) := by kernel_rfl
theorem nb_looks : true = Tryz.pinned.checked.prog.looks [] := by kernel_rfl
theorem nb_stand : ([26].all fun u => !Tryz.prog.wantsStandIn u) = true := by kernel_rfl
theorem nb_goes : false = Rows.elabOwnUptoRow.goesBy Tryz.pinned.checked.prog := by kernel_rfl
end Go.Proofs.YtfgghbikbaopjaaGreatDoor
