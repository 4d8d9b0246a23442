/- The closed facts of ElabNobody's row, one by one. -/
import Derived.Test.YtfgghbikbaopjaaGreatDoorCards
import Derived.Test.YtfgghbikbaopjaaGreatDoorTie
import Derived.KernelRfl
import Derived.JoinedOf
import Derived.SevenTiedAt
import Derived.Stop.Joined
namespace Go.Proofs.YtfgghbikbaopjaaGreatDoor
open Go
theorem nb12 : (Rows.elabNobodyRow.named == Tryz.prog.varsNamed 5) = true := by kernel_rfl
theorem nb13 : (Rows.elabNobodyRow.maps == (Tryz.f5.params.toList ++ Rows.elabNobodySpec.plain.varTypes Tryz.prog).any (Tryz.prog.mapsRec ·)) = true := by kernel_rfl
theorem nb14 : (Rows.elabNobodyRow.ifaces == (Tryz.f5.params.toList ++ Rows.elabNobodySpec.plain.varTypes Tryz.prog).any (Tryz.prog.ifacesRec ·)) = true := by kernel_rfl
theorem nb15 : (Rows.elabNobodyRow.mapsOut == Tryz.prog.mapsAmong Tryz.f5.resultTypes.toList) = true := by kernel_rfl
theorem nb16 : (Rows.elabNobodyRow.loops == (Tryz.f5.params.toList ++ Rows.elabNobodySpec.plain.varTypes Tryz.prog).any (Tryz.prog.loopsFrom ·)) = true := by kernel_rfl
theorem nb17 : (Rows.elabNobodyRow.wideKeys == (Tryz.f5.params.toList ++ Rows.elabNobodySpec.plain.varTypes Tryz.prog ++ Tryz.f5.resultTypes.toList).any (Tryz.prog.wideKeysFrom ·)) = true := by kernel_rfl
theorem nb18 : Rows.elabNobodySpec.vars.all (Tryz.prog.varReadable ·) = true := by kernel_rfl
theorem nb19 : Tryz.f5.resultTypes.all (fun t => Tryz.prog.readableRec t && decide (t < Tryz.prog.types.size)) = true := by kernel_rfl
theorem nb20 : (Rows.elabNobodyRow.ifacesOut == Tryz.f5.resultTypes.toList.any (Tryz.prog.ifacesRec ·)) = true := by kernel_rfl
theorem nb21 : (Rows.elabNobodyRow.loopsOut == Tryz.f5.resultTypes.toList.any (Tryz.prog.loopsFrom ·)) = true := by kernel_rfl
theorem nb22 : (Rows.elabNobodyRow.plainKeys == Tryz.prog.plainKeys) = true := by kernel_rfl
theorem nb23 : Rows.elabNobodyRow.shortTexts.isNone = true := by kernel_rfl
theorem nb24 : Tryz.prog.stopsHeard = true := by kernel_rfl
theorem nb25 : Tryz.prog.mayEnter = true := by kernel_rfl
theorem nb26 : (Rows.elabNobodyRow.lifted == Tryz.prog.liftsFinal) = true := by kernel_rfl
theorem nb27 : (Tryz.prog.make == some Rows.elabNobodyRow.make) = true := by kernel_rfl
theorem nb28 : (Rows.elabNobodyRow.kinds == (if Rows.elabNobodyRow.domain.isEmpty then [] else Tryz.f5.params.toList.map fun t => match Tryz.prog.underlying t with | some (.int k) => some k | _ => none)) = true := by kernel_rfl
theorem nb29 : (Rows.elabNobodyRow.pinned == Rows.elabNobodyRow.pinnedBy) = true := by kernel_rfl
theorem nb30 : (Rows.elabNobodyRow.veiled == (Tryz.f5.params.toList ++ Rows.elabNobodySpec.plain.varTypes Tryz.prog ++ Tryz.f5.resultTypes.toList).any (Tryz.prog.veiledRec ·)) = true := by kernel_rfl
theorem nb31 : Rows.elabNobodyRow.veiledFits Tryz.prog Tryz.f5.params.toList (Tryz.f5.params.toList ++ Rows.elabNobodySpec.plain.varTypes Tryz.prog ++ Tryz.f5.resultTypes.toList) = true := by kernel_rfl
theorem nb_name : Tryz.prog.funcNamed "tribunal/tribunallaw08.ElabNobody" = some 5 := by kernel_rfl
theorem nb_inst : Tryz.f5.isInstance Tryz.pinned.checked.prog Rows.elabNobodyRow.origin Rows.elabNobodyRow.targs := of_decide_eq_true (by kernel_rfl)
theorem nb_wrap : Tryz.f5.isWrapper Tryz.pinned.checked.prog Rows.elabNobodyRow.wrapper Rows.elabNobodyRow.mainSum := by unfold Func.isWrapper; first | (rw [if_pos (by decide +kernel)]; kernel_rfl) | (rw [if_neg (by decide +kernel)]; exact ⟨rfl, rfl⟩)
theorem nb_wf : Rows.elabNobodyRow.wfByText (OpenSpec.ofChange Rows.elabNobodySpec) = true := by kernel_rfl
theorem nb_main : Tryz.pinned.checked.prog.mainIs = some (true, "5eb932d640fb09bbdb294dbfe636880b2e5fe5907ddbbb94e8ba69101b7528b5".toList) := by kernel_rfl
theorem nb_looks : true = Tryz.pinned.checked.prog.looks [] := by kernel_rfl
theorem nb_stand : ([77].all fun u => !Tryz.prog.wantsStandIn u) = true := by kernel_rfl
theorem nb_goes : false = Rows.elabNobodyRow.goesBy Tryz.pinned.checked.prog := by kernel_rfl
end Go.Proofs.YtfgghbikbaopjaaGreatDoor
