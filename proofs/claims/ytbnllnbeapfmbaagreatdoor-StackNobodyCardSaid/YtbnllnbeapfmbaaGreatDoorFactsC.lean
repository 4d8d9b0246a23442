/- The closed facts of the row, one by one. -/
import Derived.Test.YtbnllnbeapfmbaaGreatDoorRows
import Derived.KernelRfl
import Derived.JoinedOf
import Derived.SevenTiedAt
import Derived.Stop.Joined
namespace Go.Proofs.YtbnllnbeapfmbaaGreatDoor
open Go
theorem nb13 : (Rows.stackNobodyRow.maps == (Tryz.f3.params.toList ++ Rows.stackNobodySpec.plain.varTypes Tryz.prog).any (Tryz.prog.mapsRec ·)) = true := by kernel_rfl
theorem nb14 : (Rows.stackNobodyRow.ifaces == (Tryz.f3.params.toList ++ Rows.stackNobodySpec.plain.varTypes Tryz.prog).any (Tryz.prog.ifacesRec ·)) = true := by kernel_rfl
theorem nb15 : (Rows.stackNobodyRow.mapsOut == Tryz.prog.mapsAmong Tryz.f3.resultTypes.toList) = true := by kernel_rfl
theorem nb16 : (Rows.stackNobodyRow.loops == (Tryz.f3.params.toList ++ Rows.stackNobodySpec.plain.varTypes Tryz.prog).any (Tryz.prog.loopsFrom ·)) = true := by kernel_rfl
theorem nb17 : (Rows.stackNobodyRow.wideKeys == (Tryz.f3.params.toList ++ Rows.stackNobodySpec.plain.varTypes Tryz.prog ++ Tryz.f3.resultTypes.toList).any (Tryz.prog.wideKeysFrom ·)) = true := by kernel_rfl
theorem nb18 : Rows.stackNobodySpec.vars.all (Tryz.prog.varReadable ·) = true := by kernel_rfl
theorem nb19 : Tryz.f3.resultTypes.all (fun t => Tryz.prog.readableRec t && decide (t < Tryz.prog.types.size)) = true := by kernel_rfl
theorem nb20 : (Rows.stackNobodyRow.ifacesOut == Tryz.f3.resultTypes.toList.any (Tryz.prog.ifacesRec ·)) = true := by kernel_rfl
theorem nb21 : (Rows.stackNobodyRow.loopsOut == Tryz.f3.resultTypes.toList.any (Tryz.prog.loopsFrom ·)) = true := by kernel_rfl
theorem nb22 : (Rows.stackNobodyRow.plainKeys == Tryz.prog.plainKeys) = true := by kernel_rfl
theorem nb23 : Rows.stackNobodyRow.shortTexts.isNone = true := by kernel_rfl
theorem nb24 : Tryz.prog.stopsHeard = true := by kernel_rfl
theorem nb25 : Tryz.prog.mayEnter = true := by kernel_rfl
theorem nb26 : (Rows.stackNobodyRow.lifted == Tryz.prog.liftsFinal) = true := by kernel_rfl
theorem nb27 : (Tryz.prog.make == some Rows.stackNobodyRow.make) = true := by kernel_rfl
theorem nb28 : (Rows.stackNobodyRow.kinds == (if Rows.stackNobodyRow.domain.isEmpty then [] else Tryz.f3.params.toList.map fun t => match Tryz.prog.underlying t with | some (.int k) => some k | _ => none)) = true := by kernel_rfl
theorem nb29 : (Rows.stackNobodyRow.pinned == Rows.stackNobodyRow.pinnedBy) = true := by kernel_rfl
theorem nb30 : (Rows.stackNobodyRow.veiled == (Tryz.f3.params.toList ++ Rows.stackNobodySpec.plain.varTypes Tryz.prog ++ Tryz.f3.resultTypes.toList).any (Tryz.prog.veiledRec ·)) = true := by kernel_rfl
theorem nb31 : Rows.stackNobodyRow.veiledFits Tryz.prog Tryz.f3.params.toList (Tryz.f3.params.toList ++ Rows.stackNobodySpec.plain.varTypes Tryz.prog ++ Tryz.f3.resultTypes.toList) = true := by kernel_rfl
end Go.Proofs.YtbnllnbeapfmbaaGreatDoor
