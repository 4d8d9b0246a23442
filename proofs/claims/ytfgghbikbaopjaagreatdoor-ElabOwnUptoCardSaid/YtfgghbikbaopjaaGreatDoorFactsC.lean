/- The closed facts of the row, one by one. -/
import Derived.Test.YtfgghbikbaopjaaGreatDoorCards
import Derived.Test.YtfgghbikbaopjaaGreatDoorTie
import Derived.KernelRfl
import Derived.JoinedOf
import Derived.SevenTiedAt
import Derived.Stop.Joined
namespace Go.Proofs.YtfgghbikbaopjaaGreatDoor
open Go
theorem nb12 : (Rows.elabOwnUptoRow.named == Tryz.prog.varsNamed 3) = true := by kernel_rfl
theorem nb13 : (Rows.elabOwnUptoRow.maps == (Tryz.f3.params.toList ++ (Rows.OpenSpec.upto Rows.elabOwnSpec).bare.plain.varTypes Tryz.prog).any (Tryz.prog.mapsRec ·)) = true := by kernel_rfl
theorem nb14 : (Rows.elabOwnUptoRow.ifaces == (Tryz.f3.params.toList ++ (Rows.OpenSpec.upto Rows.elabOwnSpec).bare.plain.varTypes Tryz.prog).any (Tryz.prog.ifacesRec ·)) = true := by kernel_rfl
theorem nb15 : (Rows.elabOwnUptoRow.mapsOut == Tryz.prog.mapsAmong Tryz.f3.resultTypes.toList) = true := by kernel_rfl
theorem nb16 : (Rows.elabOwnUptoRow.loops == (Tryz.f3.params.toList ++ (Rows.OpenSpec.upto Rows.elabOwnSpec).bare.plain.varTypes Tryz.prog).any (Tryz.prog.loopsFrom ·)) = true := by kernel_rfl
theorem nb17 : (Rows.elabOwnUptoRow.wideKeys == (Tryz.f3.params.toList ++ (Rows.OpenSpec.upto Rows.elabOwnSpec).bare.plain.varTypes Tryz.prog ++ Tryz.f3.resultTypes.toList).any (Tryz.prog.wideKeysFrom ·)) = true := by kernel_rfl
theorem nb18 : (Rows.OpenSpec.upto Rows.elabOwnSpec).bare.vars.all (Tryz.prog.varReadable ·) = true := by kernel_rfl
theorem nb19 : Tryz.f3.resultTypes.all (fun t => Tryz.prog.readableRec t && decide (t < Tryz.prog.types.size)) = true := by kernel_rfl
theorem nb20 : (Rows.elabOwnUptoRow.ifacesOut == Tryz.f3.resultTypes.toList.any (Tryz.prog.ifacesRec ·)) = true := by kernel_rfl
theorem nb21 : (Rows.elabOwnUptoRow.loopsOut == Tryz.f3.resultTypes.toList.any (Tryz.prog.loopsFrom ·)) = true := by kernel_rfl
theorem nb22 : (Rows.elabOwnUptoRow.plainKeys == Tryz.prog.plainKeys) = true := by kernel_rfl
theorem nb23 : Rows.elabOwnUptoRow.shortTexts.isNone = true := by kernel_rfl
theorem nb24 : Tryz.prog.stopsHeard = true := by kernel_rfl
theorem nb25 : Tryz.prog.mayEnter = true := by kernel_rfl
theorem nb26 : (Rows.elabOwnUptoRow.lifted == Tryz.prog.liftsFinal) = true := by kernel_rfl
theorem nb27 : (Tryz.prog.make == some Rows.elabOwnUptoRow.make) = true := by kernel_rfl
theorem nb28 : (Rows.elabOwnUptoRow.kinds == (if Rows.elabOwnUptoRow.domain.isEmpty then [] else Tryz.f3.params.toList.map fun t => match Tryz.prog.underlying t with | some (.int k) => some k | _ => none)) = true := by kernel_rfl
theorem nb29 : (Rows.elabOwnUptoRow.pinned == Rows.elabOwnUptoRow.pinnedBy) = true := by kernel_rfl
theorem nb30 : (Rows.elabOwnUptoRow.veiled == (Tryz.f3.params.toList ++ (Rows.OpenSpec.upto Rows.elabOwnSpec).bare.plain.varTypes Tryz.prog ++ Tryz.f3.resultTypes.toList).any (Tryz.prog.veiledRec ·)) = true := by kernel_rfl
theorem nb31 : Rows.elabOwnUptoRow.veiledFits Tryz.prog Tryz.f3.params.toList (Tryz.f3.params.toList ++ (Rows.OpenSpec.upto Rows.elabOwnSpec).bare.plain.varTypes Tryz.prog ++ Tryz.f3.resultTypes.toList) = true := by kernel_rfl
end Go.Proofs.YtfgghbikbaopjaaGreatDoor
