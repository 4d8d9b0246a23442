/- The tie of StackNobody's row, of its closed facts. -/
import Derived.Test.YtbnllnbeapfmbaaGreatDoorCards
import Derived.Test.YtbnllnbeapfmbaaGreatDoorTiedA
import Derived.Test.YtbnllnbeapfmbaaGreatDoorTiedB
import Derived.Test.YtbnllnbeapfmbaaGreatDoorTiedC
import Derived.Test.YtbnllnbeapfmbaaGreatDoorTiedD
import Derived.Test.YtbnllnbeapfmbaaGreatDoorTiedE
import Derived.LaidByTextLater
import Derived.SevenTiedAt
namespace Go.Proofs.YtbnllnbeapfmbaaGreatDoor
open Go
theorem tie : Tryz.prog.laidByTextLater [("unicode/utf8.acceptRanges", Rows.laid_unicode_utf8_acceptRanges), ("internal/strconv.uint64pow10", Rows.laid_internal_strconv_uint64pow10), ("math/bits.deBruijn32tab", Rows.laid_math_bits_deBruijn32tab), ("math/bits.deBruijn64tab", Rows.laid_math_bits_deBruijn64tab), ("strings.asciiSpace", Rows.laid_strings_asciiSpace), ("unicode.White_Space", Rows.laid_unicode_White_Space)] [.data, .data, .data, .data, .data, .listed] true :=
  Program.laidByTextLater_by_run 60 8 ta0 ta1 ta2 ta3 ta4 ta5 ta6 (fun os tape => by rw [ta7 os tape]; rfl)
    (fun os tape => by
      rw [ta7 os tape]
      show some (decide tps.Nodup && laidRowsB Tryz.prog (varsWorld Tryz.prog 60 (varsId Tryz.prog) os tape).memory tps) = some true
      rw [ta8 os tape, decide_eq_true tps_nodup]; rfl) ta9
theorem stackNobody_row_tie : Rows.stackNobodyRow.laidByTextAt .later Tryz.pinned [.pinned, .data, .pinned, .data, .data, .data, .data, .listed] true :=
  OpenClaim.laidByTextAt_pinned rfl rfl tie rfl rfl rfl rfl (fun y hy _e => by
    simp only [Rows.stackNobodyRow, List.zip_cons_cons, List.zip_nil_right, List.mem_cons, List.mem_nil_iff, or_false] at hy
    rcases hy with rfl | rfl | rfl | rfl | rfl | rfl | rfl | rfl
    · exact ⟨pin_laid_unicode_utf8_first, pin_a⟩
    · cases _e
    · exact ⟨pin_laid_unicode_CaseRanges, pin_b⟩
    · cases _e
    · cases _e
    · cases _e
    · cases _e
    · cases _e) fits1
end Go.Proofs.YtbnllnbeapfmbaaGreatDoor
