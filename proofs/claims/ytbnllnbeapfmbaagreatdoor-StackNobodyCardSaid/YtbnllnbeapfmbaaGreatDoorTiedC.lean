/- The closed facts of the tie of StackNobody, one by one. -/
import Derived.Test.YtbnllnbeapfmbaaGreatDoorRows
import Derived.Test.YtbnllnbeapfmbaaGreatDoorTiedA
import Derived.LaidByTextLater
import Derived.SevenTiedAt
import Derived.KernelRfl
namespace Go.Proofs.YtbnllnbeapfmbaaGreatDoor
open Go
theorem ta7 : ∀ os tape, DataW.laidRun Tryz.prog (varsWorld Tryz.prog 60 (varsId Tryz.prog) os tape).memory 8 (([("unicode/utf8.acceptRanges", Rows.laid_unicode_utf8_acceptRanges), ("internal/strconv.uint64pow10", Rows.laid_internal_strconv_uint64pow10), ("math/bits.deBruijn32tab", Rows.laid_math_bits_deBruijn32tab), ("math/bits.deBruijn64tab", Rows.laid_math_bits_deBruijn64tab), ("strings.asciiSpace", Rows.laid_strings_asciiSpace), ("unicode.White_Space", Rows.laid_unicode_White_Space)] : List (String × DataW Unit)).map (·.1)) = some ([("unicode/utf8.acceptRanges", Rows.laid_unicode_utf8_acceptRanges), ("internal/strconv.uint64pow10", Rows.laid_internal_strconv_uint64pow10), ("math/bits.deBruijn32tab", Rows.laid_math_bits_deBruijn32tab), ("math/bits.deBruijn64tab", Rows.laid_math_bits_deBruijn64tab), ("strings.asciiSpace", Rows.laid_strings_asciiSpace), ("unicode.White_Space", Rows.laid_unicode_White_Space)], tps) := fun _ _ => by kernel_rfl
end Go.Proofs.YtbnllnbeapfmbaaGreatDoor
