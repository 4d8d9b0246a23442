/- The closed facts of the tie of StackNobody, one by one. -/
import Derived.Test.YtbnllnbeapfmbaaGreatDoorRows
import Derived.LaidByTextLater
import Derived.SevenTiedAt
import Derived.KernelRfl
namespace Go.Proofs.YtbnllnbeapfmbaaGreatDoor
open Go
/-- the places that the run lays -/
def tps : List MemPlace := MemPlace.row ⟨7, 0, Option.none⟩ 32 ++ (MemPlace.row ⟨4, 0, Option.none⟩ 20 ++ (MemPlace.row ⟨8, 0, Option.none⟩ 32 ++ (MemPlace.row ⟨9, 0, Option.none⟩ 64 ++ (MemPlace.row ⟨0, 0, Option.none⟩ 256 ++ (MemPlace.row ⟨1, 0, Option.none⟩ 1 ++ (MemPlace.row ⟨18, 0, Option.none⟩ 3 ++ MemPlace.row ⟨17, 0, Option.none⟩ 21))))))
def tkey : MemPlace → Nat
  | .cell b o => (match b with | 7 => 0 | 4 => 1 | 8 => 2 | 9 => 3 | 0 => 4 | 1 => 5 | 18 => 6 | _ => 7) * 1000 + o
  | .map _ => 0
def incB : List Nat → Bool
  | a :: b :: t => Nat.blt a b && incB (b :: t)
  | _ => true
theorem inc_pw : ∀ (a : Nat) (l : List Nat), incB (a :: l) = true → (∀ x ∈ l, a < x) ∧ l.Pairwise (· < ·)
  | _, [], _ => ⟨(fun _ h => nomatch h), List.Pairwise.nil⟩
  | a, b :: t, h => by
    have h' : Nat.blt a b = true ∧ incB (b :: t) = true := by simpa only [incB, Bool.and_eq_true] using h
    have hab : a < b := by simpa [Nat.blt_eq] using h'.1
    have ih := inc_pw b t h'.2
    refine ⟨fun x hx => ?_, .cons ih.1 ih.2⟩
    rcases List.mem_cons.1 hx with rfl | hx
    · exact hab
    · exact Nat.lt_trans hab (ih.1 x hx)
theorem nodup_inc (f : MemPlace → Nat) (l : List MemPlace) (h : incB (l.map f) = true) : l.Nodup := by
  have hp : (l.map f).Pairwise (· < ·) := by
    cases hl : l.map f with
    | nil => exact List.Pairwise.nil
    | cons a t =>
      rw [hl] at h
      have := inc_pw a t h
      exact .cons this.1 this.2
  rw [List.pairwise_map] at hp
  exact hp.imp fun hlt e => by subst e; exact Nat.lt_irrefl _ hlt
theorem tps_nodup : tps.Nodup := nodup_inc tkey tps (by kernel_rfl)
theorem ta0 : Tryz.prog.worded (varsWordLater true) = true := by kernel_rfl
theorem ta1 : Tryz.prog.worded (varsWordLater !true) = false := by kernel_rfl
theorem ta2 : Tryz.prog.worded rootWordLater = true := by kernel_rfl
theorem ta4 : (Tryz.prog.funcNamed "gosem.cut.vars").isSome = true := by kernel_rfl
theorem ta3 : ([("unicode/utf8.acceptRanges", Rows.laid_unicode_utf8_acceptRanges), ("internal/strconv.uint64pow10", Rows.laid_internal_strconv_uint64pow10), ("math/bits.deBruijn32tab", Rows.laid_math_bits_deBruijn32tab), ("math/bits.deBruijn64tab", Rows.laid_math_bits_deBruijn64tab), ("strings.asciiSpace", Rows.laid_strings_asciiSpace), ("unicode.White_Space", Rows.laid_unicode_White_Space)] : List (String × DataW Unit)).map (fun x => Tryz.prog.kindOfLater x.1) = ([.data, .data, .data, .data, .data, .listed] : List LaidKind).map some := by kernel_rfl
theorem ta5 : varsNamedLaterB Tryz.prog (varsId Tryz.prog) [("unicode/utf8.acceptRanges", Rows.laid_unicode_utf8_acceptRanges), ("internal/strconv.uint64pow10", Rows.laid_internal_strconv_uint64pow10), ("math/bits.deBruijn32tab", Rows.laid_math_bits_deBruijn32tab), ("math/bits.deBruijn64tab", Rows.laid_math_bits_deBruijn64tab), ("strings.asciiSpace", Rows.laid_strings_asciiSpace), ("unicode.White_Space", Rows.laid_unicode_White_Space)] = true := by kernel_rfl
theorem ta9 : (([("unicode/utf8.acceptRanges", Rows.laid_unicode_utf8_acceptRanges), ("internal/strconv.uint64pow10", Rows.laid_internal_strconv_uint64pow10), ("math/bits.deBruijn32tab", Rows.laid_math_bits_deBruijn32tab), ("math/bits.deBruijn64tab", Rows.laid_math_bits_deBruijn64tab), ("strings.asciiSpace", Rows.laid_strings_asciiSpace), ("unicode.White_Space", Rows.laid_unicode_White_Space)] : List (String × DataW Unit)).all fun x => x.2.handleName?.isNone) = true := by kernel_rfl
end Go.Proofs.YtbnllnbeapfmbaaGreatDoor
