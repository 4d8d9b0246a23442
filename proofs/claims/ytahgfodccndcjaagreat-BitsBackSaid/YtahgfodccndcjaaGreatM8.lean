/- An argument that is a slice of words, as the machine has it. -/
import Derived.Test.YtahgfodccndcjaaGreatSym2
import Derived.ProofKit
import Derived.ChangeSlices
import Derived.OpenShut
namespace Go.Proofs.YtahgfodccndcjaaGreatEng
open Go Go.ChangeShapes Go.WideShapes Go.RowKit

theorem block_of_shape {w : World} {b : Nat} {x : Nat × Nat} (h : w.shape? b = some x) : b < w.heap.size := by
  unfold World.shape? at h
  rcases Nat.lt_or_ge b w.heap.size with h' | h'
  · exact h'
  · simp [Array.getElem?_eq_none h'] at h
theorem okWide_has {P : Program} {w : World} {r : Reach} {base : Nat} {t e : TypeId} {a : Addr} {len cap : Nat} (ht : P.underlying t = some (.slice e)) (h : Value.okWide P w r base t (.slice (some a) len cap)) : a.spot = none ∧ a.block < w.heap.size := by
  simp only [Value.okWide, ht, Cell.okWide, Cell.ok, World.has] at h
  obtain ⟨_, _, _, h1, row, cells, h2, _⟩ := h
  exact ⟨h1, block_of_shape h2⟩

/-- A slice of words that came in. -/
theorem words_arg {H0 : Type} {enc : TypeId × Value → H0} {P : Program} {W : World} {r : Reach} {base : Nat} {t e : TypeId} {v : Value} {d : DataW H0} {p : List MemPlace} (ht : P.underlying t = some (.slice e)) (he : P.underlying e = some (.int .u64)) (hc : P.cellsOf e = 1)
    (hval : Value.okWide P W r base t v) (hd : DataW.Trod enc P W 0 (fun _ => true) true t v d p) :
    ∃ (a : V) (L : List Nat), VR (E0 W) a v ∧ U H.empty a L ∧ (∀ x ∈ L, x < 18446744073709551616) ∧ ((d = .nil ∧ L = []) ∨ ∃ l1 l2, d = .slice (lits .u64 l1) (lits .u64 l2) ∧ l1.length = L.length) := by
  obtain ⟨a0, len0, cap0, rfl⟩ := okWide_slice ht hval
  obtain ⟨fuel, hf⟩ := hd
  rcases open_ints ht he hc hf with ⟨hcs, hx⟩ | ⟨a, len, cap, zs, hcs, _, hl, _, hz, hx, hcell, hw⟩
  · simp [Value.cells] at hcs
    obtain ⟨rfl, rfl, rfl⟩ := hcs
    exact ⟨.nils, [], .nils, U.nils _, fun x h => (by cases h), .inl ⟨(Prod.mk.inj hx).1, rfl⟩⟩
  · simp [Value.cells] at hcs
    obtain ⟨rfl, rfl, rfl⟩ := hcs
    simp only [if_true] at hz
    obtain ⟨hsp, hb⟩ := okWide_has ht hval
    obtain ⟨b, off, sp⟩ := a
    simp only at hsp hb
    subst hsp
    have hwf : ∀ z ∈ zs, 0 ≤ z ∧ z < 18446744073709551616 := fun z hm => by
      have := hw z hm
      simp [Lit.wf, IntKind.min, IntKind.max, IntKind.signed, IntKind.bits] at this
      omega
    have hLl : ((zs.take len0).map Int.toNat).length = len0 := by simp; omega
    have hget : ∀ (i : Nat) (u : V), (((zs.take len0).map Int.toNat).map wd)[i]? = some u → i < len0 ∧ u = .int .u64 (zs.getD i 0) := fun i u h => by
      rw [List.getElem?_map, List.getElem?_map] at h
      obtain ⟨y, h1, rfl⟩ := Option.map_eq_some_iff.1 h
      obtain ⟨z, h2, rfl⟩ := Option.map_eq_some_iff.1 h1
      rw [List.getElem?_take] at h2
      split at h2
      · rename_i hi
        refine ⟨hi, ?_⟩
        have hm := List.mem_of_getElem? h2
        rw [List.getD_eq_getElem?_getD, h2]
        simp only [wd, Option.getD_some]
        congr 1
        have := hwf z hm; omega
      · cases h2
    refine ⟨.ros (((zs.take len0).map Int.toNat).map wd) 0 len0 cap0, (zs.take len0).map Int.toNat, ?_, ?_, ?_, .inr ⟨zs.take len0, zs.drop len0, (Prod.mk.inj hx).1, by simp⟩⟩
    · refine .ros _ 0 len0 cap0 b off (fun i => .int .u64 (zs.getD i 0)) _ hb hl (.inr rfl) (fun i u h => ?_) (fun i u h => ?_)
      · have := hcell i (by have := (hget i u h).1; omega)
        rw [add_plain] at this
        exact this
      · rw [(hget i u h).2]
        exact .int _ _
    · refine ⟨hl, by simp only [slLen, hLl], ?_⟩
      simp only [slCells, cut]
      rw [if_pos (by simp)]
      simp only [List.drop_zero, Nat.mul_one]
      rw [List.take_of_length_le (by simp)]
    · intro x hx'
      obtain ⟨z, hm, rfl⟩ := List.mem_map.1 hx'
      have := hwf z (List.mem_of_mem_take hm)
      omega
end Go.Proofs.YtahgfodccndcjaaGreatEng
