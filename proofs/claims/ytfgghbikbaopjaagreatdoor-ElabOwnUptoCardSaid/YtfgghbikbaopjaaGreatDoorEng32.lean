/- The engine, part 32: tables of bytes that are laid; arguments of which nothing is known. -/
import Derived.Test.YtfgghbikbaopjaaGreatDoorEng30
import Derived.ProofKit
import Derived.OpenShut
import Derived.LaidMore
namespace Go.Proofs.YtfgghbikbaopjaaGreatDoorEng
open Go

theorem laidVars_mem {P : Program} {w : World} : ∀ {l : List (String × DataW Unit)} {ps : List MemPlace}, DataW.LaidVars P w l ps → ∀ {n : String} {d : DataW Unit}, (n, d) ∈ l →
    ∃ g t cs fuel p, P.globalNamed n = some g ∧ (P.globals[g]?).map (·.type) = some t ∧ w.var? P n = some cs ∧ DataW.trod (fun _ => ()) P w 0 (fun _ => true) false fuel t cs.toList = some (d, p)
  | [], _, _, _, _, h => by cases h
  | (n', d') :: r, ps, hl, n, d, h => by
    obtain ⟨g, t, cs, fuel, p, q, h1, h2, h3, h4, h5, _⟩ := hl
    rcases List.mem_cons.1 h with e | h'
    · obtain ⟨rfl, rfl⟩ := Prod.mk.inj e
      exact ⟨g, t, cs, fuel, p, h1, h2, h3, h4⟩
    · exact laidVars_mem h5 h'

/-- The cells of a laid table of bytes. -/
theorem byte_cells {P : Program} {W : World} {l : List (String × DataW Unit)} (h : laidMet P l W) {nm : String} {L : List Int} (hm : (nm, DataW.agg (L.map fun x => .lit (.int .u8 x))) ∈ l) {g t e n : Nat} (hg : P.globalNamed nm = some g)
    (ht : (P.globals[g]?).map (·.type) = some t) (hu : P.underlying t = some (.array n e)) (he : P.underlying e = some (.int .u8)) (h1 : P.cellsOf e = 1) (hct : P.cellsOf t = n) (hn : L.length = n) :
    ∀ r, r < n → W.cell? ⟨g, r, none⟩ = some (.int .u8 (L.getD r 0)) := by
  intro r hr
  obtain ⟨ps, hl, _⟩ := h
  obtain ⟨g', t', cs, fuel, p, q1, q2, hv, hd⟩ := laidVars_mem hl hm
  obtain rfl := Option.some.inj (hg.symm.trans q1)
  obtain rfl := Option.some.inj (ht.symm.trans q2)
  obtain ⟨xs, m, _, ex, hlen, hl', hel⟩ := DataW.trod_array hu hd
  have hE := hel r hr
  rw [h1, Nat.mul_one, List.getElem?_eq_getElem (by omega)] at hE
  obtain ⟨z, e1, e2, _⟩ := DataW.trod_int he hE
  have e3 : (xs.map (·.1)) = L.map fun n => .lit (.int .u8 n) := (DataW.agg.inj (Prod.mk.inj ex).1).symm
  have e4 : (xs.map (·.1))[r]? = (L.map fun n => (DataW.lit (.int .u8 n) : DataW Unit))[r]? := by rw [e3]
  rw [List.getElem?_map, List.getElem?_map, List.getElem?_eq_getElem (by omega : r < xs.length), List.getElem?_eq_getElem (by omega : r < L.length), e2] at e4
  have hz : z = L.getD r 0 := by
    simp only [Option.map_some, Option.some.injEq, DataW.lit.injEq, Lit.int.injEq, true_and] at e4
    rw [e4, List.getD, List.getElem?_eq_getElem (by omega : r < L.length)]; rfl
  rw [World.var?_cell hg hv r, ← hz]
  have : cs.toList[r]? = some (.int .u8 z) := by
    have h0 : ((cs.toList.drop r).take 1)[0]? = some (.int .u8 z) := by rw [e1]; rfl
    simpa using h0
  simpa using this

/-- What stands for it. -/
theorem VR_bytes {W : World} {L : List Int} {g : Nat} (h0 : 0 < L.length) (hc : ∀ r, r < L.length → W.cell? ⟨g, r, none⟩ = some (.int .u8 (L.getD r 0))) {E : Env} (hE : E.w0 = W) :
    VR E (.rop (L.map fun n => .int .u8 n) 0) (.pointer (some ⟨g, 0, none⟩)) := by
  subst hE
  have hb : g < E.w0.heap.size := World.block_lt_of_cell? _ _ (hc 0 h0)
  refine .rop _ 0 g 0 (fun i => .int .u8 (L.getD i 0)) hb (fun i v hi => ?_) (fun i v hi => ?_)
  · have hlt : i < L.length := by
      rcases Nat.lt_or_ge i L.length with h | h
      · exact h
      · rw [List.getElem?_eq_none (by simpa using h)] at hi; cases hi
    rw [Nat.zero_add]; exact hc i hlt
  · rw [List.getElem?_map] at hi
    obtain ⟨x, hx, rfl⟩ := Option.map_eq_some_iff.1 hi
    rw [List.getD, hx]
    exact .int _ _

theorem oneCell_of_okWide {P : Program} {w : World} {r : Reach} {b : Nat} {t : TypeId} {v : Value} (h : Cell.okWide P w r b t v) : v.oneCell' = true := by
  cases v <;> first | rfl | skip
  all_goals
    exfalso
    unfold Cell.okWide at h
    split at h <;> first | (rename_i e; cases e; done) | skip
    all_goals
      first
      | (rename_i e1 e2; cases e2; done)
      | (unfold Cell.ok at h; split at h <;> first | exact h | (rename_i e1 e2; cases e2))

theorem any_arg {P : Program} {w : World} {r : Reach} {b : Nat} {t : TypeId} {v : Value} {fs : Array Field} (hu : P.underlying t = some (.struct fs)) (h : Value.okWide P w r b t v) {n : Nat} (hn : P.cellsOf t = n) {E : Env} {c : List V}
    (hc : c = List.replicate n .any) : VR E (.agg c) v := by
  unfold Value.okWide at h
  rw [hu] at h
  obtain ⟨cs, rfl, hs, ts, _, _, hr⟩ := h
  subst hc
  refine .agg _ _ (by rw [List.length_replicate, hs, hn]) fun i v cv h1 h2 => ?_
  rw [List.getElem?_replicate] at h1
  split at h1
  · simp only [Option.some.injEq] at h1
    subst h1
    obtain ⟨u, _, hu⟩ := hr i cv h2
    exact .any _ (oneCell_of_okWide hu)
  · cases h1
end Go.Proofs.YtfgghbikbaopjaaGreatDoorEng
