/- The engine, part 5: reading and writing rows of cells. -/
import Derived.Test.YtahgfodccndcjaaGreatEng4
import Derived.Laws.CopyRow
import Derived.Laws.Cells
namespace Go.Proofs.YtahgfodccndcjaaGreatEng
open Go

/-- A change of one block that stands for something. -/
theorem HRel.upd {P : Program} {E E' : Env} {σ : H} {w w' : World} (h : HRel P E σ w) {x : Pos} {b0 b' : Blk} {g : Nat} (hx : σ.get x = some b0)
    (hpl : ∃ v p, E.pl x v = some p) (hE : E.le E') (hEo : ∀ y u, y ≠ x → E'.pl y u = E.pl y u)
    (hos : w'.os = w.os) (htape : w'.tape = w.tape) (hout : w'.output = w.output) (hsz : w.heap.size ≤ w'.heap.size)
    (hg : ∀ b, b < w.heap.size → b ≠ g → w'.heap[b]? = w.heap[b]?) (hg0 : E.w0.heap.size ≤ g)
    (hgd : ∀ y u r, y ≠ x → live σ y u → E.pl y u = some r → r.blk ≠ g)
    (hrng : ∀ v p, E'.pl x v = some p → E.w0.heap.size ≤ p.blk ∧ p.blk < w'.heap.size)
    (hnew : match b' with
      | .cells ty c ver minv fz ex => (∀ v, ver < v → E'.pl x v = none) ∧ (∀ v e, minv ≤ v → v < ver → ex[ver - 1 - v]? = some e → e ≤ c.length) ∧ ∀ v cv p, visib c ver minv ex v = some cv → E'.pl x v = some p → PlaceOk P E' w' ty cv p ∧ (v = ver → Unfrozen w' fz p)
      | b => ∀ p, E'.pl x 0 = some p → ObjOk E' w' p b)
    (hsame : ∀ v u p q, E'.pl x v = some p → E'.pl x u = some q → p.blk = q.blk → p.lo = q.lo)
    (hdis : ∀ v p y u r, live (σ.put x b') x v → E'.pl x v = some p → y ≠ x → live σ y u → E.pl y u = some r → p.blk ≠ r.blk) :
    HRel P E' (σ.put x b') w' ∧ Ext E σ w E' (σ.put x b') w' := by
  have hget : ∀ y, y ≠ x → (σ.put x b').get y = σ.get y := fun y hy => by rw [H.get_put, if_neg hy]
  have hgetx : (σ.put x b').get x = some b' := by rw [H.get_put, if_pos rfl]
  have hold : ∀ y u r, y ≠ x → live σ y u → E.pl y u = some r → w'.heap[r.blk]? = w.heap[r.blk]? := fun y u r hy hl hr =>
    hg r.blk (h.rng y u r hr).2 (hgd y u r hy hl hr)
  refine ⟨{ old := ?_, sz := ?_, os := hos.trans ?_, tape := htape.trans ?_, out := hout.trans ?_, rng := ?_, fr := ?_, nx := ?_, st := ?_, vers := ?_, cel := ?_, exs := ?_, same := ?_, obj := ?_, dis := ?_ },
    { le := hE, nx := Nat.le_refl _, ck := by simp [H.put], evo := ?_, pend := ?_, wsz := hsz }⟩
  · intro b hb
    rw [hE.1] at hb ⊢
    rw [hg b (Nat.lt_of_lt_of_le hb h.sz) (by omega)]
    exact h.old b hb
  · rw [hE.1]; exact Nat.le_trans h.sz hsz
  · rw [hE.1]; exact h.os
  · rw [hE.1]; exact h.tape
  · rw [hE.1]; exact h.out
  · intro y u q hq
    rw [hE.1]
    by_cases e : y = x
    · subst e; exact hrng u q hq
    · rw [hEo y u e] at hq; have := h.rng y u q hq; exact ⟨this.1, by omega⟩
  · intro y u q hq
    show y.toNat < σ.nx.toNat
    by_cases e : y = x
    · subst e; exact h.get_lt hx
    · rw [hEo y u e] at hq; exact h.fr y u q hq
  · intro y hy
    have hy' : σ.nx.toNat ≤ y.toNat := hy
    have hne : y ≠ x := by rintro rfl; have := h.get_lt hx; omega
    rw [H.m_put, if_neg hne]; exact h.nx y hy'
  · intro y n b hy
    show n < σ.ck + 1
    rw [H.m_put] at hy
    by_cases e : y = x
    · rw [if_pos e] at hy; simp at hy; omega
    · rw [if_neg e] at hy; have := h.st y n b hy; omega
  · intro y ty c ver minv fz ex hy v hv
    by_cases e : y = x
    · subst e; rw [hgetx] at hy; simp at hy; subst hy; exact hnew.1 v hv
    · rw [hget y e] at hy; rw [hEo y v e]; exact h.vers y ty c ver minv fz ex hy v hv
  · intro y ty c ver minv fz ex hy v cv p hv hp
    by_cases e : y = x
    · subst e; rw [hgetx] at hy; simp at hy; subst hy; exact hnew.2.2 v cv p hv hp
    · rw [hget y e] at hy; rw [hEo y v e] at hp
      have hl : live σ y v := by unfold live; rw [hy]; simp [hv]
      obtain ⟨h1, h2⟩ := h.cel y ty c ver minv fz ex hy v cv p hv hp
      exact ⟨h1.mono hE (hold y v p e hl hp), fun e' => (h2 e').mono (hold y v p e hl hp)⟩
  · intro y ty c ver minv fz ex hy v e' h1 h2 h3
    by_cases e : y = x
    · subst e; rw [hgetx] at hy; simp at hy; subst hy; exact hnew.2.1 v e' h1 h2 h3
    · rw [hget y e] at hy; exact h.exs y ty c ver minv fz ex hy v e' h1 h2 h3
  · intro y v u p q hp hq hpq
    by_cases e : y = x
    · subst e; exact hsame v u p q hp hq hpq
    · rw [hEo y v e] at hp; rw [hEo y u e] at hq; exact h.same y v u p q hp hq hpq
  · intro y b p hy hp
    by_cases e : y = x
    · subst e; rw [hgetx] at hy; simp at hy; subst hy
      cases b' with
      | cells => trivial
      | sit s pos => exact hnew p hp
      | mp es => exact hnew p hp
    · rw [hget y e] at hy; rw [hEo y 0 e] at hp
      cases b with
      | cells => trivial
      | sit s pos =>
        have hl : live σ y 0 := by unfold live; rw [hy]
        exact (h.obj y _ p hy hp).mono hE (hold y 0 p e hl hp)
      | mp es =>
        have hl : live σ y 0 := by unfold live; rw [hy]
        exact (h.obj y _ p hy hp).mono hE (hold y 0 p e hl hp)
  · intro y z v u p q hne hy hz hp hq
    by_cases e : y = x <;> by_cases e' : z = x
    · exact absurd (e.trans e'.symm) hne
    · subst e
      rw [hEo z u e'] at hq
      exact hdis v p z u q hy hp e' ((live_of_get (hget z e') u).1 hz) hq
    · subst e'
      rw [hEo y v e] at hp
      exact (hdis u q y v p hz hq e ((live_of_get (hget y e) v).1 hy) hp).symm
    · rw [hEo y v e] at hp; rw [hEo z u e'] at hq
      exact h.dis y z v u p q hne ((live_of_get (hget y e) v).1 hy) ((live_of_get (hget z e') u).1 hz) hp hq
  · intro y n b hy
    rw [H.m_put] at hy
    by_cases e : y = x
    · rw [if_pos e] at hy; simp at hy; exact .inr (by omega)
    · rw [if_neg e] at hy; exact .inl hy
  · intro y hy hp
    have hne : y ≠ x := by rintro rfl; obtain ⟨v, p, h'⟩ := hpl; rw [hp v] at h'; simp at h'
    exact ⟨fun v => by rw [hEo y v hne]; exact hp v, by rw [H.m_put, if_neg hne]⟩

/- ---- rows ---- -/

theorem add_mk (b o n : Nat) : (⟨b, o, none⟩ : Addr).add n = ⟨b, o + n, none⟩ := by unfold Addr.add; split <;> simp_all
theorem Place.addr_add (p : Place) {o : Nat} (n : Nat) (h : p.lo ≤ o) : (p.addr o).add n = p.addr (o + n) := by
  unfold Place.addr; rw [add_mk]; congr 1; omega

theorem run_storeCells_pt (P : Program) (g o : Nat) (t : TypeId) (fz : Nat × Nat) : ∀ (vs : List Value) (i : Nat) (cur : Array Value) (w : World), w.heap[g]? = some (.cells cur t fz) →
    (∀ j, o + i ≤ j → j < o + i + vs.length → ¬ (fz.1 ≤ j ∧ j < fz.2)) → o + i + vs.length ≤ cur.size → (∀ v ∈ vs, v.oneCell' = true) →
    (storeCells ⟨g, o, none⟩ vs i).run P w = .ok () (w.setRow g (cur.toList.take (o + i) ++ vs ++ cur.toList.drop (o + i + vs.length)).toArray)
  | [], i, cur, w, hg, _, _, _ => by
    simp only [storeCells, List.append_nil, List.length_nil, Nat.add_zero, List.take_append_drop, Array.toArray_toList]
    rw [setRow_self w g cur t fz hg]
    rfl
  | v :: rest, i, cur, w, hg, hfz, hl, h1 => by
    have hi : o + i < cur.size := by simp at hl; omega
    have hcell : w.cell? ⟨g, o + i, none⟩ = some cur[o + i] := by simp [World.cell?, hg, hi]
    have hfro : w.frozen? ⟨g, o + i, none⟩ = false := by
      obtain ⟨lo, hi'⟩ := fz
      have := hfz (o + i) (Nat.le_refl _) (by simp)
      simp only [World.frozen?, hg, Bool.and_eq_false_iff, decide_eq_false_iff_not]
      simp only at this
      omega
    have hst : (store ((⟨g, o, none⟩ : Addr).add i) v).run P w = .ok () (w.setRow g (cur.setIfInBounds (o + i) v)) := by
      rw [add_mk, run_store P w _ v _ (h1 v (by simp)), hcell]
      simp [hfro, setCell_eq_setRow w g (o + i) cur t fz v hg]
    have ih := run_storeCells_pt P g o t fz rest (i + 1) (cur.setIfInBounds (o + i) v) (w.setRow g (cur.setIfInBounds (o + i) v)) (setRow_heap w g cur _ t _ hg)
      (fun j h1 h2 => hfz j (by omega) (by simp; omega)) (by simp at hl ⊢; omega) (fun x hx => h1 x (by simp [hx]))
    simp only [storeCells, Sem.run_bind, hst, Result.andThen_ok, ih, setRow_setRow]
    congr 3
    have e := list_seg_step cur.toList (o + i) v rest (by simp at hl ⊢; omega)
    simpa [Array.toList_setIfInBounds, Nat.add_assoc] using e

theorem setRow_other (w : World) (g b : Nat) (cs : Array Value) (h : b ≠ g) : (w.setRow g cs).heap[b]? = w.heap[b]? := by
  unfold World.setRow
  simp only [Array.getElem?_modify]
  rw [if_neg (by omega)]
theorem setRow_size (w : World) (g : Nat) (cs : Array Value) : (w.setRow g cs).heap.size = w.heap.size := by simp [World.setRow]

theorem cut_some {c : List V} {o n : Nat} {l : List V} (h : cut c o n = some l) : o + n ≤ c.length ∧ l = (c.drop o).take n := by
  unfold cut at h
  split at h
  · simp at h; exact ⟨by assumption, h.symm⟩
  · simp at h
theorem cut_length {c : List V} {o n : Nat} {l : List V} (h : cut c o n = some l) : l.length = n := by
  obtain ⟨h1, rfl⟩ := cut_some h
  simp; omega
theorem cut_get {c : List V} {o n : Nat} {l : List V} (h : cut c o n = some l) (i : Nat) (hi : i < n) : l[i]? = c[o + i]? := by
  obtain ⟨h1, rfl⟩ := cut_some h
  rw [List.getElem?_take, if_pos hi, List.getElem?_drop]

/-- A cell, where the place holds contents. -/
theorem PlaceOk.cell {P : Program} {E : Env} {w : World} {ty : Nat} {c : List V} {p : Place} (h : PlaceOk P E w ty c p) {i : Nat} {v : V} (hv : c[i]? = some v) (hl : p.lo ≤ i) :
    ∃ cv, w.cell? (p.addr i) = some cv ∧ VR E v cv := by
  obtain ⟨arr, fro, h1, _, _, _, h5⟩ := h
  obtain ⟨cv, h6, h7⟩ := h5 i v hv hl
  exact ⟨cv, by simp [World.cell?, Place.addr, h1, h6], h7⟩

/-- Cells that are read one by one. -/
theorem load_cells {P : Program} {E : Env} {w : World} (a : Addr) (l : List V) (h : ∀ (i : Nat) v, l[i]? = some v → ∃ cv, w.cell? (a.add i) = some cv ∧ VR E v cv) :
    ∃ arr : Array Value, (loadCells a l.length).run P w = .ok arr w ∧ VRL E l arr.toList ∧ arr.size = l.length ∧ ∀ j, j < l.length → w.cell? (a.add j) = arr[j]? := by
  have hex : ∀ i : Nat, ∃ cv, i < l.length → w.cell? (a.add i) = some cv ∧ (∀ v, l[i]? = some v → VR E v cv) := by
    intro i
    by_cases hi : i < l.length
    · obtain ⟨cv, h1, h2⟩ := h i _ (List.getElem?_eq_getElem hi)
      exact ⟨cv, fun _ => ⟨h1, fun v hv => by rw [List.getElem?_eq_getElem hi] at hv; simp at hv; exact hv ▸ h2⟩⟩
    · exact ⟨undef, fun hc => absurd hc hi⟩
  let f : Nat → Value := fun i => (hex i).choose
  have hf : ∀ i, i < l.length → w.cell? (a.add i) = some (f i) ∧ (∀ v, l[i]? = some v → VR E v (f i)) := fun i => (hex i).choose_spec
  refine ⟨((List.range l.length).map f).toArray, run_loadCells w a l.length f fun j hj => (hf j hj).1, ⟨by simp, fun i v cv h1 h2 => ?_⟩, by simp, fun j hj => ?_⟩
  · have hi : i < l.length := by
      rcases Nat.lt_or_ge i l.length with h | h
      · exact h
      · simp [List.getElem?_eq_none h] at h1
    simp [hi] at h2
    exact h2 ▸ (hf i hi).2 v h1
  · rw [(hf j hj).1]; simp [hj]

theorem PlaceOk.load {P : Program} {E : Env} {w : World} {ty : Nat} {c : List V} {p : Place} (h : PlaceOk P E w ty c p) {o n : Nat} {l : List V} (hc : cut c o n = some l) (hl : p.lo ≤ o) :
    ∃ arr : Array Value, (loadCells (p.addr o) n).run P w = .ok arr w ∧ VRL E l arr.toList ∧ arr.size = n ∧ ∀ j, j < n → w.cell? ((p.addr o).add j) = arr[j]? := by
  have hlen := cut_length hc
  have := load_cells (P := P) (E := E) (w := w) (p.addr o) l fun i v hv => by
    have hi : i < n := by
      rcases Nat.lt_or_ge i l.length with h | h
      · omega
      · simp [List.getElem?_eq_none h] at hv
    rw [cut_get hc i hi] at hv
    rw [Place.addr_add p i hl]
    exact h.cell hv (by omega)
  rwa [hlen] at this

/-- Memory that was there before. -/
theorem HRel.old_cell {P : Program} {E : Env} {σ : H} {w : World} (h : HRel P E σ w) {b o : Nat} (hb : b < E.w0.heap.size) : w.cell? ⟨b, o, none⟩ = E.w0.cell? ⟨b, o, none⟩ := by
  simp [World.cell?, h.old b hb]

theorem HRel.load_old {P : Program} {E : Env} {σ : H} {w : World} (h : HRel P E σ w) {c : List V} {b k : Nat} {f : Nat → Value} (hb : b < E.w0.heap.size)
    (hc : ∀ (i : Nat) v, c[i]? = some v → E.w0.cell? ⟨b, k + i, none⟩ = some (f i)) (hv : ∀ (i : Nat) v, c[i]? = some v → VR E v (f i)) {o n : Nat} {l : List V} (hcut : cut c o n = some l) :
    ∃ arr : Array Value, (loadCells ⟨b, k + o, none⟩ n).run P w = .ok arr w ∧ VRL E l arr.toList ∧ arr.size = n ∧ ∀ j, j < n → w.cell? ((⟨b, k + o, none⟩ : Addr).add j) = arr[j]? := by
  have hlen := cut_length hcut
  have := load_cells (P := P) (E := E) (w := w) ⟨b, k + o, none⟩ l fun i v hi => by
    have hin : i < n := by
      rcases Nat.lt_or_ge i l.length with h | h
      · omega
      · simp [List.getElem?_eq_none h] at hi
    rw [cut_get hcut i hin] at hi
    rw [add_mk, h.old_cell hb, Nat.add_assoc]
    exact ⟨f (o + i), hc _ _ hi, hv _ _ hi⟩
  rwa [hlen] at this

end Go.Proofs.YtahgfodccndcjaaGreatEng
