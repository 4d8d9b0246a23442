/- The engine, part 15: writing cells. -/
import Derived.Test.YtplaefbblpiehaaEng14
namespace Go.Proofs.YtplaefbblpiehaaEng
open Go
section
variable {P : Program} {G : Nat → Option V} {E : Env} {τ : Tr V} {ρ : Operand → Value} {σ : H} {w : World}

theorem splice_get {α : Type} (l vs : List α) (k i : Nat) (hk : k + vs.length ≤ l.length) :
    (l.take k ++ vs ++ l.drop (k + vs.length))[i]? = if i < k then l[i]? else if i < k + vs.length then vs[i - k]? else l[i]? := by
  have h1 : (l.take k).length = k := by simp; omega
  by_cases hi : i < k
  · rw [if_pos hi, List.append_assoc, List.getElem?_append_left (by omega), List.getElem?_take, if_pos hi]
  · rw [if_neg hi, List.append_assoc, List.getElem?_append_right (by omega), h1]
    by_cases h2 : i < k + vs.length
    · rw [if_pos h2, List.getElem?_append_left (by omega)]
    · rw [if_neg h2, List.getElem?_append_right (by omega), List.getElem?_drop]
      congr 1; omega

theorem all_one {vs : List V} {VS : List Value} (h : VRL E vs VS) (h1 : vs.all V.one = true) : ∀ v ∈ VS, v.oneCell' = true := by
  intro cv hcv
  obtain ⟨i, hi, rfl⟩ := List.getElem_of_mem hcv
  have hlen := h.1
  have hv : vs[i]? = some (vs[i]'(by omega)) := List.getElem?_eq_getElem _
  have hr := h.2 i _ _ hv (List.getElem?_eq_getElem hi)
  exact hr.oneCell (by rw [List.all_eq_true] at h1; exact h1 _ (List.getElem_mem _))

/-- The cells of a row that is written. -/
theorem PlaceOk.splice {ty : Nat} {c : List V} {p : Place} (h : PlaceOk P E w ty c p) {o : Nat} {vs : List V} {VS : List Value} (hvs : VRL E vs VS) (hlo : p.lo ≤ o) (hle : o + vs.length ≤ c.length) (h1 : vs.all V.one = true)
    {f : Nat} (hfz : Unfrozen w (some f) p) (hf : f ≤ o) :
    ∃ arr', (storeCells (p.addr o) VS).run P w = .ok () (w.setRow p.blk arr') ∧ arr'.size = p.size ∧ PlaceOk P E (w.setRow p.blk arr') ty (c.take o ++ vs ++ c.drop (o + vs.length)) p ∧ Unfrozen (w.setRow p.blk arr') (some f) p ∧
      ∀ i, i < o - p.lo → ∀ arr fro, w.heap[p.blk]? = some (.cells arr ty fro) → arr'[i]? = arr[i]? := by
  obtain ⟨arr, fro, q1, q2, q3, q4, q5⟩ := h
  have hlen : VS.length = vs.length := hvs.1.symm
  have hrun := run_storeCells_pt P p.blk (o - p.lo) ty fro VS 0 arr w q1 (fun j j1 j2 => by
    obtain ⟨flo, fhi⟩ := fro
    have := hfz arr ty flo fhi q1
    simp only
    omega) (by omega) (all_one hvs h1)
  simp only [Nat.add_zero] at hrun
  refine ⟨_, hrun, by simp; omega, ?_, ?_, ?_⟩
  · refine ⟨_, fro, setRow_heap w p.blk arr _ ty fro q1, by simp; omega, q3, by simp; omega, fun i v hv hi => ?_⟩
    rw [splice_get c vs o i hle] at hv
    have hsz : o - p.lo + VS.length ≤ arr.toList.length := by simp; omega
    have hget : ((arr.toList.take (o - p.lo) ++ VS ++ arr.toList.drop (o - p.lo + VS.length)).toArray)[i - p.lo]? = if i - p.lo < o - p.lo then arr[i - p.lo]? else if i - p.lo < o - p.lo + VS.length then VS[i - p.lo - (o - p.lo)]? else arr[i - p.lo]? := by
      rw [List.getElem?_toArray, splice_get _ _ _ _ hsz]; simp
    rw [hget]
    by_cases hio : i < o
    · rw [if_pos hio] at hv; rw [if_pos (by omega)]; exact q5 i v hv hi
    · rw [if_neg hio] at hv; rw [if_neg (by omega)]
      by_cases hi2 : i < o + vs.length
      · rw [if_pos hi2] at hv; rw [if_pos (by omega)]
        obtain ⟨cv, e1, e2⟩ := hvs.get hv
        exact ⟨cv, by rw [show i - p.lo - (o - p.lo) = i - o by omega]; exact e1, e2⟩
      · rw [if_neg hi2] at hv; rw [if_neg (by omega)]; exact q5 i v hv hi
  · intro arr2 ty2 lo hi hb
    rw [setRow_heap w p.blk arr _ ty fro q1] at hb
    simp at hb
    exact hfz arr ty lo hi (by rw [q1, hb.2.2])
  · intro i hi arr2 fro2 hb
    rw [q1] at hb; simp at hb
    obtain ⟨rfl, rfl⟩ := hb
    have hsz : o - p.lo + VS.length ≤ arr.toList.length := by simp; omega
    rw [List.getElem?_toArray, splice_get _ _ _ _ hsz, if_pos hi]; simp

theorem visib_only {c : List V} {ver : Nat} {ex : List Nat} {v : Nat} {cv : List V} (h : visib c ver ver ex v = some cv) : v = ver ∧ cv = c := by
  unfold visib at h
  split at h
  · rename_i e; simp at h; exact ⟨e, h.symm⟩
  · split at h
    · omega
    · simp at h

theorem HRel.live_ver (_ : HRel P E σ w) {x : Pos} {ty : Nat} {c : List V} {ver minv : Nat} {fz : Option Nat} {ex : List Nat} (hg : σ.get x = some (.cells ty c ver minv fz ex)) : live σ x ver := by
  unfold live; rw [hg]; simp [visib_self]

theorem HRel.putCells (h : HRel P E σ w) {x : Pos} {v o : Nat} {vs : List V} {σ' : H} (hp' : putCells σ x v o vs = some σ') {p : Place} (hp : E.pl x v = some p) (hl : p.lo ≤ o) {VS : List Value} (hvs : VRL E vs VS) :
    ∃ w', (storeCells (p.addr o) VS).run P w = .ok () w' ∧ HRel P E σ' w' ∧ Ext E σ w E σ' w' := by
  unfold YtplaefbblpiehaaEng.putCells at hp'
  split at hp'
  · rename_i ty c ver minv f ex hg
    split at hp'
    · rename_i hcond
      obtain ⟨rfl, hf, hle, h1⟩ := hcond
      obtain rfl := Option.some.inj hp'
      obtain ⟨hP, hU⟩ := h.cel x ty c v minv (some f) ex hg v c p visib_self hp
      obtain ⟨arr', r1, r2, r3, r4, r5⟩ := hP.splice hvs hl hle h1 (hU rfl) hf
      have hlive := h.live_ver hg
      refine ⟨_, r1, ?_⟩
      refine h.upd (g := p.blk) hg ⟨v, p, hp⟩ (.refl E) (fun _ _ _ => rfl) rfl rfl rfl (by rw [setRow_size]; exact Nat.le_refl _) (fun b _ hb => setRow_other w p.blk b arr' hb) (h.rng x v p hp).1 ?_ ?_ ?_ (fun u t q r => h.same x u t q r) ?_
      · intro y u r hy hly hr e
        exact h.dis y x u v r p hy hly hlive hr hp e
      · intro u q hq; rw [setRow_size]; exact h.rng x u q hq
      · refine ⟨h.vers x ty c v minv (some f) ex hg, fun _ _ a b _ => by omega, fun u cv q hu hq => ?_⟩
        obtain ⟨rfl, rfl⟩ := visib_only hu
        rw [hp] at hq; simp at hq; subst hq
        exact ⟨r3, fun _ => r4⟩
      · intro u q y t r hlu hq hy hly hr
        have hu : u = v := by
          unfold live at hlu
          rw [H.get_put, if_pos rfl] at hlu
          simp only [Option.isSome_iff_exists] at hlu
          obtain ⟨cv, hcv⟩ := hlu
          exact (visib_only hcv).1
        subst hu
        rw [hp] at hq; simp at hq; subst hq
        exact fun e => h.dis y x t u r p hy hly hlive hr hp e.symm
    · simp at hp'
  · simp at hp'

end
end Go.Proofs.YtplaefbblpiehaaEng
