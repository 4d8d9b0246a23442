/- The engine, part 23: regions whose order is open: the order, what it says. -/
import Derived.Test.YtplaefbblpiehaaEng22
namespace Go.Proofs.YtplaefbblpiehaaEng
open Go

/-- How many of the first p act. -/
def Hn : List DO → Nat → Nat
  | _, 0 => 0
  | [], _ + 1 => 0
  | d :: r, p + 1 => (if d.kind == 2 then 1 else 0) + Hn r p

theorem Hn_succ : ∀ (ds : List DO) (p : Nat), Hn ds (p + 1) = Hn ds p + (match ds[p]? with | some d => if d.kind == 2 then 1 else 0 | none => 0)
  | [], 0 => rfl
  | [], p + 1 => rfl
  | d :: r, 0 => by simp [Hn]
  | d :: r, p + 1 => by
    have := Hn_succ r p
    simp only [Hn] at this ⊢
    rw [this]
    simp only [List.getElem?_cons_succ]
    omega
theorem Hn_mono (ds : List DO) {p q : Nat} (h : p ≤ q) : Hn ds p ≤ Hn ds q := by
  induction q with
  | zero => have : p = 0 := by omega
            subst this; exact Nat.le_refl _
  | succ q ih =>
    rcases Nat.lt_or_ge p (q + 1) with h1 | h1
    · have := ih (by omega); rw [Hn_succ]; omega
    · have : p = q + 1 := by omega
      subst this; exact Nat.le_refl _
theorem Hn_lt (ds : List DO) {p q : Nat} {d : DO} (hd : ds[p]? = some d) (hk : d.kind = 2) (h : p < q) : Hn ds p < Hn ds q := by
  have h1 := Hn_succ ds p
  rw [hd] at h1
  simp [hk] at h1
  have := Hn_mono ds (show p + 1 ≤ q from h)
  omega
/-- Where nothing acts in between, as many act ahead. -/
theorem Hn_eq (ds : List DO) {p q : Nat} (h : p ≤ q) (hn : ∀ (k : Nat) (d : DO), p ≤ k → k < q → ds[k]? = some d → d.kind ≠ 2) : Hn ds q = Hn ds p := by
  induction q with
  | zero => have : p = 0 := by omega
            subst this; rfl
  | succ q ih =>
    rcases Nat.lt_or_ge p (q + 1) with h1 | h1
    · rw [Hn_succ, ih (by omega) (fun k d a b => hn k d a (by omega))]
      cases hq : ds[q]? with
      | none => rfl
      | some d =>
        have := hn q d (by omega) (by omega) hq
        simp [this]
    · have : p = q + 1 := by omega
      subst this; rfl
theorem Hn_last (ds : List DO) : ∀ {p : Nat}, 0 < Hn ds p → ∃ (q : Nat) (d : DO), q < p ∧ ds[q]? = some d ∧ d.kind = 2 ∧ Hn ds q + 1 = Hn ds p ∧ ∀ (k : Nat) (d' : DO), q < k → k < p → ds[k]? = some d' → d'.kind ≠ 2 := by
  intro p
  induction p with
  | zero => intro h; simp [Hn] at h
  | succ p ih =>
    intro h
    rw [Hn_succ] at h ⊢
    cases hp : ds[p]? with
    | none =>
      rw [hp] at h; simp only [Nat.add_zero] at h ⊢
      obtain ⟨q, d, h1, h2, h3, h4, h5⟩ := ih h
      refine ⟨q, d, by omega, h2, h3, h4, fun k d' a b hk => ?_⟩
      rcases Nat.lt_or_ge k p with hlt | hge
      · exact h5 k d' a hlt hk
      · have : k = p := by omega
        subst this; rw [hp] at hk; simp at hk
    | some d =>
      by_cases hk : d.kind = 2
      · exact ⟨p, d, by omega, hp, hk, by simp [hk], fun k d' a b => by omega⟩
      · rw [hp] at h; simp only [show (d.kind == 2) = false by simpa using hk] at h ⊢
        simp only [Bool.false_eq_true, if_false, Nat.add_zero] at h ⊢
        obtain ⟨q, d0, h1, h2, h3, h4, h5⟩ := ih h
        refine ⟨q, d0, by omega, h2, h3, h4, fun k d' a b hk' => ?_⟩
        rcases Nat.lt_or_ge k p with hlt | hge
        · exact h5 k d' a hlt hk'
        · have : k = p := by omega
          subst this; rw [hp] at hk'; simp at hk'; subst hk'; exact hk

theorem hiOk_spec {B : List Nat} {j hi : Nat} : ∀ {r : List DO} {k : Nat}, hiOk B j hi k r = true → ∀ (q : Nat) (x : DO), r[q]? = some x → x.kind = 2 → hi ≤ k + Hn r q → bef B j x.at_ = true
  | [], k, _, q, x, hx, _, _ => by simp at hx
  | d :: r, k, h, q, x, hx, hk, hle => by
    simp only [hiOk, Bool.and_eq_true, Bool.or_eq_true] at h
    cases q with
    | zero =>
      simp at hx; subst hx
      rcases h.1 with (h1 | h1) | h1
      · simp [hk] at h1
      · have := Nat.lt_of_lt_of_le (Nat.le_of_ble_eq_true h1) (Nat.le_refl _); simp [Hn] at hle; omega
      · exact h1
    | succ q =>
      refine hiOk_spec h.2 q x (by simpa using hx) hk ?_
      simp only [Hn] at hle
      split <;> rename_i hd
      · rw [if_pos hd] at hle; omega
      · rw [if_neg hd] at hle; omega

/-- What the check of an order says. -/
structure Ord (B : List Nat) (ds : List DO) (q0 : Nat) (last : Option Nat) : Prop where
  lo : ∀ (p : Nat) (d : DO), ds[p]? = some d → d.lo = q0 + Hn ds p ∧ d.lo ≤ d.hi ∧ bef B d.at_ d.at_ = false
  pre : ∀ (p : Nat) (d : DO), ds[p]? = some d → (∀ (k : Nat) (x : DO), k < p → ds[k]? = some x → x.kind ≠ 2) → ∀ h, last = some h → bef B h d.at_ = true
  pre' : ∀ (p : Nat) (d : DO), ds[p]? = some d → ∀ (q : Nat) (x : DO), q < p → ds[q]? = some x → x.kind = 2 → (∀ (k : Nat) (y : DO), q < k → k < p → ds[k]? = some y → y.kind ≠ 2) → bef B x.at_ d.at_ = true
  ord : ∀ (p q : Nat) (d x : DO), p < q → ds[p]? = some d → ds[q]? = some x → bef B x.at_ d.at_ = false ∧ d.at_ ≠ x.at_ ∧ (d.kind = 2 → d.tl = true → bef B d.at_ x.at_ = true)
  hi : ∀ (p : Nat) (d : DO), ds[p]? = some d → ∀ (q : Nat) (x : DO), p < q → ds[q]? = some x → x.kind = 2 → d.hi ≤ q0 + Hn ds q → bef B d.at_ x.at_ = true

theorem ordOk_spec {B : List Nat} : ∀ {ds : List DO} {q0 : Nat} {last : Option Nat}, ordOk B q0 last ds = true → Ord B ds q0 last
  | [], q0, last, _ => ⟨by simp, by simp, by simp, by simp, by simp⟩
  | d :: r, q0, last, h => by
    simp only [ordOk, Bool.and_eq_true] at h
    obtain ⟨⟨⟨⟨⟨⟨h1, h2⟩, h3⟩, h4⟩, h5⟩, h6⟩, h7⟩ := h
    have ih := ordOk_spec h7
    have hlo : d.lo = q0 := Nat.eq_of_beq_eq_true h1
    have hhi : d.lo ≤ d.hi := Nat.le_of_ble_eq_true h2
    have hn : ∀ p, (if (d.kind == 2) = true then q0 + 1 else q0) + Hn r p = q0 + Hn (d :: r) (p + 1) := by
      intro p; simp only [Hn]; split <;> omega
    rw [List.all_eq_true] at h5
    refine ⟨?_, ?_, ?_, ?_, ?_⟩
    · intro p x hx
      cases p with
      | zero => simp at hx; subst hx; exact ⟨by simpa [Hn] using hlo, hhi, by simpa using h3⟩
      | succ p =>
        obtain ⟨a, b, c⟩ := ih.lo p x (by simpa using hx)
        exact ⟨by rw [a, hn], b, c⟩
    · intro p x hx hnone g hg
      cases p with
      | zero =>
        simp at hx; subst hx
        rw [hg] at h4; exact h4
      | succ p =>
        have hd2 : d.kind ≠ 2 := hnone 0 d (by omega) rfl
        refine ih.pre p x (by simpa using hx) (fun k y hk hy => hnone (k + 1) y (by omega) (by simpa using hy)) g ?_
        rw [if_neg (by simpa using hd2)]; exact hg
    · intro p x hx q y hq hy hk hbtw
      cases p with
      | zero => omega
      | succ p =>
        cases q with
        | zero =>
          simp at hy; subst hy
          refine ih.pre p x (by simpa using hx) (fun k z hk' hz => hbtw (k + 1) z (by omega) (by omega) (by simpa using hz)) d.at_ ?_
          rw [if_pos (by simpa using hk)]
        | succ q => exact ih.pre' p x (by simpa using hx) q y (by omega) (by simpa using hy) hk (fun k z a b hz => hbtw (k + 1) z (by omega) (by omega) (by simpa using hz))
    · intro p q x y hpq hx hy
      cases p with
      | zero =>
        simp at hx; subst hx
        cases q with
        | zero => omega
        | succ q =>
          have := h5 y (List.mem_of_getElem? (by simpa using hy))
          simp only [Bool.and_eq_true, Bool.or_eq_true, Bool.not_eq_true'] at this
          obtain ⟨⟨a, b⟩, c⟩ := this
          refine ⟨a, fun e => ?_, fun hk ht => ?_⟩
          · rw [e] at b; simp at b
          · rcases c with (c | c) | c
            · simp [hk] at c
            · rw [ht] at c; simp at c
            · exact c
      | succ p =>
        cases q with
        | zero => omega
        | succ q => exact ih.ord p q x y (by omega) (by simpa using hx) (by simpa using hy)
    · intro p x hx q y hpq hy hk hle
      cases q with
      | zero => omega
      | succ q =>
        cases p with
        | zero =>
          simp at hx; subst hx
          refine hiOk_spec h6 q y (by simpa using hy) hk ?_
          rw [hn]; exact hle
        | succ p => exact ih.hi p x (by simpa using hx) q y (by omega) (by simpa using hy) hk (by rw [hn]; exact hle)

section
variable {P : Program} {G : Nat → Option V} {ops : Array Oper} {B : List Nat}

theorem drwOps_mem {cs : List CO} {d : DO} (h : d ∈ drwOps B cs) : cs[d.at_]? = some d.co ∧ d.kind = clsOf d.co.op := by
  unfold drwOps at h
  simp only [List.mem_flatMap, List.mem_append, List.mem_filter, List.mem_filterMap] at h
  obtain ⟨e, _, h⟩ := h
  rcases h with ⟨⟨j, _, hj⟩, _⟩ | ⟨⟨j, _, hj⟩, _⟩ <;>
  · split at hj
    · rename_i c hc
      simp only [Option.some.injEq] at hj; subst hj
      exact ⟨hc, by simp [hc]⟩
    · simp at hj

/-- What is known of an order that was checked. -/
structure DF (P : Program) (G : Nat → Option V) (ops : Array Oper) (B : List Nat) (ds : List DO) : Prop where
  len : ds.length = ops.size
  mem : ∀ (p : Nat) (d : DO), ds[p]? = some d → ∃ o, ops[d.at_]? = some o ∧ d.co = cOper P G ops o ∧ d.kind = clsOf d.co.op
  all : ∀ j, j < ops.size → ∃ (p : Nat) (d : DO), ds[p]? = some d ∧ d.at_ = j
  ord : Ord B ds 0 none
  edge : ∀ (j : Nat) o, ops[j]? = some o → ∀ e ∈ o.after, Region.binds .any e = true → e.on < ops.size ∧ bef B e.on j = true
  conv : ∀ (i j : Nat) o, i < ops.size → ops[j]? = some o → bef B i j = true → ∃ e ∈ o.after, Region.binds .any e = true ∧ (e.on = i ∨ bef B i e.on = true)
  uniq : ∀ (i j : Nat) oi oj, i ≠ j → ops[i]? = some oi → ops[j]? = some oj → ∀ t, oi.dst = some t → oj.dst ≠ some t
  look : ∀ (i j : Nat) oi oj, i ≠ j → ops[i]? = some oi → ops[j]? = some oj → ∀ t, oi.dst = some t → t ∈ looks ops oj → bef B i j = true ∨ bef B j i = true

theorem drwOk_spec (h : drwOk ops B (drwOps B (ops.toList.map (cOper P G ops))) = true) : DF P G ops B (drwOps B (ops.toList.map (cOper P G ops))) := by
  generalize hds : drwOps B (ops.toList.map (cOper P G ops)) = ds at h
  unfold drwOk at h
  simp only [Bool.and_eq_true] at h
  obtain ⟨⟨⟨h1, h2⟩, h3⟩, h4⟩ := h
  simp only [List.all_eq_true, List.mem_range] at h2 h4
  have row : ∀ (j : Nat) o, ops[j]? = some o → j < ops.size := fun j o ho => (Array.getElem?_eq_some_iff.1 ho).1
  have h4' : ∀ (j : Nat) o, ops[j]? = some o → _ := fun j o ho => by
    have := h4 j (row j o ho)
    rw [Array.getElem?_toList, ho] at this
    exact this
  refine ⟨by simpa using h1, ?_, ?_, ordOk_spec h3, ?_, ?_, ?_, ?_⟩
  · intro p d hd
    have := drwOps_mem (B := B) (cs := ops.toList.map (cOper P G ops)) (d := d) (by rw [hds]; exact List.mem_of_getElem? hd)
    obtain ⟨a, b⟩ := this
    rw [List.getElem?_map, Array.getElem?_toList] at a
    obtain ⟨o, ho, e⟩ := map_some a
    exact ⟨o, ho, e.symm, b⟩
  · intro j hj
    have := h2 j hj
    rw [List.any_eq_true] at this
    obtain ⟨d, hd, e⟩ := this
    obtain ⟨p, hp⟩ := List.mem_iff_getElem?.1 hd
    exact ⟨p, d, hp, by simpa using e⟩
  · intro j o ho e he hb
    have := h4' j o ho
    simp only [Bool.and_eq_true] at this
    have := this.1.1
    rw [Array.all_eq_true_iff_forall_mem] at this
    have := this e he
    simp only [hb, Bool.not_true, Bool.false_or, Bool.and_eq_true, decide_eq_true_eq] at this
    exact this
  · intro i j o hi ho hb
    have := h4' j o ho
    simp only [Bool.and_eq_true] at this
    have := this.1.2
    rw [List.all_eq_true] at this
    have := this i (by simpa using hi)
    simp only [hb, Bool.not_true, Bool.false_or] at this
    rw [Array.any_eq_true'] at this
    obtain ⟨e, he, h⟩ := this
    simp only [Bool.and_eq_true, Bool.or_eq_true, beq_iff_eq] at h
    exact ⟨e, he, h.1, h.2⟩
  · intro i j oi oj hij hi hj t ht ht'
    have := h4' j oj hj
    simp only [Bool.and_eq_true] at this
    have := this.2
    rw [List.all_eq_true] at this
    have := this i (by simpa using row i oi hi)
    simp only [Bool.or_eq_true, beq_iff_eq] at this
    have := this.resolve_left hij
    rw [Array.getElem?_toList, hi] at this
    simp [ht, ht'] at this
  · intro i j oi oj hij hi hj t ht hl
    have := h4' j oj hj
    simp only [Bool.and_eq_true] at this
    have := this.2
    rw [List.all_eq_true] at this
    have := this i (by simpa using row i oi hi)
    simp only [Bool.or_eq_true, beq_iff_eq] at this
    have := this.resolve_left hij
    rw [Array.getElem?_toList, hi] at this
    simp only [ht, Bool.and_eq_true, Bool.or_eq_true, Bool.not_eq_true', List.contains_eq_mem, decide_eq_false_iff_not] at this
    rcases this.2 with (h | h) | h
    · exact absurd hl h
    · exact .inl h
    · exact .inr h

end
end Go.Proofs.YtplaefbblpiehaaEng
