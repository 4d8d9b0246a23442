/- The engine, part 24: regions whose order is open: the chosen run, step by step. -/
import Derived.Test.YtahgfodccndcjaaGreatG4
namespace Go.Proofs.YtahgfodccndcjaaGreatEng
open Go

/-- A run in the chosen order: the temporaries, heaps and deferred calls ahead of each step. -/
structure Trace (cf : CallF) (n : Nat) (ds : List DO) (r : R) where
  L : Nat
  T : Nat → Tr V
  S : Nat → H
  D : Nat → List Df
  le : L ≤ ds.length
  step : ∀ (p : Nat) (d : DO), p < L → ds[p]? = some d → stepOp cf n d.co (T p) (S p) (D p) = .nx (T (p + 1)) (S (p + 1)) (D (p + 1))
  fin : (L = ds.length ∧ r = .nx (T L) (S L) (D L)) ∨ ∃ (d : DO) (v : V) (τ' : Tr V) (σ' : H) (d' : List Df), ds[L]? = some d ∧ d.kind = 2 ∧ d.tl = true ∧ stepOp cf n d.co (T L) (S L) (D L) = .pn v τ' σ' d' ∧ r = .pn v .lf σ' d'

/-- What was owed holds: wherever the reading may stand, what it reads is the same. -/
def OweAt (ds : List DO) (L k p0 : Nat) (S : Nat → H) : Owe → Prop
  | ⟨x, lo, hi, st⟩ => ∀ q, p0 ≤ q → q ≤ L → (q = L ∨ ∃ d, ds[q]? = some d ∧ d.kind = 2) → lo ≤ k + Hn ds q → k + Hn ds q ≤ hi → ∃ m, (S q).stamp x = some m ∧ st = some m

/-- What a reading step says. -/
def RdAt (ds : List DO) (L k : Nat) (T : Nat → Tr V) (S : Nat → H) : Prop :=
  ∀ (p : Nat) (d : DO) (op : ROp), p < L → ds[p]? = some d → d.kind = 1 → d.lo ≠ d.hi → guardV (T p) d.co.gd = some true → d.co.op = .r op →
    op.foot (T p) = some none ∨ ∃ x, op.foot (T p) = some (some x) ∧ OweAt ds L k p S ⟨x, d.lo, d.hi, (S p).stamp x⟩

/-- The heaps ahead of what acts, then the last. -/
def heaps (S : Nat → H) : List DO → Nat → List H
  | _, 0 => [S 0]
  | [], _ + 1 => [S 0]
  | d :: r, p + 1 => if d.kind == 2 then S 0 :: heaps (fun q => S (q + 1)) r p else heaps (fun q => S (q + 1)) r p

theorem heaps_get : ∀ (ds : List DO) (L : Nat) (S : Nat → H) (q : Nat), L ≤ ds.length → q ≤ L → (q = L ∨ ∃ d, ds[q]? = some d ∧ d.kind = 2) → (heaps S ds L)[Hn ds q]? = some (S q)
  | ds, 0, S, q, _, hq, _ => by
    have : q = 0 := by omega
    subst this
    cases ds <;> rfl
  | [], L + 1, S, q, hL, _, _ => by simp at hL
  | d :: r, L + 1, S, q, hL, hq, h => by
    simp only [heaps]
    cases q with
    | zero =>
      rcases h with h | ⟨d', h1, h2⟩
      · omega
      · simp at h1; subst h1
        rw [if_pos (by simpa using h2)]; rfl
    | succ q =>
      have ih := heaps_get r L (fun q => S (q + 1)) q (by simpa using hL) (by omega) (by
        rcases h with h | ⟨d', h1, h2⟩
        · exact .inl (by omega)
        · exact .inr ⟨d', by simpa using h1, h2⟩)
      simp only [Hn]
      split
      · rw [show 1 + Hn r q = Hn r q + 1 by omega, List.getElem?_cons_succ]; exact ih
      · rw [show 0 + Hn r q = Hn r q by omega]; exact ih

theorem oweOk_spec {es : List H} {o : Owe} (h : oweOk es o = true) : ∀ c σ, o.lo ≤ c → c ≤ o.hi → es[c]? = some σ → ∃ m, σ.stamp o.x = some m ∧ o.st = some m := by
  obtain ⟨x, lo, hi, st⟩ := o
  intro c σ h1 h2 h3
  simp only at h1 h2
  simp only [oweOk, List.all_eq_true] at h
  have hm : σ ∈ (es.drop lo).take (hi + 1 - lo) := by
    refine List.mem_of_getElem? (i := c - lo) ?_
    rw [List.getElem?_take, if_pos (by omega), List.getElem?_drop, show lo + (c - lo) = c by omega]
    exact h3
  have := h σ hm
  split at this
  · rename_i a b ha
    have := Nat.eq_of_beq_eq_true this
    subst this
    exact ⟨_, ha, rfl⟩
  · simp at this

theorem runDrw_trace {cf : CallF} {n : Nat} : ∀ (ds : List DO) (τ : Tr V) (σ : H) (d : List Df) (es : List H) (os : List Owe), (∀ x ∈ ds, x.kind = clsOf x.co.op) → ∀ {rr : R}, runDrw cf n ds τ σ d es os = rr → rr ≠ .bad →
    ∃ X : Trace cf n ds rr, X.T 0 = τ ∧ X.S 0 = σ ∧ X.D 0 = d ∧ RdAt ds X.L es.length X.T X.S ∧ ∀ o ∈ os, oweOk (es.reverse ++ heaps X.S ds X.L) o = true
  | [], τ, σ, d, es, os, _, rr, heq, h => by
    simp only [runDrw] at heq
    split at heq
    · rename_i hos
      subst heq
      refine ⟨{ L := 0, T := fun _ => τ, S := fun _ => σ, D := fun _ => d, le := Nat.le_refl _, step := fun p x hp => by omega, fin := .inl ⟨rfl, rfl⟩ }, rfl, rfl, rfl, fun p x op hp => by simp only at hp; omega, ?_⟩
      rw [List.all_eq_true] at hos
      simpa [heaps] using hos
    · exact absurd heq.symm h
  | x :: r, τ, σ, d, es, os, hk, rr, heq, h => by
    have hkx : x.kind = clsOf x.co.op := hk x (by simp)
    have hkr : ∀ y ∈ r, y.kind = clsOf y.co.op := fun y hy => hk y (by simp [hy])
    -- what follows a step
    have go : ∀ (τ' : Tr V) (σ' : H) (d' : List Df) (es' : List H) (os' : List Owe), stepOp cf n x.co τ σ d = .nx τ' σ' d' → es' = (if x.kind == 2 then σ :: es else es) → (∀ o ∈ os, o ∈ os') →
        (x.kind = 1 → x.lo ≠ x.hi → guardV τ x.co.gd = some true → ∀ op, x.co.op = .r op → op.foot τ = some none ∨ ∃ y, op.foot τ = some (some y) ∧ (⟨y, x.lo, x.hi, σ.stamp y⟩ : Owe) ∈ os') →
        runDrw cf n r τ' σ' d' es' os' = rr →
        ∃ X : Trace cf n (x :: r) rr, X.T 0 = τ ∧ X.S 0 = σ ∧ X.D 0 = d ∧ RdAt (x :: r) X.L es.length X.T X.S ∧ ∀ o ∈ os, oweOk (es.reverse ++ heaps X.S (x :: r) X.L) o = true := by
      rintro τ' σ' d' es' os' hst he hsub hrd heq'
      obtain ⟨X, q1, q2, q3, q4, q5⟩ := runDrw_trace r τ' σ' d' es' os' hkr heq' h
      have hes : es'.reverse ++ heaps X.S r X.L = es.reverse ++ heaps (fun p => match p with | 0 => σ | p + 1 => X.S p) (x :: r) (X.L + 1) := by
        simp only [heaps]
        subst he
        split
        · simp
        · rfl
      refine ⟨{ L := X.L + 1, T := fun p => match p with | 0 => τ | p + 1 => X.T p, S := fun p => match p with | 0 => σ | p + 1 => X.S p, D := fun p => match p with | 0 => d | p + 1 => X.D p,
                le := by have := X.le; simp; omega, step := ?_, fin := ?_ }, rfl, rfl, rfl, ?_, ?_⟩
      · intro p y hp hy
        cases p with
        | zero =>
          simp at hy; subst hy
          simp only [q1, q2, q3]
          exact hst
        | succ p => exact X.step p y (by omega) (by simpa using hy)
      · rcases X.fin with ⟨a, b⟩ | ⟨y, v, τ2, σ2, d2, a⟩
        · exact .inl ⟨by simp [a], b⟩
        · exact .inr ⟨y, v, τ2, σ2, d2, by simpa using a⟩
      · intro p y op hp hy hky hne' hg hop
        simp only at hp
        cases p with
        | zero =>
          simp at hy; subst hy
          rcases hrd hky hne' hg op hop with h1 | ⟨z, h1, h2⟩
          · exact .inl h1
          · refine .inr ⟨z, h1, ?_⟩
            have hok := q5 _ h2
            rw [hes] at hok
            intro q _ hq1 hq2 hq3 hq4
            have hget := heaps_get (x :: r) (X.L + 1) (fun p => match p with | 0 => σ | p + 1 => X.S p) q (by have := X.le; simp; omega) hq1 hq2
            exact oweOk_spec hok (es.length + Hn (x :: r) q) _ hq3 hq4 (by
              rw [List.getElem?_append_right (by simp), List.length_reverse, show es.length + Hn (x :: r) q - es.length = Hn (x :: r) q by omega]
              exact hget)
        | succ p =>
          rcases q4 p y op (by omega) (by simpa using hy) hky hne' hg hop with h1 | ⟨z, h1, h2⟩
          · exact .inl h1
          · refine .inr ⟨z, h1, ?_⟩
            intro q hq0 hq1 hq2 hq3 hq4
            cases q with
            | zero => omega
            | succ q =>
              have hlen : es'.length + Hn r q = es.length + Hn (x :: r) (q + 1) := by
                subst he; simp only [Hn]; split <;> simp <;> omega
              refine h2 q (by omega) (by simp only at hq1; omega) ?_ (by rw [hlen]; exact hq3) (by rw [hlen]; exact hq4)
              rcases hq2 with hq2 | ⟨y', hy', hk'⟩
              · exact .inl (by simp only at hq2; omega)
              · exact .inr ⟨y', by simpa using hy', hk'⟩
      · intro o ho
        have := q5 o (hsub o ho)
        rw [hes] at this
        exact this
    have hes1 : x.kind = 1 → es = (if x.kind == 2 then σ :: es else es) := fun e => by rw [e]; rfl
    have bad : ∀ {α : Prop}, R.bad = rr → α := fun e => absurd e.symm h
    unfold runDrw at heq
    split at heq
    · rename_i hk1
      split at heq
      · rename_i τ' σ' d' hst
        -- a reading operation leaves heap and deferred calls alone
        have hsame : σ' = σ ∧ d' = d := by
          have hc : clsOf x.co.op = 1 := by rw [← hkx]; exact hk1
          unfold stepOp at hst
          split at hst
          · simp at hst
          · split at hst
            · simp at hst; exact ⟨hst.2.1.symm, hst.2.2.symm⟩
            · simp at hst
          · split at hst
            · rename_i q hq; rw [hq] at hc; simp [clsOf] at hc
            · split at hst
              · split at hst
                · simp at hst; exact ⟨hst.2.1.symm, hst.2.2.symm⟩
                · simp at hst
              · simp at hst
            · rename_i q hq; rw [hq] at hc; simp [clsOf] at hc
            · rename_i q hq; rw [hq] at hc; simp [clsOf] at hc
        obtain ⟨rfl, rfl⟩ := hsame
        split at heq
        · rename_i hlh
          exact go _ _ _ _ _ hst (hes1 hk1) (fun o ho => ho) (fun _ hne => absurd hlh hne) heq
        · rename_i hlh
          split at heq
          · rename_i hg
            exact go _ _ _ _ _ hst (hes1 hk1) (fun o ho => ho) (fun _ _ hg' => by rw [hg] at hg'; simp at hg') heq
          · rename_i op hop _
            split at heq
            · rename_i y hy
              exact go _ _ _ _ _ hst (hes1 hk1) (fun o ho => List.mem_cons_of_mem _ ho) (fun _ _ _ op' hop' => by
                rw [hop] at hop'; simp at hop'; subst hop'
                exact .inr ⟨y, hy, List.mem_cons_self⟩) heq
            · rename_i hy
              exact go _ _ _ _ _ hst (hes1 hk1) (fun o ho => ho) (fun _ _ _ op' hop' => by
                rw [hop] at hop'; simp at hop'; subst hop'
                exact .inl hy) heq
            · exact bad heq
          · exact bad heq
      · exact bad heq
    · rename_i hk2
      split at heq
      · rename_i τ' σ' d' hst
        exact go _ _ _ _ _ hst (by rw [hk2]; rfl) (fun o ho => ho) (fun e => by rw [hk2] at e; simp at e) heq
      · rename_i v τ' σ' d' hst
        split at heq
        · rename_i hc
          simp only [Bool.and_eq_true] at hc
          refine ⟨{ L := 0, T := fun _ => τ, S := fun _ => σ, D := fun _ => d, le := Nat.zero_le _, step := fun p x hp => by omega, fin := .inr ⟨x, v, τ', σ', d', rfl, hk2, hc.1, hst, heq.symm⟩ }, rfl, rfl, rfl, fun p x op hp => by simp only at hp; omega, ?_⟩
          intro o ho
          have := hc.2
          rw [List.all_eq_true] at this
          simpa [heaps] using this o ho
        · exact bad heq
      · exact bad heq
    · rename_i hk1 hk2
      split at heq
      · rename_i τ' σ' d' hst
        have hsame : d' = d := by
          have hc1 : clsOf x.co.op ≠ 1 := fun e => hk1 (by rw [hkx, e])
          have hc2 : clsOf x.co.op ≠ 2 := fun e => hk2 (by rw [hkx, e])
          unfold stepOp at hst
          split at hst
          · simp at hst
          · split at hst
            · simp at hst; exact hst.2.2.symm
            · simp at hst
          · split at hst
            · split at hst
              · split at hst
                · simp at hst; exact hst.2.2.symm
                · simp at hst
              · simp at hst
            · rename_i q hq; rw [hq] at hc1; simp [clsOf] at hc1
            · split at hst
              · split at hst
                · simp at hst; exact hst.2.2.symm
                · simp at hst
              · simp at hst
            · rename_i q hq; rw [hq] at hc2; simp [clsOf] at hc2
        subst hsame
        exact go _ _ _ _ _ hst (by rw [if_neg (by simpa using hk2)]) (fun o ho => ho) (fun e => absurd e hk1) heq
      · exact bad heq

end Go.Proofs.YtahgfodccndcjaaGreatEng
