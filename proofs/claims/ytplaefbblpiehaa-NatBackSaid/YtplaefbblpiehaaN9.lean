/- Layer 1: plain facts of numbers as halves of 16 bits. -/
import Derived.Test.YtplaefbblpiehaaN8
namespace Go.Proofs.YtplaefbblpiehaaEng
open Go
set_option linter.unusedSimpArgs false

abbrev HH : Nat := 65536
def wokH (L : List Nat) : Prop := ∀ i, L.getD i 0 < HH
def adSH (A B : List Nat) : Nat → List Nat × Nat
  | 0 => ([], 0)
  | i + 1 => ((adSH A B i).1 ++ [(A.getD i 0 + B.getD i 0 + (adSH A B i).2) % HH], (A.getD i 0 + B.getD i 0 + (adSH A B i).2) / HH)
theorem adS_lenH (A B : List Nat) : ∀ i, (adSH A B i).1.length = i
  | 0 => rfl
  | i + 1 => by simp [adSH, adS_lenH A B i]
theorem adS_cH {A B : List Nat} (ha : wokH A) (hb : wokH B) : ∀ i, (adSH A B i).2 ≤ 1
  | 0 => Nat.zero_le _
  | i + 1 => by
    have h1 := ha i; have h2 := hb i; have h3 := adS_cH ha hb i
    simp only [adSH]
    have : A.getD i 0 + B.getD i 0 + (adSH A B i).2 < HH * 2 := by omega
    exact Nat.le_of_lt_succ (Nat.div_lt_of_lt_mul this)
def valH (L : List Nat) : Nat := L.foldr (fun x r => x + HH * r) 0
theorem val_appendH (L : List Nat) (w : Nat) : valH (L ++ [w]) = valH L + HH ^ L.length * w := by
  induction L with
  | nil => simp [valH]
  | cons x L ih =>
    have : valH (x :: L ++ [w]) = x + HH * valH (L ++ [w]) := rfl
    rw [this, ih]
    have : valH (x :: L) = x + HH * valH L := rfl
    rw [this, List.length_cons, Nat.pow_succ, Nat.mul_add, Nat.add_assoc, Nat.mul_comm (HH ^ L.length) HH, Nat.mul_assoc]
theorem val_take_succH (L : List Nat) (i : Nat) : valH (L.take (i + 1)) = valH (L.take i) + HH ^ i * L.getD i 0 := by
  by_cases h : i < L.length
  · rw [take_succ_getD L i h, val_appendH, List.length_take, Nat.min_eq_left (by omega)]
  · rw [List.take_of_length_le (by omega), List.take_of_length_le (by omega), getD_ge h, Nat.mul_zero, Nat.add_zero]
theorem adS_valH (A B : List Nat) : ∀ i, valH (adSH A B i).1 + HH ^ i * (adSH A B i).2 = valH (A.take i) + valH (B.take i)
  | 0 => rfl
  | i + 1 => by
    have ih := adS_valH A B i
    simp only [adSH]
    rw [val_appendH, adS_lenH, val_take_succH, val_take_succH, Nat.pow_succ]
    generalize hs : A.getD i 0 + B.getD i 0 + (adSH A B i).2 = s
    have h1 : HH ^ i * (s % HH) + HH ^ i * HH * (s / HH) = HH ^ i * s := by
      rw [Nat.mul_assoc, ← Nat.mul_add, Nat.mod_add_div]
    rw [Nat.add_assoc, h1, ← hs, Nat.mul_add, Nat.mul_add]
    omega
theorem adS_okH (A B : List Nat) : ∀ i, ∀ x ∈ (adSH A B i).1, x < HH
  | 0 => fun x h => by cases h
  | i + 1 => fun x h => by
    simp only [adSH, List.mem_append, List.mem_singleton] at h
    rcases h with h | rfl
    · exact adS_okH A B i x h
    · exact Nat.mod_lt _ (by decide)
theorem wok_ofH {L : List Nat} (h : ∀ x ∈ L, x < HH) : wokH L := by
  intro i
  rw [List.getD_eq_getElem?_getD]
  cases hi : L[i]? with
  | none => decide
  | some x => exact h x (List.mem_of_getElem? hi)
theorem wok_memH {L : List Nat} (h : wokH L) : ∀ x ∈ L, x < HH := by
  intro x hx
  obtain ⟨i, hi⟩ := List.getElem?_of_mem hx
  have := h i
  rw [List.getD_eq_getElem?_getD, hi] at this
  exact this
def muSH (A : List Nat) (t : Nat) : Nat → List Nat × Nat
  | 0 => ([], 0)
  | i + 1 => ((muSH A t i).1 ++ [(A.getD i 0 * t + (muSH A t i).2) % HH], (A.getD i 0 * t + (muSH A t i).2) / HH)
theorem muS_lenH (A : List Nat) (t : Nat) : ∀ i, (muSH A t i).1.length = i
  | 0 => rfl
  | i + 1 => by simp [muSH, muS_lenH A t i]
theorem mul_add_ltH {x y c : Nat} (hx : x < HH) (hy : y < HH) (hc : c < HH) : x * y + c < HH * HH := by
  have h1 : x * y ≤ (HH - 1) * (HH - 1) := Nat.mul_le_mul (by omega) (by omega)
  have h2 : (HH - 1) * (HH - 1) + HH ≤ HH * HH := by decide
  omega
theorem muS_cH {A : List Nat} {t : Nat} (hA : wokH A) (ht : t < HH) : ∀ i, (muSH A t i).2 < HH
  | 0 => (by decide : 0 < HH)
  | i + 1 => Nat.div_lt_of_lt_mul (mul_add_ltH (hA i) ht (muS_cH hA ht i))
theorem muS_okH (A : List Nat) (t : Nat) : ∀ i, ∀ x ∈ (muSH A t i).1, x < HH
  | 0 => fun x h => by cases h
  | i + 1 => fun x h => by
    simp only [muSH, List.mem_append, List.mem_singleton] at h
    rcases h with h | rfl
    · exact muS_okH A t i x h
    · exact Nat.mod_lt _ (by decide)
def mulLH (A : List Nat) (t : Nat) : List Nat := (muSH A t A.length).1 ++ [(muSH A t A.length).2]
theorem muS_valH (A : List Nat) (t : Nat) : ∀ i, valH (muSH A t i).1 + HH ^ i * (muSH A t i).2 = valH (A.take i) * t
  | 0 => by simp [muSH, valH]
  | i + 1 => by
    have ih := muS_valH A t i
    simp only [muSH]
    rw [val_appendH, muS_lenH, val_take_succH, Nat.pow_succ]
    generalize hs : A.getD i 0 * t + (muSH A t i).2 = s
    have h1 : HH ^ i * (s % HH) + HH ^ i * HH * (s / HH) = HH ^ i * s := by
      rw [Nat.mul_assoc, ← Nat.mul_add, Nat.mod_add_div]
    rw [Nat.add_assoc, h1, ← hs, Nat.mul_add, Nat.add_mul, ← ih, Nat.mul_assoc]
    omega
theorem mulL_valH (A : List Nat) (t : Nat) : valH (mulLH A t) = valH A * t := by
  have := muS_valH A t A.length
  rw [List.take_of_length_le (Nat.le_refl _)] at this
  rw [mulLH, val_appendH, muS_lenH, this]
theorem mulL_okH {A : List Nat} {t : Nat} (hA : wokH A) (ht : t < HH) : wokH (mulLH A t) := by
  refine wok_ofH fun x hx => ?_
  simp only [mulLH, List.mem_append, List.mem_singleton] at hx
  rcases hx with h | rfl
  · exact muS_okH A t _ x h
  · exact muS_cH hA ht _
theorem mulL_lenH (A : List Nat) (t : Nat) : (mulLH A t).length = A.length + 1 := by simp [mulLH, muS_lenH]

theorem val_zero_tailH (L : List Nat) (n : Nat) : ∀ k, (∀ j, n ≤ j → j < n + k → L.getD j 0 = 0) → valH (L.take (n + k)) = valH (L.take n)
  | 0, _ => rfl
  | k + 1, h => by
    rw [← Nat.add_assoc, val_take_succH, h (n + k) (by omega) (by omega), Nat.mul_zero, Nat.add_zero]
    exact val_zero_tailH L n k fun j h1 h2 => h j h1 (by omega)
theorem trimL_valH (L : List Nat) : valH (trimL L) = valH L := by
  obtain ⟨_, h2⟩ := tl_spec L L.length (Nat.le_refl _)
  have hle := tl_le L L.length
  have := val_zero_tailH L (tl L L.length) (L.length - tl L L.length) fun j h3 h4 => h2 j h3 (by omega)
  rw [show tl L L.length + (L.length - tl L L.length) = L.length by omega, List.take_of_length_le (Nat.le_refl _)] at this
  rw [trimL, ← this]
theorem trimL_okH {L : List Nat} (h : wokH L) : wokH (trimL L) := by
  refine wok_ofH fun x hx => wok_memH h x (List.mem_of_mem_take hx)
theorem val_ltH {L : List Nat} (h : ∀ x ∈ L, x < HH) : valH L < HH ^ L.length := by
  induction L with
  | nil => simp [valH]
  | cons x L ih =>
    have h1 : x < HH := h x (List.mem_cons_self ..)
    have h2 := ih fun y hy => h y (List.mem_cons_of_mem _ hy)
    have h3 : valH (x :: L) = x + HH * valH L := rfl
    rw [h3, List.length_cons, Nat.pow_succ, Nat.mul_comm _ HH]
    have h4 : HH * (valH L + 1) ≤ HH * HH ^ L.length := Nat.mul_le_mul_left _ h2
    rw [Nat.mul_add] at h4
    omega
theorem val_geH {L : List Nat} (h : trimd L) (h0 : L.length ≠ 0) : HH ^ (L.length - 1) ≤ valH L := by
  have hg : L.getD (L.length - 1) 0 ≠ 0 := by rcases h with h | h; exact absurd h h0; exact h
  have h1 := val_take_succH L (L.length - 1)
  rw [show L.length - 1 + 1 = L.length by omega, List.take_of_length_le (Nat.le_refl _)] at h1
  rw [h1]
  have h2 : HH ^ (L.length - 1) * 1 ≤ HH ^ (L.length - 1) * L.getD (L.length - 1) 0 := Nat.mul_le_mul_left _ (by omega)
  omega
theorem trimd_lenH {L : List Nat} (h : trimd L) (hk : wokH L) (n : Nat) : n < L.length ↔ HH ^ n ≤ valH L := by
  constructor
  · intro hn
    have h1 := val_geH h (by omega)
    exact Nat.le_trans (Nat.pow_le_pow_right (by decide) (by omega)) h1
  · intro hv
    have h1 := val_ltH (wok_memH hk)
    have h2 : HH ^ n < HH ^ L.length := Nat.lt_of_le_of_lt hv h1
    exact (Nat.pow_lt_pow_iff_right (by decide)).1 h2
def bigOfH (n : Nat) : Nat := HH ^ n
theorem bigOf_iffH {L : List Nat} (h : trimd L) (hk : wokH L) (n : Nat) : n < L.length ↔ bigOfH n ≤ valH L := trimd_lenH h hk n
theorem bigOf_ltH {L : List Nat} (hk : wokH L) {n : Nat} (h : L.length ≤ n) : valH L < bigOfH n := Nat.lt_of_lt_of_le (val_ltH (wok_memH hk)) (Nat.pow_le_pow_right (by decide) h)

end Go.Proofs.YtplaefbblpiehaaEng
