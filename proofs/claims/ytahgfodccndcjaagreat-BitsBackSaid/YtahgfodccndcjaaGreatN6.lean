/- Layer 1: plain facts of numbers as words; what a text of digits says. -/
import Derived.Test.YtahgfodccndcjaaGreatN5
namespace Go.Proofs.YtahgfodccndcjaaGreatEng
open Go

def trimd (L : List Nat) : Prop := L.length = 0 ∨ L.getD (L.length - 1) 0 ≠ 0
theorem tl_spec (L : List Nat) : ∀ n, n ≤ L.length → (tl L n = 0 ∨ L.getD (tl L n - 1) 0 ≠ 0) ∧ ∀ j, tl L n ≤ j → j < n → L.getD j 0 = 0
  | 0, _ => ⟨.inl rfl, fun j _ h => absurd h (Nat.not_lt_zero _)⟩
  | n + 1, hn => by
    obtain ⟨h1, h2⟩ := tl_spec L n (by omega)
    simp only [tl]
    by_cases hz : L.getD n 0 = 0
    · rw [if_pos hz]
      refine ⟨h1, fun j hj hjn => ?_⟩
      by_cases e : j = n
      · subst e; exact hz
      · exact h2 j hj (by omega)
    · rw [if_neg hz]
      exact ⟨.inr hz, fun j hj hjn => by omega⟩
theorem getD_take {L : List Nat} {n j : Nat} (h : j < n) : (L.take n).getD j 0 = L.getD j 0 := by
  simp only [List.getD_eq_getElem?_getD, List.getElem?_take, if_pos h]
theorem trimL_len (L : List Nat) : (trimL L).length = tl L L.length := by
  have := tl_le L L.length
  simp [trimL]; omega
theorem trimL_trimd (L : List Nat) : trimd (trimL L) := by
  obtain ⟨h1, _⟩ := tl_spec L L.length (Nat.le_refl _)
  unfold trimd
  rw [trimL_len]
  rcases h1 with h | h
  · exact .inl h
  · by_cases h0 : tl L L.length = 0
    · exact .inl h0
    · right
      rw [trimL, getD_take (by omega)]; exact h
theorem val_zero_tail (L : List Nat) (n : Nat) : ∀ k, (∀ j, n ≤ j → j < n + k → L.getD j 0 = 0) → val (L.take (n + k)) = val (L.take n)
  | 0, _ => rfl
  | k + 1, h => by
    rw [← Nat.add_assoc, val_take_succ, h (n + k) (by omega) (by omega), Nat.mul_zero, Nat.add_zero]
    exact val_zero_tail L n k fun j h1 h2 => h j h1 (by omega)
theorem trimL_val (L : List Nat) : val (trimL L) = val L := by
  obtain ⟨_, h2⟩ := tl_spec L L.length (Nat.le_refl _)
  have hle := tl_le L L.length
  have := val_zero_tail L (tl L L.length) (L.length - tl L L.length) fun j h3 h4 => h2 j h3 (by omega)
  rw [show tl L L.length + (L.length - tl L L.length) = L.length by omega, List.take_of_length_le (Nat.le_refl _)] at this
  rw [trimL, ← this]
theorem trimL_ok {L : List Nat} (h : wok L) : wok (trimL L) := by
  refine wok_of fun x hx => wok_mem h x (List.mem_of_mem_take hx)
theorem trimL_id {L : List Nat} (h : trimd L) : trimL L = L := by
  have : tl L L.length = L.length := by
    rcases h with h | h
    · rw [h]; rfl
    · cases hn : L.length with
      | zero => rfl
      | succ n => rw [hn] at h; simp only [tl]; rw [if_neg (by simpa using h)]
  rw [trimL, this, List.take_of_length_le (Nat.le_refl _)]
theorem val_lt {L : List Nat} (h : ∀ x ∈ L, x < WW) : val L < WW ^ L.length := by
  induction L with
  | nil => simp [val]
  | cons x L ih =>
    have h1 : x < WW := h x (List.mem_cons_self ..)
    have h2 := ih fun y hy => h y (List.mem_cons_of_mem _ hy)
    have h3 : val (x :: L) = x + WW * val L := rfl
    rw [h3, List.length_cons, Nat.pow_succ, Nat.mul_comm _ WW]
    have h4 : WW * (val L + 1) ≤ WW * WW ^ L.length := Nat.mul_le_mul_left _ h2
    rw [Nat.mul_add] at h4
    omega
theorem val_ge {L : List Nat} (h : trimd L) (h0 : L.length ≠ 0) : WW ^ (L.length - 1) ≤ val L := by
  have hg : L.getD (L.length - 1) 0 ≠ 0 := by rcases h with h | h; exact absurd h h0; exact h
  have h1 := val_take_succ L (L.length - 1)
  rw [show L.length - 1 + 1 = L.length by omega, List.take_of_length_le (Nat.le_refl _)] at h1
  rw [h1]
  have h2 : WW ^ (L.length - 1) * 1 ≤ WW ^ (L.length - 1) * L.getD (L.length - 1) 0 := Nat.mul_le_mul_left _ (by omega)
  omega
/-- Above 2^(64 n) or not: by the length alone. -/
theorem trimd_len {L : List Nat} (h : trimd L) (hk : wok L) (n : Nat) : n < L.length ↔ WW ^ n ≤ val L := by
  constructor
  · intro hn
    have h1 := val_ge h (by omega)
    exact Nat.le_trans (Nat.pow_le_pow_right (by decide) (by omega)) h1
  · intro hv
    have h1 := val_lt (wok_mem hk)
    have h2 : WW ^ n < WW ^ L.length := Nat.lt_of_le_of_lt hv h1
    exact (Nat.pow_lt_pow_iff_right (by decide)).1 h2
theorem val_inj : ∀ {L M : List Nat}, (∀ x ∈ L, x < WW) → (∀ x ∈ M, x < WW) → L.length = M.length → val L = val M → L = M
  | [], [], _, _, _, _ => rfl
  | [], _ :: _, _, _, h, _ => by simp at h
  | _ :: _, [], _, _, h, _ => by simp at h
  | x :: L, y :: M, h1, h2, h, hv => by
    have e1 : val (x :: L) = x + WW * val L := rfl
    have e2 : val (y :: M) = y + WW * val M := rfl
    rw [e1, e2] at hv
    have hx : x < WW := h1 x (List.mem_cons_self ..)
    have hy : y < WW := h2 y (List.mem_cons_self ..)
    have hm : (x + WW * val L) % WW = (y + WW * val M) % WW := by rw [hv]
    rw [Nat.add_mul_mod_self_left, Nat.add_mul_mod_self_left, Nat.mod_eq_of_lt hx, Nat.mod_eq_of_lt hy] at hm
    subst hm
    have : WW * val L = WW * val M := by omega
    have := Nat.eq_of_mul_eq_mul_left (by decide : 0 < WW) this
    rw [val_inj (fun z hz => h1 z (List.mem_cons_of_mem _ hz)) (fun z hz => h2 z (List.mem_cons_of_mem _ hz)) (by simpa using h) this]
/-- One number, one list. -/
theorem trimd_inj {L M : List Nat} (hL : wok L) (hM : wok M) (tL : trimd L) (tM : trimd M) (h : val L = val M) : L = M := by
  refine val_inj (wok_mem hL) (wok_mem hM) ?_ h
  have h1 := fun n => trimd_len tL hL n
  have h2 := fun n => trimd_len tM hM n
  rw [h] at h1
  rcases Nat.lt_trichotomy L.length M.length with hlt | he | hlt
  · have := (h1 L.length).2 ((h2 L.length).1 hlt); omega
  · exact he
  · have := (h2 M.length).2 ((h1 M.length).1 hlt); omega

def bigOf (n : Nat) : Nat := WW ^ n
theorem bigOf_iff {L : List Nat} (h : trimd L) (hk : wok L) (n : Nat) : n < L.length ↔ bigOf n ≤ val L := trimd_len h hk n
theorem bigOf_lt {L : List Nat} (hk : wok L) {n : Nat} (h : L.length ≤ n) : val L < bigOf n := Nat.lt_of_lt_of_le (val_lt (wok_mem hk)) (Nat.pow_le_pow_right (by decide) h)
/-- 2^(64 4096) -/
def BIG : Nat := bigOf 4096
theorem big_iff {L : List Nat} (h : trimd L) (hk : wok L) : 4096 < L.length ↔ BIG ≤ val L := bigOf_iff h hk 4096
theorem big_lt {L : List Nat} (hk : wok L) (h : L.length ≤ 4096) : val L < BIG := bigOf_lt hk h

/- ---- digits ---- -/

/-- the digit at place i -/
def dg (s : List Nat) (base i : Nat) : Nat := (valR (s.getD i 0 : Nat) base).toNat
/-- what the first i digits say -/
def num (s : List Nat) (base : Nat) : Nat → Nat
  | 0 => 0
  | i + 1 => num s base i * base + dg s base i
theorem valR_lt {c : Int} {base : Nat} (h : 0 ≤ valR c base) : (valR c base).toNat < base := by
  unfold valR at h ⊢
  split <;> (try split) <;> (try split) <;> (try split) <;> first | omega | (simp_all; omega) | simp_all
theorem num_mono (s : List Nat) {base : Nat} (hb : 0 < base) (i : Nat) : ∀ k, num s base i ≤ num s base (i + k)
  | 0 => Nat.le_refl _
  | k + 1 => by
    have := num_mono s hb i k
    have h2 : num s base (i + (k + 1)) = num s base (i + k) * base + dg s base (i + k) := rfl
    have h3 : num s base (i + k) * 1 ≤ num s base (i + k) * base := Nat.mul_le_mul_left _ hb
    omega
theorem valR_big {c : Int} {base : Nat} (h : 102 < c) : valR c base = -1 := by
  unfold valR
  rw [if_neg (by omega), if_neg (by omega), if_neg (by omega)]
theorem dec_big {s : List Nat} {p : Nat} (hb : ¬ s.getD p 0 < 128) : 128 ≤ (dec s p).1 ∧ (dec s p).1 < 2147483000 := by
  unfold dec
  simp only [Nat.add_zero]
  rw [if_neg (by omega)]
  split
  · split <;> simp_all [Utf8.runeError] <;> omega
  · split
    · split <;> simp_all [Utf8.runeError] <;> omega
    · split
      · split <;> simp_all [Utf8.runeError] <;> omega
      · simp [Utf8.runeError]
end Go.Proofs.YtahgfodccndcjaaGreatEng
