/- Layer 1 run on symbols: a number by one word, from the top; digits, plainly. -/
import Derived.Test.YtahgfodccndcjaaGreatM2
namespace Go.Proofs.YtahgfodccndcjaaGreatEng
open Go
set_option maxRecDepth 100000
set_option linter.unusedSimpArgs false

/- a number by one word, from the top -/
def sg (d : Nat) : List Nat → List Nat × Nat
  | [] => ([], 0)
  | x :: L => (((sg d L).2 * WW + x) / d :: (sg d L).1, ((sg d L).2 * WW + x) % d)
theorem sg_len (d : Nat) : ∀ L, (sg d L).1.length = L.length
  | [] => rfl
  | x :: L => by simp [sg, sg_len d L]
theorem sg_lt {d : Nat} (hd : 0 < d) : ∀ L, (sg d L).2 < d
  | [] => hd
  | _ :: _ => Nat.mod_lt _ hd
theorem sg_val {d : Nat} : ∀ L, val (sg d L).1 * d + (sg d L).2 = val L
  | [] => by simp [sg, val]
  | x :: L => by
    have ih := sg_val (d := d) L
    show (((sg d L).2 * WW + x) / d + WW * val (sg d L).1) * d + ((sg d L).2 * WW + x) % d = x + WW * val L
    rw [← ih]
    have h := Nat.div_add_mod ((sg d L).2 * WW + x) d
    generalize ((sg d L).2 * WW + x) / d = q at *
    generalize ((sg d L).2 * WW + x) % d = r at *
    generalize val (sg d L).1 = v at *
    generalize (sg d L).2 = w at *
    rw [Nat.add_mul, Nat.mul_assoc, Nat.mul_add, Nat.mul_comm q d]
    rw [Nat.mul_comm w] at h
    omega
theorem sg_div {d : Nat} (hd : 0 < d) (L : List Nat) : val (sg d L).1 = val L / d ∧ (sg d L).2 = val L % d := by
  have h := sg_val (d := d) L
  have h2 := sg_lt hd L
  rw [← h, Nat.mul_comm]
  constructor
  · rw [Nat.mul_add_div hd, Nat.div_eq_of_lt h2, Nat.add_zero]
  · rw [Nat.mul_add_mod, Nat.mod_eq_of_lt h2]
theorem sg_dig {d r x : Nat} (hr : r < d) (hx : x < WW) : (r * WW + x) / d < WW := by
  have hd : 0 < d := by omega
  rw [Nat.div_lt_iff_lt_mul hd]
  have : (r + 1) * WW ≤ d * WW := Nat.mul_le_mul_right _ hr
  rw [Nat.mul_comm WW d, Nat.add_mul] at *
  omega
theorem sg_ok {d : Nat} (hd : 0 < d) : ∀ {L : List Nat}, (∀ x ∈ L, x < WW) → ∀ x ∈ (sg d L).1, x < WW
  | [], _, x, h => by cases h
  | y :: L, hL, x, h => by
    rcases List.mem_cons.1 h with rfl | h
    · exact sg_dig (sg_lt hd L) (hL y (List.mem_cons_self ..))
    · exact sg_ok hd (fun z hz => hL z (List.mem_cons_of_mem _ hz)) x h

/- digits, the lowest first -/
def dl (base N n : Nat) : List Nat := (List.range n).map fun i => dgs.getD (N / base ^ i % base) 0
theorem dl_len (base N n : Nat) : (dl base N n).length = n := by simp [dl]
theorem dl_succ (base N n : Nat) : dl base N (n + 1) = dl base N n ++ [dgs.getD (N / base ^ n % base) 0] := by
  simp [dl, List.range_succ]
theorem dl_at {base N n i : Nat} (h : i < n) : (dl base N n).getD i 0 = dgs.getD (N / base ^ i % base) 0 := by
  simp [dl, List.getD_eq_getElem?_getD, h]
theorem dl_rev {base N n i : Nat} (h : i < n) : (dl base N n).reverse.getD i 0 = dgs.getD (N / base ^ (n - 1 - i) % base) 0 := by
  rw [← dl_at (base := base) (N := N) (n := n) (i := n - 1 - i) (by omega)]
  rw [List.getD_eq_getElem?_getD, List.getElem?_reverse (by rw [dl_len]; exact h), dl_len, ← List.getD_eq_getElem?_getD]
theorem valR_dgs {base d : Nat} (hb : base ≤ 16) (hd : d < base) : valR ((dgs.getD d 0 : Nat) : Int) base = d := by
  rw [dgs_at d (by omega)]
  unfold valR
  split
  · rw [if_pos (by omega), if_pos (by omega)]; omega
  · rw [if_neg (by omega), if_pos (by omega), if_pos (by omega)]; omega
/-- the text of a number of n digits says it -/
theorem num_dl {base N n : Nat} (hb : base ≤ 16) (hb2 : 2 ≤ base) (hN : N / base ^ n = 0) : ∀ i, i ≤ n → num (dl base N n).reverse base i = N / base ^ (n - i)
  | 0, _ => by rw [Nat.sub_zero, hN]; rfl
  | i + 1, h => by
    have ih := num_dl hb hb2 hN i (by omega)
    show num (dl base N n).reverse base i * base + dg (dl base N n).reverse base i = _
    rw [ih, dg, dl_rev (by omega), valR_dgs hb (Nat.mod_lt _ (by omega))]
    have e1 : n - i = n - (i + 1) + 1 := by omega
    have e2 : n - 1 - i = n - (i + 1) := by omega
    rw [e1, e2, Nat.pow_succ, ← Nat.div_div_eq_div_mul, Int.toNat_natCast, Nat.mul_comm, Nat.div_add_mod]
theorem good_dl {base N n : Nat} (hb : base ≤ 16) (hb2 : 2 ≤ base) (h0 : 0 < n) : goodS (dl base N n).reverse base := by
  refine ⟨fun e => ?_, fun j hj => ?_⟩
  · have := dl_len base N n
    rw [← List.length_reverse, e] at this
    simp at this; omega
  · rw [List.length_reverse, dl_len] at hj
    rw [dl_rev hj, valR_dgs hb (Nat.mod_lt _ (by omega))]
    exact Int.natCast_nonneg _
/-- a zero ahead says nothing -/
theorem num_zero (s : List Nat) (base : Nat) : ∀ i, num (48 :: s) base (i + 1) = num s base i
  | 0 => by
    show 0 * base + dg (48 :: s) base 0 = 0
    have : dg (48 :: s) base 0 = 0 := by
      show (valR ((48 : Nat) : Int) base).toNat = 0
      unfold valR
      rw [if_pos (by decide)]
      split <;> rfl
    omega
  | i + 1 => by
    show num (48 :: s) base (i + 1) * base + dg (48 :: s) base (i + 1) = num s base i * base + dg s base i
    rw [num_zero s base i]; rfl
theorem good_zero {s : List Nat} {base : Nat} (hb : 2 ≤ base) (h : goodS s base) : goodS (48 :: s) base := by
  refine ⟨by simp, fun j hj => ?_⟩
  cases j with
  | zero =>
    show 0 ≤ valR ((48 : Nat) : Int) base
    unfold valR
    rw [if_pos (by decide), if_pos (by omega)]; decide
  | succ j => exact h.2 j (by simpa using hj)
/-- how many digits: as few as do -/
def isLen (base N n : Nat) : Prop := N / base ^ n = 0 ∧ ∀ m, m < n → 0 < N / base ^ m
theorem isLen_inj {base N n m : Nat} (h : isLen base N n) (h' : isLen base N m) : n = m := by
  rcases Nat.lt_trichotomy n m with h1 | h1 | h1
  · have := h'.2 n h1; have := h.1; omega
  · exact h1
  · have := h.2 m h1; have := h'.1; omega
/-- a number's text -/
def txt (base N n : Nat) : List Nat := if n = 0 then [48] else (dl base N n).reverse
theorem txt_good {base N n : Nat} (hb : base ≤ 16) (hb2 : 2 ≤ base) : goodS (txt base N n) base := by
  unfold txt
  split
  · refine ⟨by simp, fun j hj => ?_⟩
    have : j = 0 := by simpa using hj
    subst this
    show 0 ≤ valR ((48 : Nat) : Int) base
    unfold valR
    rw [if_pos (by decide), if_pos (by omega)]; decide
  · exact good_dl hb hb2 (by omega)
theorem txt_num {base N n : Nat} (hb : base ≤ 16) (hb2 : 2 ≤ base) (hN : N / base ^ n = 0) : num (txt base N n) base (txt base N n).length = N := by
  unfold txt
  split
  · rename_i h
    subst h
    rw [Nat.pow_zero, Nat.div_one] at hN
    subst hN
    show 0 * base + dg [48] base 0 = 0
    have : dg [48] base 0 = 0 := by
      show (valR ((48 : Nat) : Int) base).toNat = 0
      unfold valR
      rw [if_pos (by decide)]
      split <;> rfl
    omega
  · rw [List.length_reverse, dl_len, num_dl hb hb2 hN n (Nat.le_refl _), Nat.sub_self, Nat.pow_zero, Nat.div_one]
theorem txt_len (base N n : Nat) : (txt base N n).length ≤ n + 1 := by
  unfold txt
  split
  · simp
  · rw [List.length_reverse, dl_len]; omega
theorem dgs_lt (d : Nat) : dgs.getD d 0 < 128 := by
  have h : ∀ x ∈ dgs, x < 128 := by decide
  rw [List.getD_eq_getElem?_getD]
  cases hi : dgs[d]? with
  | none => decide
  | some x => exact h x (List.mem_of_getElem? hi)
/-- one round of digits: what is left of the number stands above what is left of the word -/
theorem dig_round {base c N0 n N R j : Nat} (hb : 2 ≤ base) (hN : N = N0 / base ^ n) (hj : j ≤ c) (hR : R = N % base ^ c) : N / base ^ c * base ^ (c - j) + R / base ^ j = N0 / base ^ (n + j) := by
  subst hN hR
  rw [Nat.pow_add, ← Nat.div_div_eq_div_mul]
  generalize N0 / base ^ n = M
  have hp : 0 < base ^ j := Nat.pow_pos (by omega)
  have e : base ^ c = base ^ (c - j) * base ^ j := by rw [← Nat.pow_add]; congr 1; omega
  have h := Nat.div_add_mod M (base ^ c)
  have e2 : ∀ q, base ^ c * q = base ^ j * (q * base ^ (c - j)) := fun q => by
    rw [e, Nat.mul_comm (base ^ (c - j)), Nat.mul_assoc, Nat.mul_comm q]
  have h2 : M = base ^ j * (M / base ^ c * base ^ (c - j)) + M % base ^ c := by rw [← e2]; exact h.symm
  have h3 : M / base ^ j = (base ^ j * (M / base ^ c * base ^ (c - j)) + M % base ^ c) / base ^ j := congrArg (· / base ^ j) h2
  rw [h3, Nat.mul_add_div hp]

theorem c42_at : T1.code 42 = some c42 := by kernel_rfl
theorem wrap_i64 {n : Int} (h : -9223372036854775808 ≤ n ∧ n < 9223372036854775808) : IntKind.i64.wrap n = n := by
  simp [IntKind.wrap, IntKind.bits, IntKind.signed]; omega
/-- Div64 divides by d -/
def DivOk (lf d : Nat) : Prop := 0 < d ∧ d < WW ∧ ∀ (m : Nat) (σ : H) (h l : Nat), h < d → l < WW →
  call T1 lf (m + 3) 81 [.int .u64 h, .int .u64 l, .int .u64 d] σ = .ret (.tup [.int .u64 ((h * WW + l) / d : Nat), .int .u64 ((h * WW + l) % d : Nat)]) σ
theorem divOk_32 {lf : Nat} (h : 35184372088832 < lf) : DivOk lf 4294967296 := ⟨by decide, by decide, fun _ _ _ _ h1 h2 => div64_32 h1 h2 h⟩
theorem divOk_10 {lf : Nat} (h : 35184372088832 < lf) : DivOk lf 10000000000000000000 := ⟨by decide, by decide, fun _ _ _ _ h1 h2 => div64_10 h1 h2 h⟩
theorem repl_len (v : V) : ∀ j, (repl [v] j).length = j
  | 0 => rfl
  | j + 1 => by
    have : repl [v] (j + 1) = v :: repl [v] j := rfl
    rw [this, List.length_cons, repl_len v j]
theorem repl_end (v : V) : ∀ j, repl [v] (j + 1) = repl [v] j ++ [v]
  | 0 => rfl
  | j + 1 => by
    have h1 : repl [v] (j + 1 + 1) = v :: repl [v] (j + 1) := rfl
    have h2 : repl [v] (j + 1) = v :: repl [v] j := rfl
    rw [h1, h2, List.cons_append, ← repl_end v j, h2]
theorem drop_getD {A : List Nat} {j : Nat} (h : j < A.length) : A.drop j = A.getD j 0 :: A.drop (j + 1) := by
  rw [List.getD_eq_getElem?_getD, List.getElem?_eq_getElem h]
  exact List.drop_eq_getElem_cons h

/-- single -/
theorem single_call {lf m : Nat} {σ : H} {a : V} {A : List Nat} {d : Nat} (ha : U σ a A) (hw : WfH σ) (hA : wok A) (hd : DivOk lf d) (hlf : A.length + 3 < lf) (hl : A.length < 17592186048512) :
    ∃ v σ', call T1 lf (m + 4) 42 [a, .int .u64 d] σ = .ret (.tup [v, .int .u64 ((sg d A).2 : Nat)]) σ' ∧ U σ' v (trimL (sg d A).1) ∧ Keep σ σ' := by
  have key : ∃ v u σ', call T1 lf (m + 4) 42 [a, .int .u64 d] σ = .ret (.tup [v, u]) σ' ∧ (u = .int .u64 ((sg d A).2 : Nat) ∧ U σ' v (trimL (sg d A).1) ∧ Keep σ σ') := by
    refine call_rt2 (p := pk 4) (q := pk 5) rfl c42_at (by simp [c42]) rfl fun cf hcf => ?_
    generalize hτ : bindArgs [a, .int .u64 (d : Int)] .h .lf = τ0
    have h0 : τ0.get (pk 0) = some a := by rw [← hτ]; rfl
    have h1 : τ0.get (pk 1) = some (.int .u64 d) := by rw [← hτ]; rfl
    clear hτ
    have mk : mkV 49 8 [.int .u64 0] (.int .i64 (A.length : Nat)) (.int .i64 (A.length : Nat)) = some (.sl A.length A.length, .cells 49 (repl [.int .u64 0] A.length) 0 0 (some 0) []) := by
      simp only [mkV]
      rw [if_pos ⟨Int.natCast_nonneg _, Int.le_refl _, by unfold mostBytes; simp; omega, by omega⟩]
      simp
    have w1 : IntKind.i64.wrap ((A.length : Int) - 1) = (A.length : Int) - 1 := wrap_i64 (by omega)
    simp only [c42, QU, oP, oR, oA, oH, oPn, oRn, oAn, oHn, bi, ld, ki, kt, kf, s_ops_nil, s_ops_cons, s_ops_nx, s_ops_pn, s_seq, s_seq_nx, s_seq_ex, s_seq_rt, s_skip, s_ret, s_exit, s_reg, s_cond, s_cond_t, s_cond_f, s_blk, s_blk_nx, s_blk_rt, s_blk_ex, s_put, s_P, s_R, s_A, s_A_some, s_C_ret, s_C_pan, s_H, s_H_ok, s_H_call, s_H_pan, s_gd, s_gd_bool, s_gd_undef, e_t, e_k, e_mv, e_pick, e_pick_b, e_bin, e_add_i64, e_add_i32, e_sub_i64, e_sub_u8, e_mul_i64, e_addU, e_mulU, e_addU32, e_mulU32, e_eql, e_neq, e_lss, e_leq, e_gtr, e_geq, e_str_eql, e_str_neq, e_iaddr, e_iaddr_int, e_lens, e_ld, e_extract, e_ex0, e_ex1, e_ex2, e_lenS, e_lenS_str, e_cii, e_cii_int, e_slsl_hm, e_sl2, e_slsl_h, e_sl1, e_slis, e_evL_nil, e_evL_cons, e_cons, e_call, e_callk, e_app, e_appk, e_store, e_stk, e_next, e_nextk, e_range, e_rangek, e_bs1, e_bs1i, e_bs0, e_mksl, e_mkslk, e_AK_sl, e_AK_it, e_AK_ptr, e_not, e_notb, e_xori, e_idxs, s_Hn, s_Hnk, s_Nx, s_Rt, s_NR_nx, s_NR_rt, s_NXT_nx, s_NXT_ex, s_NXT_rt, e_lenV_sl, e_lenV_nils, get_pk, k_bind, true_and, and_true, if_true, if_false, Bool.true_eq, beq_self_eq_true, reduceIte, Bool.false_eq_true, reduceCtorEq, bne_self_eq_false, Nat.reduceAdd, Nat.reduceLeDiff, Nat.reduceEqDiff, Nat.reduceSub, Nat.reduceBEq, Int.reduceBEq, Int.reduceNeg, Int.reduceLT, Int.reduceLE, Nat.succ_ne_self, Bool.not_true, Bool.not_false, Bool.true_beq, Bool.false_beq, decide_true, decide_false, exists_eq_left', Option.some.injEq, h0, h1, ha.len, mk, w1]
    refine Rt_seq (loop_rule_x
      (fun k τ σ' => k ≤ A.length ∧ σ'.get σ.nx = some (.cells 49 (repl [.int .u64 0] k ++ (sg d (A.drop k)).1.map wd) 0 0 (some 0) []) ∧ Keep σ σ' ∧ σ.nx.toNat < σ'.nx.toNat ∧
        τ.get (pk 0) = some a ∧ τ.get (pk 1) = some (.int .u64 d) ∧ τ.get (pk 6) = some (.sl σ.nx 0 0 A.length (some A.length) 0) ∧ τ.get (pk 7) = some (.int .u64 ((sg d (A.drop k)).2 : Nat)) ∧ τ.get (pk 8) = some (.int .i64 ((k : Int) - 1)))
      (fun τ σ' => σ'.get σ.nx = some (.cells 49 ((sg d A).1.map wd) 0 0 (some 0) []) ∧ Keep σ σ' ∧ τ.get (pk 6) = some (.sl σ.nx 0 0 A.length (some A.length) 0) ∧ τ.get (pk 7) = some (.int .u64 ((sg d A).2 : Nat)))
      ?_ (k := A.length) (by omega) ?_) ?_
    · rintro k τ σ' ⟨hk, hg, hK, hnx, g0, g1, g6, g7, g8⟩
      cases k with
      | zero =>
        have d1 : decide ((0 : Int) ≤ ((0 : Nat) : Int) - 1) = false := by decide
        simp only [b42_0, QU, oP, oR, oA, oH, oPn, oRn, oAn, oHn, bi, ld, ki, kt, kf, s_ops_nil, s_ops_cons, s_ops_nx, s_ops_pn, s_seq, s_seq_nx, s_seq_ex, s_seq_rt, s_skip, s_ret, s_exit, s_reg, s_cond, s_cond_t, s_cond_f, s_blk, s_blk_nx, s_blk_rt, s_blk_ex, s_put, s_P, s_R, s_A, s_A_some, s_C_ret, s_C_pan, s_H, s_H_ok, s_H_call, s_H_pan, s_gd, s_gd_bool, s_gd_undef, e_t, e_k, e_mv, e_pick, e_pick_b, e_bin, e_add_i64, e_add_i32, e_sub_i64, e_sub_u8, e_mul_i64, e_addU, e_mulU, e_addU32, e_mulU32, e_eql, e_neq, e_lss, e_leq, e_gtr, e_geq, e_str_eql, e_str_neq, e_iaddr, e_iaddr_int, e_lens, e_ld, e_extract, e_ex0, e_ex1, e_ex2, e_lenS, e_lenS_str, e_cii, e_cii_int, e_slsl_hm, e_sl2, e_slsl_h, e_sl1, e_slis, e_evL_nil, e_evL_cons, e_cons, e_call, e_callk, e_app, e_appk, e_store, e_stk, e_next, e_nextk, e_range, e_rangek, e_bs1, e_bs1i, e_bs0, e_mksl, e_mkslk, e_AK_sl, e_AK_it, e_AK_ptr, e_not, e_notb, e_xori, e_idxs, s_Hn, s_Hnk, s_Nx, s_Rt, s_NR_nx, s_NR_rt, s_NXT_nx, s_NXT_ex, s_NXT_rt, e_lenV_sl, e_lenV_nils, get_pk, k_bind, true_and, and_true, if_true, if_false, Bool.true_eq, beq_self_eq_true, reduceIte, Bool.false_eq_true, reduceCtorEq, bne_self_eq_false, Nat.reduceAdd, Nat.reduceLeDiff, Nat.reduceEqDiff, Nat.reduceSub, Nat.reduceBEq, Int.reduceBEq, Int.reduceNeg, Int.reduceLT, Int.reduceLE, Nat.succ_ne_self, Bool.not_true, Bool.not_false, Bool.true_beq, Bool.false_beq, decide_true, decide_false, exists_eq_left', Option.some.injEq, g8, d1, g6, g7]
        refine ⟨?_, hK, rfl⟩
        rw [hg]; rfl
      | succ j =>
        have ej : (((j + 1 : Nat) : Int) - 1) = (j : Int) := by omega
        rw [ej] at g8
        have hj : j < A.length := by omega
        have d1 : decide ((0 : Int) ≤ (j : Int)) = true := by simp
        have ha' := ha.keep hw hK
        obtain ⟨q, q1, q2⟩ := ha'.elem hj
        have hlt := sg_lt hd.1 (A.drop (j + 1))
        have hx : A.getD j 0 < WW := hA j
        have dv := hd.2.2 m σ' _ _ hlt hx
        rw [← hcf] at dv
        have wj : IntKind.i64.wrap ((j : Int) - 1) = (j : Int) - 1 := wrap_i64 (by omega)
        have el : elemAt 1 (.sl σ.nx 0 0 A.length (some A.length) 0) (j : Nat) = some (.ptr σ.nx 0 j) := by
          simp only [elemAt]; rw [if_pos ⟨Int.natCast_nonneg _, by omega⟩]; simp
        have e2 : sg d (A.drop j) = (((sg d (A.drop (j + 1))).2 * WW + A.getD j 0) / d :: (sg d (A.drop (j + 1))).1, ((sg d (A.drop (j + 1))).2 * WW + A.getD j 0) % d) := by
          rw [drop_getD hj]; rfl
        rw [repl_end, List.append_assoc] at hg
        have st1 := st_at (σ := σ') (x := σ.nx) (o := j) (k := .u64) (n := (((sg d (A.drop (j + 1))).2 * WW + A.getD j 0) / d : Nat)) hg (by simp [repl_len])
        have hset := set_mid (repl [V.int .u64 0] j) (V.int .u64 0) (.int .u64 (((sg d (A.drop (j + 1))).2 * WW + A.getD j 0) / d : Nat)) ((sg d (A.drop (j + 1))).1.map wd)
        rw [repl_len] at hset
        rw [List.singleton_append] at st1
        rw [hset] at st1
        simp only [b42_0, QU, oP, oR, oA, oH, oPn, oRn, oAn, oHn, bi, ld, ki, kt, kf, s_ops_nil, s_ops_cons, s_ops_nx, s_ops_pn, s_seq, s_seq_nx, s_seq_ex, s_seq_rt, s_skip, s_ret, s_exit, s_reg, s_cond, s_cond_t, s_cond_f, s_blk, s_blk_nx, s_blk_rt, s_blk_ex, s_put, s_P, s_R, s_A, s_A_some, s_C_ret, s_C_pan, s_H, s_H_ok, s_H_call, s_H_pan, s_gd, s_gd_bool, s_gd_undef, e_t, e_k, e_mv, e_pick, e_pick_b, e_bin, e_add_i64, e_add_i32, e_sub_i64, e_sub_u8, e_mul_i64, e_addU, e_mulU, e_addU32, e_mulU32, e_eql, e_neq, e_lss, e_leq, e_gtr, e_geq, e_str_eql, e_str_neq, e_iaddr, e_iaddr_int, e_lens, e_ld, e_extract, e_ex0, e_ex1, e_ex2, e_lenS, e_lenS_str, e_cii, e_cii_int, e_slsl_hm, e_sl2, e_slsl_h, e_sl1, e_slis, e_evL_nil, e_evL_cons, e_cons, e_call, e_callk, e_app, e_appk, e_store, e_stk, e_next, e_nextk, e_range, e_rangek, e_bs1, e_bs1i, e_bs0, e_mksl, e_mkslk, e_AK_sl, e_AK_it, e_AK_ptr, e_not, e_notb, e_xori, e_idxs, s_Hn, s_Hnk, s_Nx, s_Rt, s_NR_nx, s_NR_rt, s_NXT_nx, s_NXT_ex, s_NXT_rt, e_lenV_sl, e_lenV_nils, get_pk, k_bind, true_and, and_true, if_true, if_false, Bool.true_eq, beq_self_eq_true, reduceIte, Bool.false_eq_true, reduceCtorEq, bne_self_eq_false, Nat.reduceAdd, Nat.reduceLeDiff, Nat.reduceEqDiff, Nat.reduceSub, Nat.reduceBEq, Int.reduceBEq, Int.reduceNeg, Int.reduceLT, Int.reduceLE, Nat.succ_ne_self, Bool.not_true, Bool.not_false, Bool.true_beq, Bool.false_beq, decide_true, decide_false, exists_eq_left', Option.some.injEq, g0, g1, g6, g7, g8, d1, q1, q2, wd, dv, el, st1, wj]
        refine ⟨j, Nat.lt_succ_self j, by omega, ?_, hK.put (Nat.le_refl _) hnx _, by rw [nx_put]; exact hnx, ?_⟩
        · rw [H.get_put, if_pos rfl, e2]; rfl
        · rw [e2]; exact ⟨rfl, rfl⟩
    · refine ⟨Nat.le_refl _, ?_⟩
      rw [List.drop_length]
      simp only [QU, oP, oR, oA, oH, oPn, oRn, oAn, oHn, bi, ld, ki, kt, kf, s_ops_nil, s_ops_cons, s_ops_nx, s_ops_pn, s_seq, s_seq_nx, s_seq_ex, s_seq_rt, s_skip, s_ret, s_exit, s_reg, s_cond, s_cond_t, s_cond_f, s_blk, s_blk_nx, s_blk_rt, s_blk_ex, s_put, s_P, s_R, s_A, s_A_some, s_C_ret, s_C_pan, s_H, s_H_ok, s_H_call, s_H_pan, s_gd, s_gd_bool, s_gd_undef, e_t, e_k, e_mv, e_pick, e_pick_b, e_bin, e_add_i64, e_add_i32, e_sub_i64, e_sub_u8, e_mul_i64, e_addU, e_mulU, e_addU32, e_mulU32, e_eql, e_neq, e_lss, e_leq, e_gtr, e_geq, e_str_eql, e_str_neq, e_iaddr, e_iaddr_int, e_lens, e_ld, e_extract, e_ex0, e_ex1, e_ex2, e_lenS, e_lenS_str, e_cii, e_cii_int, e_slsl_hm, e_sl2, e_slsl_h, e_sl1, e_slis, e_evL_nil, e_evL_cons, e_cons, e_call, e_callk, e_app, e_appk, e_store, e_stk, e_next, e_nextk, e_range, e_rangek, e_bs1, e_bs1i, e_bs0, e_mksl, e_mkslk, e_AK_sl, e_AK_it, e_AK_ptr, e_not, e_notb, e_xori, e_idxs, s_Hn, s_Hnk, s_Nx, s_Rt, s_NR_nx, s_NR_rt, s_NXT_nx, s_NXT_ex, s_NXT_rt, e_lenV_sl, e_lenV_nils, get_pk, k_bind, true_and, and_true, if_true, if_false, Bool.true_eq, beq_self_eq_true, reduceIte, Bool.false_eq_true, reduceCtorEq, bne_self_eq_false, Nat.reduceAdd, Nat.reduceLeDiff, Nat.reduceEqDiff, Nat.reduceSub, Nat.reduceBEq, Int.reduceBEq, Int.reduceNeg, Int.reduceLT, Int.reduceLE, Nat.succ_ne_self, Bool.not_true, Bool.not_false, Bool.true_beq, Bool.false_beq, decide_true, decide_false, exists_eq_left', Option.some.injEq, h0, h1]
      refine ⟨by rw [H.get_new, if_pos rfl]; simp [sg], Keep.new _ _, by rw [nx_new]; omega, ?_⟩
      simp [sg]
    · rintro τ σ' ⟨hg, hK, g6, g7⟩
      have hu : U σ' (.sl σ.nx 0 0 A.length (some A.length) 0) (sg d A).1 := by
        refine ⟨Nat.le_refl _, by simp [slLen, sg_len], ?_⟩
        simp only [slCells, blkCells, hg, visib, if_true, cut]
        rw [if_pos (by simp)]
        simp only [List.drop_zero, Nat.mul_one]
        rw [List.take_of_length_le (by simp)]
      obtain ⟨a', k1, k2⟩ := trim_call (lf := lf) (m := m + 2) hu (by rw [sg_len]; omega) (by rw [sg_len]; omega)
      rw [← hcf] at k1
      simp only [QU, oP, oR, oA, oH, oPn, oRn, oAn, oHn, bi, ld, ki, kt, kf, s_ops_nil, s_ops_cons, s_ops_nx, s_ops_pn, s_seq, s_seq_nx, s_seq_ex, s_seq_rt, s_skip, s_ret, s_exit, s_reg, s_cond, s_cond_t, s_cond_f, s_blk, s_blk_nx, s_blk_rt, s_blk_ex, s_put, s_P, s_R, s_A, s_A_some, s_C_ret, s_C_pan, s_H, s_H_ok, s_H_call, s_H_pan, s_gd, s_gd_bool, s_gd_undef, e_t, e_k, e_mv, e_pick, e_pick_b, e_bin, e_add_i64, e_add_i32, e_sub_i64, e_sub_u8, e_mul_i64, e_addU, e_mulU, e_addU32, e_mulU32, e_eql, e_neq, e_lss, e_leq, e_gtr, e_geq, e_str_eql, e_str_neq, e_iaddr, e_iaddr_int, e_lens, e_ld, e_extract, e_ex0, e_ex1, e_ex2, e_lenS, e_lenS_str, e_cii, e_cii_int, e_slsl_hm, e_sl2, e_slsl_h, e_sl1, e_slis, e_evL_nil, e_evL_cons, e_cons, e_call, e_callk, e_app, e_appk, e_store, e_stk, e_next, e_nextk, e_range, e_rangek, e_bs1, e_bs1i, e_bs0, e_mksl, e_mkslk, e_AK_sl, e_AK_it, e_AK_ptr, e_not, e_notb, e_xori, e_idxs, s_Hn, s_Hnk, s_Nx, s_Rt, s_NR_nx, s_NR_rt, s_NXT_nx, s_NXT_ex, s_NXT_rt, e_lenV_sl, e_lenV_nils, get_pk, k_bind, true_and, and_true, if_true, if_false, Bool.true_eq, beq_self_eq_true, reduceIte, Bool.false_eq_true, reduceCtorEq, bne_self_eq_false, Nat.reduceAdd, Nat.reduceLeDiff, Nat.reduceEqDiff, Nat.reduceSub, Nat.reduceBEq, Int.reduceBEq, Int.reduceNeg, Int.reduceLT, Int.reduceLE, Nat.succ_ne_self, Bool.not_true, Bool.not_false, Bool.true_beq, Bool.false_beq, decide_true, decide_false, exists_eq_left', Option.some.injEq, g6, g7, k1]
      exact ⟨_, _, rfl, rfl, rfl, k2, hK⟩
  obtain ⟨v, u, σ', h1, rfl, h2⟩ := key
  exact ⟨v, σ', h1, h2⟩
end Go.Proofs.YtahgfodccndcjaaGreatEng
