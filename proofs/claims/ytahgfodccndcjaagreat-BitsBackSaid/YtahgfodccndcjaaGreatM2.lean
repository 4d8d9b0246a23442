/- math/bits.Div64 run on symbols. (Layer 1.) -/
import Derived.Test.YtahgfodccndcjaaGreatM1
namespace Go.Proofs.YtahgfodccndcjaaGreatEng
open Go
set_option maxRecDepth 100000
set_option linter.unusedSimpArgs false

/-- a digit of a quotient: what is guessed is never too small -/
theorem dq_ge {n1 n0 u l : Nat} (h1 : 2147483648 ≤ n1) (hu : u < n1 * 4294967296 + n0) (hn0 : n0 < 4294967296) (hl : l < 4294967296) :
    (u * 4294967296 + l) / (n1 * 4294967296 + n0) ≤ u / n1 ∧ u / n1 ≤ 4294967297 := by
  constructor
  · rw [Nat.le_div_iff_mul_le (by omega)]
    generalize hq : (u * 4294967296 + l) / (n1 * 4294967296 + n0) = q
    have h2 : q * (n1 * 4294967296 + n0) ≤ u * 4294967296 + l := by rw [← hq]; exact Nat.div_mul_le_self _ _
    rw [Nat.mul_add, ← Nat.mul_assoc] at h2
    generalize q * n1 = t at h2 ⊢
    omega
  · have : u / n1 < 4294967298 := by
      rw [Nat.div_lt_iff_lt_mul (by omega)]; omega
    omega
theorem dq_lt {Y u l : Nat} (hu : u < Y) (hl : l < 4294967296) : (u * 4294967296 + l) / Y < 4294967296 := by
  rw [Nat.div_lt_iff_lt_mul (by omega)]
  have : (u + 1) * 4294967296 ≤ Y * 4294967296 := Nat.mul_le_mul_right _ hu
  rw [Nat.mul_comm 4294967296 Y]
  omega
/-- too large: one less is not too small -/
theorem dq_step {n1 n0 u l q r : Nat} (hq : q * n1 + r = u) (hu : u < n1 * 4294967296 + n0) (hl : l < 4294967296) (hge : (u * 4294967296 + l) / (n1 * 4294967296 + n0) ≤ q)
    (hc : 4294967296 ≤ q ∨ 4294967296 * r + l < q * n0) : 1 ≤ q ∧ (u * 4294967296 + l) / (n1 * 4294967296 + n0) ≤ q - 1 ∧ (q - 1) * n1 + (r + n1) = u := by
  have hlt := dq_lt hu hl
  generalize hQ : (u * 4294967296 + l) / (n1 * 4294967296 + n0) = Q at *
  have h1 : Q < q := by
    rcases hc with h | h
    · omega
    · apply Nat.lt_of_not_le
      intro hle
      have h2 : q * (n1 * 4294967296 + n0) ≤ u * 4294967296 + l := by
        refine Nat.le_trans (Nat.mul_le_mul_right _ hle) ?_
        rw [← hQ]; exact Nat.div_mul_le_self _ _
      rw [Nat.mul_add, ← Nat.mul_assoc] at h2
      subst hq
      generalize q * n1 = t at *
      generalize q * n0 = w at *
      omega
  refine ⟨by omega, by omega, ?_⟩
  obtain ⟨p, rfl⟩ : ∃ p, q = p + 1 := ⟨q - 1, by omega⟩
  rw [Nat.add_mul, Nat.one_mul] at hq
  rw [Nat.add_sub_cancel]
  omega
/-- not too large -/
theorem dq_le {n1 n0 u l q r : Nat} (h0 : 0 < n1) (hq : q * n1 + r = u) (hc : q * n0 ≤ 4294967296 * r + l) : q ≤ (u * 4294967296 + l) / (n1 * 4294967296 + n0) := by
  rw [Nat.le_div_iff_mul_le (by omega), Nat.mul_add, ← Nat.mul_assoc]
  subst hq
  generalize q * n1 = t at *
  generalize q * n0 = w at *
  omega
theorem dq_exit {n1 n0 u l q r : Nat} (h0 : 0 < n1) (hn0 : n0 < 4294967296) (hq : q * n1 + r = u) (hq2 : q ≤ 4294967296) (hr : 4294967296 ≤ r) : q ≤ (u * 4294967296 + l) / (n1 * 4294967296 + n0) := by
  refine dq_le h0 hq ?_
  have : q * n0 ≤ 4294967296 * 4294967296 := Nat.mul_le_mul hq2 (by omega)
  have : 4294967296 * 4294967296 ≤ 4294967296 * r := Nat.mul_le_mul_left _ hr
  omega
theorem dv_ac (q1 q0 B y P : Nat) : (q1 * B + q0) * y * P = y * P * q1 * B + y * P * q0 := by
  rw [Nat.mul_assoc, Nat.add_mul]
  congr 1
  · simp only [Nat.mul_comm, Nat.mul_left_comm]
  · exact Nat.mul_comm _ _
/-- two digits -/
theorem dv_two' {B W h l y s Y u u1 u0 : Nat} (hW : W = B * B) (hY : Y = y * 2 ^ s) (hy : 0 < y) (hN : (h * W + l) * 2 ^ s = u * W + u1 * B + u0) :
    (u * B + u1) / Y * B + ((u * B + u1) % Y * B + u0) / Y = (h * W + l) / y ∧
    ((u * B + u1) % Y * B + u0) % Y / 2 ^ s = (h * W + l) % y := by
  generalize h * W + l = N at *
  have hN' : N * 2 ^ s = (u * B + u1) * B + u0 := by rw [hN, Nat.add_mul, hW, Nat.mul_assoc]
  clear hN hW
  generalize u * B + u1 = A at *
  have e1 := Nat.div_add_mod A Y
  generalize A / Y = q1 at *
  generalize A % Y = r1 at *
  generalize hC : r1 * B + u0 = C at *
  have e2 := Nat.div_add_mod C Y
  have e3 : C % Y < Y := Nat.mod_lt _ (by rw [hY]; exact Nat.mul_pos hy (Nat.two_pow_pos s))
  generalize C / Y = q0 at *
  generalize C % Y = r0 at *
  have hP := Nat.two_pow_pos s
  generalize 2 ^ s = P at *
  have e4 : N * P = (q1 * B + q0) * y * P + r0 := by
    rw [hN', ← e1, Nat.add_mul, Nat.add_assoc, hC, ← e2, hY, dv_ac, Nat.add_assoc]
  have e5 : (q1 * B + q0) * y ≤ N := by
    apply Nat.le_of_mul_le_mul_right _ hP
    omega
  obtain ⟨d, rfl⟩ : ∃ d, N = (q1 * B + q0) * y + d := ⟨N - (q1 * B + q0) * y, by omega⟩
  have e6 : d * P = r0 := by
    rw [Nat.add_mul] at e4; omega
  have e7 : d < y := by
    apply Nat.lt_of_mul_lt_mul_right (a := P)
    rw [e6, ← hY]; exact e3
  constructor
  · rw [Nat.mul_comm _ y, Nat.mul_add_div hy, Nat.div_eq_of_lt e7, Nat.add_zero]
  · rw [← e6, Nat.mul_div_cancel _ hP, Nat.mul_comm _ y, Nat.mul_add_mod, Nat.mod_eq_of_lt e7]
theorem dv_two {h l y s Y u u1 u0 : Nat} (hY : Y = y * 2 ^ s) (hy : 0 < y) (hN : (h * 18446744073709551616 + l) * 2 ^ s = u * 18446744073709551616 + u1 * 4294967296 + u0) :
    (u * 4294967296 + u1) / Y * 4294967296 + ((u * 4294967296 + u1) % Y * 4294967296 + u0) / Y = (h * 18446744073709551616 + l) / y ∧
    ((u * 4294967296 + u1) % Y * 4294967296 + u0) % Y / 2 ^ s = (h * 18446744073709551616 + l) % y := dv_two' (by decide) hY hy hN
/-- the upper word, moved -/
theorem dv_or {h l s : Nat} (hs : s < 64) (hl : l < 18446744073709551616) : h * 2 ^ s ||| l / 2 ^ (64 - s) = (h * 18446744073709551616 + l) * 2 ^ s / 18446744073709551616 := by
  have h1 : l / 2 ^ (64 - s) < 2 ^ s := by
    rw [Nat.div_lt_iff_lt_mul (Nat.two_pow_pos _), ← Nat.pow_add, show s + (64 - s) = 64 by omega]; exact hl
  rw [Nat.mul_comm, ← Nat.two_pow_add_eq_or_of_lt h1]
  have e : (18446744073709551616 : Nat) = 2 ^ (64 - s) * 2 ^ s := by rw [← Nat.pow_add, show 64 - s + s = 64 by omega]
  rw [Nat.add_mul, Nat.mul_right_comm, Nat.mul_comm (h * 2 ^ s), Nat.mul_add_div (by decide), Nat.mul_comm h]
  congr 1
  rw [e, Nat.mul_div_mul_right _ _ (Nat.two_pow_pos s)]

theorem c81_at : T1.code 81 = some c81 := by kernel_rfl
theorem c143_at : T1.code 143 = some c143 := by kernel_rfl

theorem e_shlM (q : EqT) (k : IntKind) (x j : Nat) (h : j < 64) : kBin .shl q (some (.int .u64 x)) (some (.int k j)) = some (.int .u64 (x * 2 ^ j % 18446744073709551616 : Nat)) := by
  rw [e_shift _ _ _ _ _ _ rfl]
  simp only [ishift]
  rw [if_neg (by omega)]
  have e : min (j : Int).toNat IntKind.u64.bits = j := by simp [IntKind.bits]; omega
  rw [e]
  have : (x : Int) * 2 ^ j = ((x * 2 ^ j : Nat) : Int) := by simp
  rw [this, wrapU]
theorem e_shrV (q : EqT) (k' : IntKind) (x j : Nat) (h : j ≤ 64) : kBin .shr q (some (.int .u64 x)) (some (.int k' j)) = some (.int .u64 (x / 2 ^ j : Nat)) := by
  simp only [kBin, vbin, isShift, if_true, ishift]
  rw [if_neg (by omega)]
  have : min (j : Int).toNat IntKind.u64.bits = j := by simp [IntKind.bits]; omega
  rw [this]
  congr 2
  rw [Int.fdiv_eq_ediv_of_nonneg _ (by exact Int.pow_nonneg (by omega))]
  simp
theorem e_subU (q : EqT) {x y z : Nat} (h : x % 18446744073709551616 = (z + y) % 18446744073709551616) (hz : z < 18446744073709551616) : kBin .sub q (some (.int .u64 x)) (some (.int .u64 y)) = some (.int .u64 (z : Nat)) := by
  rw [e_sub]
  congr 2
  simp only [IntKind.wrap, IntKind.bits, IntKind.signed]
  simp
  omega
theorem e_quoU (q : EqT) (x y : Nat) (hy : 0 < y) (hx : x < 18446744073709551616) : kBin .quo q (some (.int .u64 x)) (some (.int .u64 y)) = some (.int .u64 (x / y : Nat)) := by
  rw [e_quo _ _ _ _ (by omega)]
  have : (x : Int).tdiv y = ((x / y : Nat) : Int) := by
    rw [Int.tdiv_eq_ediv_of_nonneg (Int.natCast_nonneg x)]; rfl
  rw [this, wrapU, Nat.mod_eq_of_lt (Nat.lt_of_le_of_lt (Nat.div_le_self _ _) hx)]
theorem e_remU (q : EqT) (x y : Nat) (hy : 0 < y) : kBin .rem q (some (.int .u64 x)) (some (.int .u64 y)) = some (.int .u64 (x % y : Nat)) := by
  rw [e_rem _ _ _ _ (by omega)]
  have : (x : Int).tmod y = ((x % y : Nat) : Int) := by
    rw [Int.tmod_eq_emod_of_nonneg (Int.natCast_nonneg x)]; rfl
  rw [this]
theorem e_mulB (q : EqT) (x : Nat) : kBin .mul q (some (.int .u64 4294967296)) (some (.int .u64 x)) = some (.int .u64 (4294967296 * x % 18446744073709551616 : Nat)) := e_mulU q 4294967296 x
theorem e_mulBr (q : EqT) (x : Nat) : kBin .mul q (some (.int .u64 x)) (some (.int .u64 4294967296)) = some (.int .u64 (x * 4294967296 % 18446744073709551616 : Nat)) := e_mulU q x 4294967296

theorem dv_join {a b : Nat} (ha : a < 4294967296) (hb : b < 4294967296) : (a * 4294967296 % 18446744073709551616 + b) % 18446744073709551616 = a * 4294967296 + b := by omega
theorem dv_sub {w v p z : Nat} (h : p + z = w * 4294967296 + v) : (w * 4294967296 % 18446744073709551616 + v) % 18446744073709551616 % 18446744073709551616 = (z + p % 18446744073709551616) % 18446744073709551616 := by omega

/-- LeadingZeros64 -/
theorem lz_call {lf m : Nat} {σ : H} {x s : Nat} (hx : x < WW) (hs : l64 x + s = 64) : call T1 lf (m + 2) 143 [.int .u64 x] σ = .ret (.int .i64 (s : Nat)) σ := by
  have key : ∃ v σ', call T1 lf (m + 2) 143 [.int .u64 x] σ = .ret v σ' ∧ (v = .int .i64 (s : Nat) ∧ σ' = σ) := by
    refine call_rt1 (p := pk 2) rfl c143_at (by simp [c143]) rfl fun cf hcf => ?_
    generalize hτ : bindArgs [.int .u64 (x : Int)] .h .lf = τ0
    have h0 : τ0.get (pk 0) = some (.int .u64 x) := by rw [← hτ]; rfl
    clear hτ
    have k := len64_call (lf := lf) (m := m) (σ := σ) hx
    rw [← hcf] at k
    have w : IntKind.i64.wrap ((64 : Int) - ((l64 x : Nat) : Int)) = (s : Int) := by
      rw [← wrap_nat (n := s) (by omega)]; congr 1; omega
    simp only [c143, QU, oP, oR, oA, oH, oPn, oRn, oAn, oHn, bi, ld, ki, kt, kf, s_ops_nil, s_ops_cons, s_ops_nx, s_ops_pn, s_seq, s_seq_nx, s_seq_ex, s_seq_rt, s_skip, s_ret, s_exit, s_reg, s_cond, s_cond_t, s_cond_f, s_blk, s_blk_nx, s_blk_rt, s_blk_ex, s_put, s_P, s_R, s_A, s_A_some, s_C_ret, s_C_pan, s_H, s_H_ok, s_H_call, s_H_pan, s_gd, s_gd_bool, s_gd_undef, e_t, e_k, e_mv, e_pick, e_pick_b, e_bin, e_add_i64, e_add_i32, e_sub_i64, e_sub_u8, e_mul_i64, e_addU, e_mulU, e_addU32, e_mulU32, e_eql, e_neq, e_lss, e_leq, e_gtr, e_geq, e_str_eql, e_str_neq, e_iaddr, e_iaddr_int, e_lens, e_ld, e_extract, e_ex0, e_ex1, e_ex2, e_lenS, e_lenS_str, e_cii, e_cii_int, e_slsl_hm, e_sl2, e_slsl_h, e_sl1, e_slis, e_evL_nil, e_evL_cons, e_cons, e_call, e_callk, e_app, e_appk, e_store, e_stk, e_next, e_nextk, e_range, e_rangek, e_bs1, e_bs1i, e_bs0, e_mksl, e_mkslk, e_AK_sl, e_AK_it, e_AK_ptr, e_not, e_notb, e_xori, e_idxs, s_Hn, s_Hnk, s_Nx, s_Rt, s_NR_nx, s_NR_rt, s_NXT_nx, s_NXT_ex, s_NXT_rt, e_lenV_sl, e_lenV_nils, get_pk, k_bind, true_and, and_true, if_true, if_false, Bool.true_eq, beq_self_eq_true, reduceIte, Bool.false_eq_true, reduceCtorEq, bne_self_eq_false, Nat.reduceAdd, Nat.reduceLeDiff, Nat.reduceEqDiff, Nat.reduceSub, Nat.reduceBEq, Int.reduceBEq, Int.reduceNeg, Int.reduceLT, Int.reduceLE, Nat.succ_ne_self, Bool.not_true, Bool.not_false, Bool.true_beq, Bool.false_beq, decide_true, decide_false, exists_eq_left', Option.some.injEq, h0, k, w]
  obtain ⟨v, _, h1, rfl, rfl⟩ := key
  exact h1

/-- Div64 -/
theorem div64_call {lf m : Nat} {σ : H} {h l y s : Nat} (hy : h < y) (hyW : y < WW) (hl : l < WW) (hs : s < 64) (hY1 : 9223372036854775808 ≤ y * 2 ^ s) (hY2 : y * 2 ^ s < WW) (hlz : l64 y + s = 64) (hlf : 35184372088832 < lf) :
    call T1 lf (m + 3) 81 [.int .u64 h, .int .u64 l, .int .u64 y] σ = .ret (.tup [.int .u64 ((h * WW + l) / y : Nat), .int .u64 ((h * WW + l) % y : Nat)]) σ := by
  have key : ∃ v u σ', call T1 lf (m + 3) 81 [.int .u64 h, .int .u64 l, .int .u64 y] σ = .ret (.tup [v, u]) σ' ∧ (v = .int .u64 ((h * WW + l) / y : Nat) ∧ u = .int .u64 ((h * WW + l) % y : Nat) ∧ σ' = σ) := by
    refine call_rt2 (p := pk 6) (q := pk 7) rfl c81_at (by simp [c81]) rfl fun cf hcf => ?_
    generalize hτ : bindArgs [.int .u64 (h : Int), .int .u64 (l : Int), .int .u64 (y : Int)] .h .lf = τ0
    have h0 : τ0.get (pk 0) = some (.int .u64 h) := by rw [← hτ]; rfl
    have h1 : τ0.get (pk 1) = some (.int .u64 l) := by rw [← hτ]; rfl
    have h2 : τ0.get (pk 2) = some (.int .u64 y) := by rw [← hτ]; rfl
    clear hτ
    have hy0 : 0 < y := by omega
    have z1 : ((y : Int) == 0) = false := by simp; omega
    have z2 : decide ((y : Int) ≤ (h : Int)) = false := by simp; omega
    by_cases hh : h = 0
    · have z3 : ((h : Int) == 0) = true := by simp; exact hh
      have qq := fun Q => e_quoU Q l y hy0 hl
      have rr := fun Q => e_remU Q l y hy0
      simp only [c81, QU, oP, oR, oA, oH, oPn, oRn, oAn, oHn, bi, ld, ki, kt, kf, s_ops_nil, s_ops_cons, s_ops_nx, s_ops_pn, s_seq, s_seq_nx, s_seq_ex, s_seq_rt, s_skip, s_ret, s_exit, s_reg, s_cond, s_cond_t, s_cond_f, s_blk, s_blk_nx, s_blk_rt, s_blk_ex, s_put, s_P, s_R, s_A, s_A_some, s_C_ret, s_C_pan, s_H, s_H_ok, s_H_call, s_H_pan, s_gd, s_gd_bool, s_gd_undef, e_t, e_k, e_mv, e_pick, e_pick_b, e_bin, e_add_i64, e_add_i32, e_sub_i64, e_sub_u8, e_mul_i64, e_addU, e_mulU, e_addU32, e_mulU32, e_eql, e_neq, e_lss, e_leq, e_gtr, e_geq, e_str_eql, e_str_neq, e_iaddr, e_iaddr_int, e_lens, e_ld, e_extract, e_ex0, e_ex1, e_ex2, e_lenS, e_lenS_str, e_cii, e_cii_int, e_slsl_hm, e_sl2, e_slsl_h, e_sl1, e_slis, e_evL_nil, e_evL_cons, e_cons, e_call, e_callk, e_app, e_appk, e_store, e_stk, e_next, e_nextk, e_range, e_rangek, e_bs1, e_bs1i, e_bs0, e_mksl, e_mkslk, e_AK_sl, e_AK_it, e_AK_ptr, e_not, e_notb, e_xori, e_idxs, s_Hn, s_Hnk, s_Nx, s_Rt, s_NR_nx, s_NR_rt, s_NXT_nx, s_NXT_ex, s_NXT_rt, e_lenV_sl, e_lenV_nils, get_pk, k_bind, true_and, and_true, if_true, if_false, Bool.true_eq, beq_self_eq_true, reduceIte, Bool.false_eq_true, reduceCtorEq, bne_self_eq_false, Nat.reduceAdd, Nat.reduceLeDiff, Nat.reduceEqDiff, Nat.reduceSub, Nat.reduceBEq, Int.reduceBEq, Int.reduceNeg, Int.reduceLT, Int.reduceLE, Nat.succ_ne_self, Bool.not_true, Bool.not_false, Bool.true_beq, Bool.false_beq, decide_true, decide_false, exists_eq_left', Option.some.injEq, w_drw, w_nil, w_0, w_3, w_0nx, w_1s, w_1nx, w_1lk, w_1ls, w_2, w_2nx, h0, h1, h2, z1, z2, z3, qq, rr, List.all_nil]
      exact ⟨_, _, rfl, rfl, by rw [hh, Nat.zero_mul, Nat.zero_add], by rw [hh, Nat.zero_mul, Nat.zero_add]⟩
    · have z3 : ((h : Int) == 0) = false := by simp; exact hh
      have kz := lz_call (lf := lf) (m := m) (σ := σ) hyW hlz
      rw [← hcf] at kz
      have ws : IntKind.u64.wrap (s : Int) = (s : Int) := by rw [wrapU, Nat.mod_eq_of_lt (by omega)]
      -- the divisor, moved
      generalize hYd : y * 2 ^ s = Y at hY1 hY2
      have hY2' : Y < 18446744073709551616 := hY2
      have sh1 : ∀ Q k, kBin .shl Q (some (.int .u64 y)) (some (.int k s)) = some (.int .u64 (Y : Nat)) := fun Q k => by
        rw [e_shlM Q k y s hs, hYd, Nat.mod_eq_of_lt hY2]
      have e32 := fun Q => e_shr32 Q .u64 Y
      have em := fun Q => e_mask Q Y hY2
      generalize hn1 : Y / 4294967296 = n1 at e32
      generalize hn0 : Y % 4294967296 = n0 at em
      have hYe : Y = n1 * 4294967296 + n0 := by omega
      have hn1a : 2147483648 ≤ n1 := by omega
      have hn1b : n1 < 4294967296 := by omega
      have hn0b : n0 < 4294967296 := by omega
      -- the dividend, moved
      have hN := dv_or (h := h) hs hl
      generalize hu : (h * 18446744073709551616 + l) * 2 ^ s / 18446744073709551616 = u at hN
      have huY : u < Y := by
        rw [← hu, Nat.div_lt_iff_lt_mul (by decide), ← hYd, Nat.mul_right_comm]
        apply Nat.mul_lt_mul_of_pos_right _ (Nat.two_pow_pos s)
        have : (h + 1) * 18446744073709551616 ≤ y * 18446744073709551616 := Nat.mul_le_mul_right _ hy
        have hl' : l < 18446744073709551616 := hl
        omega
      have hshh : h * 2 ^ s < 18446744073709551616 := by
        have : h * 2 ^ s ≤ y * 2 ^ s := Nat.mul_le_mul_right _ (Nat.le_of_lt hy)
        omega
      have sh2 : ∀ Q k, kBin .shl Q (some (.int .u64 h)) (some (.int k s)) = some (.int .u64 (h * 2 ^ s : Nat)) := fun Q k => by
        rw [e_shlM Q k h s hs, Nat.mod_eq_of_lt hshh]
      have s64 : ∀ Q, kBin .sub Q (some (.int .u64 64)) (some (.int .u64 s)) = some (.int .u64 (64 - s : Nat)) := fun Q => e_subU Q (x := 64) (by rw [Nat.sub_add_cancel (by omega)]) (by omega)
      have sh3 : ∀ Q k, kBin .shr Q (some (.int .u64 l)) (some (.int k (64 - s : Nat))) = some (.int .u64 (l / 2 ^ (64 - s) : Nat)) := fun Q k => e_shrV Q k l (64 - s) (by omega)
      have or1 : ∀ Q, kBin .or Q (some (.int .u64 (h * 2 ^ s : Nat))) (some (.int .u64 (l / 2 ^ (64 - s) : Nat))) = some (.int .u64 (u : Nat)) := fun Q => by
        rw [e_orU Q _ _ hshh (Nat.lt_of_le_of_lt (Nat.div_le_self _ _) hl), hN]
      have sh4 : ∀ Q k, kBin .shl Q (some (.int .u64 l)) (some (.int k s)) = some (.int .u64 (l * 2 ^ s % 18446744073709551616 : Nat)) := fun Q k => e_shlM Q k l s hs
      generalize hv : l * 2 ^ s % 18446744073709551616 = v at sh4
      have hvW : v < 18446744073709551616 := by rw [← hv]; exact Nat.mod_lt _ (by decide)
      have hNe : (h * 18446744073709551616 + l) * 2 ^ s = u * 18446744073709551616 + v / 4294967296 * 4294967296 + v % 4294967296 := by
        have e1 := Nat.div_add_mod ((h * 18446744073709551616 + l) * 2 ^ s) 18446744073709551616
        have e2 : (h * 18446744073709551616 + l) * 2 ^ s % 18446744073709551616 = v := by
          rw [Nat.add_mul, Nat.mul_right_comm, Nat.mul_comm (h * 2 ^ s), Nat.mul_add_mod, hv]
        rw [hu, e2] at e1
        omega
      have e32v := fun Q => e_shr32 Q .u64 v
      have emv := fun Q => e_mask Q v hvW
      generalize hu1 : v / 4294967296 = vh at *
      generalize hu0 : v % 4294967296 = vl at *
      have hu1b : vh < 4294967296 := by omega
      have hu0b : vl < 4294967296 := by omega
      have hfin := dv_two (Y := Y) hYd.symm hy0 hNe
      have q1e := fun Q => e_quoU Q u n1 (by omega) (by omega)
      have r1m : u / n1 * n1 % 18446744073709551616 = u / n1 * n1 := Nat.mod_eq_of_lt (by have := Nat.div_mul_le_self u n1; omega)
      have r1e : ∀ Q, kBin .sub Q (some (.int .u64 u)) (some (.int .u64 (u / n1 * n1 : Nat))) = some (.int .u64 (u % n1 : Nat)) := fun Q => e_subU Q (by have := Nat.div_add_mod u n1; rw [Nat.mul_comm] at this; congr 1; omega) (by have := Nat.mod_le u n1; omega)
      simp only [c81, QU, oP, oR, oA, oH, oPn, oRn, oAn, oHn, bi, ld, ki, kt, kf, s_ops_nil, s_ops_cons, s_ops_nx, s_ops_pn, s_seq, s_seq_nx, s_seq_ex, s_seq_rt, s_skip, s_ret, s_exit, s_reg, s_cond, s_cond_t, s_cond_f, s_blk, s_blk_nx, s_blk_rt, s_blk_ex, s_put, s_P, s_R, s_A, s_A_some, s_C_ret, s_C_pan, s_H, s_H_ok, s_H_call, s_H_pan, s_gd, s_gd_bool, s_gd_undef, e_t, e_k, e_mv, e_pick, e_pick_b, e_bin, e_add_i64, e_add_i32, e_sub_i64, e_sub_u8, e_mul_i64, e_addU, e_mulU, e_addU32, e_mulU32, e_eql, e_neq, e_lss, e_leq, e_gtr, e_geq, e_str_eql, e_str_neq, e_iaddr, e_iaddr_int, e_lens, e_ld, e_extract, e_ex0, e_ex1, e_ex2, e_lenS, e_lenS_str, e_cii, e_cii_int, e_slsl_hm, e_sl2, e_slsl_h, e_sl1, e_slis, e_evL_nil, e_evL_cons, e_cons, e_call, e_callk, e_app, e_appk, e_store, e_stk, e_next, e_nextk, e_range, e_rangek, e_bs1, e_bs1i, e_bs0, e_mksl, e_mkslk, e_AK_sl, e_AK_it, e_AK_ptr, e_not, e_notb, e_xori, e_idxs, s_Hn, s_Hnk, s_Nx, s_Rt, s_NR_nx, s_NR_rt, s_NXT_nx, s_NXT_ex, s_NXT_rt, e_lenV_sl, e_lenV_nils, get_pk, k_bind, true_and, and_true, if_true, if_false, Bool.true_eq, beq_self_eq_true, reduceIte, Bool.false_eq_true, reduceCtorEq, bne_self_eq_false, Nat.reduceAdd, Nat.reduceLeDiff, Nat.reduceEqDiff, Nat.reduceSub, Nat.reduceBEq, Int.reduceBEq, Int.reduceNeg, Int.reduceLT, Int.reduceLE, Nat.succ_ne_self, Bool.not_true, Bool.not_false, Bool.true_beq, Bool.false_beq, decide_true, decide_false, exists_eq_left', Option.some.injEq, h0, h1, h2, z1, z2, z3, kz, ws, sh1, e32, em, sh2, s64, sh3, or1, sh4, e32v, emv, q1e, r1m, r1e]
      refine Rt_seq (loop_rule_x
        (fun k τ σ' => ∃ q r, k = q ∧ σ' = σ ∧ τ.get (pk 2) = some (.int .u64 Y) ∧ τ.get (pk 8) = some (.int .u64 s) ∧ τ.get (pk 9) = some (.int .u64 n1) ∧ τ.get (pk 10) = some (.int .u64 n0) ∧ τ.get (pk 11) = some (.int .u64 u) ∧ τ.get (pk 13) = some (.int .u64 vh) ∧ τ.get (pk 14) = some (.int .u64 vl) ∧ τ.get (pk 15) = some (.int .u64 (q : Nat)) ∧ τ.get (pk 16) = some (.int .u64 (r : Nat)) ∧ q * n1 + r = u ∧ r < 4294967296 ∧ (u * 4294967296 + vh) / Y ≤ q ∧ q ≤ 4294967297)
        (fun τ σ' => σ' = σ ∧ τ.get (pk 2) = some (.int .u64 Y) ∧ τ.get (pk 8) = some (.int .u64 s) ∧ τ.get (pk 9) = some (.int .u64 n1) ∧ τ.get (pk 10) = some (.int .u64 n0) ∧ τ.get (pk 11) = some (.int .u64 u) ∧ τ.get (pk 13) = some (.int .u64 vh) ∧ τ.get (pk 14) = some (.int .u64 vl) ∧ τ.get (pk 15) = some (.int .u64 ((u * 4294967296 + vh) / Y : Nat)))
        ?_ (k := u / n1) ?_ ?_) ?_
      · rintro q τ σ' ⟨_, r, rfl, hσ, g2, g8, g9, g10, g11, g13, g14, gq, gr, e1, e2, e3, e4⟩
        subst hσ
        have sq : 1 ≤ q → ∀ Q, kBin .sub Q (some (.int .u64 q)) (some (.int .u64 1)) = some (.int .u64 (q - 1 : Nat)) := fun h Q => e_subU Q (y := 1) (by rw [Nat.sub_add_cancel h]) (by omega)
        have ar : (r + n1) % 18446744073709551616 = r + n1 := Nat.mod_eq_of_lt (by omega)
        have md : 4294967296 * r % 18446744073709551616 = 4294967296 * r := Nat.mod_eq_of_lt (by omega)
        have md2 : (4294967296 * r + vh) % 18446744073709551616 = 4294967296 * r + vh := Nat.mod_eq_of_lt (by omega)
        have next : (4294967296 ≤ q ∨ 4294967296 * r + vh < q * n0) → 1 ≤ q ∧ (u * 4294967296 + vh) / Y ≤ q - 1 ∧ (q - 1) * n1 + (r + n1) = u := fun hc => by
          rw [hYe] at e3 ⊢
          exact dq_step e1 (by rw [← hYe]; exact huY) hu1b e3 hc
        by_cases hq : 4294967296 ≤ q
        · have d1 : decide ((4294967296 : Int) ≤ (q : Int)) = true := by simp; omega
          obtain ⟨f1, f2, f3⟩ := next (.inl hq)
          have sq := sq f1
          by_cases hr : 4294967296 ≤ r + n1
          · have d2 : decide ((4294967296 : Int) ≤ ((r + n1 : Nat) : Int)) = true := by simp; omega
            have hQ : (u * 4294967296 + vh) / Y = q - 1 := Nat.le_antisymm f2 (by rw [hYe]; exact dq_exit (by omega) hn0b f3 (by omega) hr)
            simp only [b81_0, QU, oP, oR, oA, oH, oPn, oRn, oAn, oHn, bi, ld, ki, kt, kf, s_ops_nil, s_ops_cons, s_ops_nx, s_ops_pn, s_seq, s_seq_nx, s_seq_ex, s_seq_rt, s_skip, s_ret, s_exit, s_reg, s_cond, s_cond_t, s_cond_f, s_blk, s_blk_nx, s_blk_rt, s_blk_ex, s_put, s_P, s_R, s_A, s_A_some, s_C_ret, s_C_pan, s_H, s_H_ok, s_H_call, s_H_pan, s_gd, s_gd_bool, s_gd_undef, e_t, e_k, e_mv, e_pick, e_pick_b, e_bin, e_add_i64, e_add_i32, e_sub_i64, e_sub_u8, e_mul_i64, e_addU, e_mulU, e_addU32, e_mulU32, e_eql, e_neq, e_lss, e_leq, e_gtr, e_geq, e_str_eql, e_str_neq, e_iaddr, e_iaddr_int, e_lens, e_ld, e_extract, e_ex0, e_ex1, e_ex2, e_lenS, e_lenS_str, e_cii, e_cii_int, e_slsl_hm, e_sl2, e_slsl_h, e_sl1, e_slis, e_evL_nil, e_evL_cons, e_cons, e_call, e_callk, e_app, e_appk, e_store, e_stk, e_next, e_nextk, e_range, e_rangek, e_bs1, e_bs1i, e_bs0, e_mksl, e_mkslk, e_AK_sl, e_AK_it, e_AK_ptr, e_not, e_notb, e_xori, e_idxs, s_Hn, s_Hnk, s_Nx, s_Rt, s_NR_nx, s_NR_rt, s_NXT_nx, s_NXT_ex, s_NXT_rt, e_lenV_sl, e_lenV_nils, get_pk, k_bind, true_and, and_true, if_true, if_false, Bool.true_eq, beq_self_eq_true, reduceIte, Bool.false_eq_true, reduceCtorEq, bne_self_eq_false, Nat.reduceAdd, Nat.reduceLeDiff, Nat.reduceEqDiff, Nat.reduceSub, Nat.reduceBEq, Int.reduceBEq, Int.reduceNeg, Int.reduceLT, Int.reduceLE, Nat.succ_ne_self, Bool.not_true, Bool.not_false, Bool.true_beq, Bool.false_beq, decide_true, decide_false, exists_eq_left', Option.some.injEq, g2, g8, g9, g10, g11, g13, g14, gq, gr, d1, sq, ar, d2, hQ]
          · have d2 : decide ((4294967296 : Int) ≤ ((r + n1 : Nat) : Int)) = false := by simp; omega
            simp only [b81_0, QU, oP, oR, oA, oH, oPn, oRn, oAn, oHn, bi, ld, ki, kt, kf, s_ops_nil, s_ops_cons, s_ops_nx, s_ops_pn, s_seq, s_seq_nx, s_seq_ex, s_seq_rt, s_skip, s_ret, s_exit, s_reg, s_cond, s_cond_t, s_cond_f, s_blk, s_blk_nx, s_blk_rt, s_blk_ex, s_put, s_P, s_R, s_A, s_A_some, s_C_ret, s_C_pan, s_H, s_H_ok, s_H_call, s_H_pan, s_gd, s_gd_bool, s_gd_undef, e_t, e_k, e_mv, e_pick, e_pick_b, e_bin, e_add_i64, e_add_i32, e_sub_i64, e_sub_u8, e_mul_i64, e_addU, e_mulU, e_addU32, e_mulU32, e_eql, e_neq, e_lss, e_leq, e_gtr, e_geq, e_str_eql, e_str_neq, e_iaddr, e_iaddr_int, e_lens, e_ld, e_extract, e_ex0, e_ex1, e_ex2, e_lenS, e_lenS_str, e_cii, e_cii_int, e_slsl_hm, e_sl2, e_slsl_h, e_sl1, e_slis, e_evL_nil, e_evL_cons, e_cons, e_call, e_callk, e_app, e_appk, e_store, e_stk, e_next, e_nextk, e_range, e_rangek, e_bs1, e_bs1i, e_bs0, e_mksl, e_mkslk, e_AK_sl, e_AK_it, e_AK_ptr, e_not, e_notb, e_xori, e_idxs, s_Hn, s_Hnk, s_Nx, s_Rt, s_NR_nx, s_NR_rt, s_NXT_nx, s_NXT_ex, s_NXT_rt, e_lenV_sl, e_lenV_nils, get_pk, k_bind, true_and, and_true, if_true, if_false, Bool.true_eq, beq_self_eq_true, reduceIte, Bool.false_eq_true, reduceCtorEq, bne_self_eq_false, Nat.reduceAdd, Nat.reduceLeDiff, Nat.reduceEqDiff, Nat.reduceSub, Nat.reduceBEq, Int.reduceBEq, Int.reduceNeg, Int.reduceLT, Int.reduceLE, Nat.succ_ne_self, Bool.not_true, Bool.not_false, Bool.true_beq, Bool.false_beq, decide_true, decide_false, exists_eq_left', Option.some.injEq, g2, g8, g9, g10, g11, g13, g14, gq, gr, d1, sq, ar, d2]
            exact ⟨q - 1, by omega, q - 1, r + n1, rfl, rfl, rfl, f3, by omega, f2, by omega⟩
        · have d1 : decide ((4294967296 : Int) ≤ (q : Int)) = false := by simp; omega
          have hqn : q * n0 < 18446744073709551616 := by
            have : q * n0 ≤ 4294967295 * 4294967295 := Nat.mul_le_mul (by omega) (by omega)
            omega
          have mq : q * n0 % 18446744073709551616 = q * n0 := Nat.mod_eq_of_lt hqn
          by_cases hc : 4294967296 * r + vh < q * n0
          · have d3 : decide (((4294967296 * r + vh : Nat) : Int) < ((q * n0 : Nat) : Int)) = true := lt_true hc
            obtain ⟨f1, f2, f3⟩ := next (.inr hc)
            have sq := sq f1
            by_cases hr : 4294967296 ≤ r + n1
            · have d2 : decide ((4294967296 : Int) ≤ ((r + n1 : Nat) : Int)) = true := by simp; omega
              have hQ : (u * 4294967296 + vh) / Y = q - 1 := Nat.le_antisymm f2 (by rw [hYe]; exact dq_exit (by omega) hn0b f3 (by omega) hr)
              simp only [b81_0, QU, oP, oR, oA, oH, oPn, oRn, oAn, oHn, bi, ld, ki, kt, kf, s_ops_nil, s_ops_cons, s_ops_nx, s_ops_pn, s_seq, s_seq_nx, s_seq_ex, s_seq_rt, s_skip, s_ret, s_exit, s_reg, s_cond, s_cond_t, s_cond_f, s_blk, s_blk_nx, s_blk_rt, s_blk_ex, s_put, s_P, s_R, s_A, s_A_some, s_C_ret, s_C_pan, s_H, s_H_ok, s_H_call, s_H_pan, s_gd, s_gd_bool, s_gd_undef, e_t, e_k, e_mv, e_pick, e_pick_b, e_bin, e_add_i64, e_add_i32, e_sub_i64, e_sub_u8, e_mul_i64, e_addU, e_mulU, e_addU32, e_mulU32, e_eql, e_neq, e_lss, e_leq, e_gtr, e_geq, e_str_eql, e_str_neq, e_iaddr, e_iaddr_int, e_lens, e_ld, e_extract, e_ex0, e_ex1, e_ex2, e_lenS, e_lenS_str, e_cii, e_cii_int, e_slsl_hm, e_sl2, e_slsl_h, e_sl1, e_slis, e_evL_nil, e_evL_cons, e_cons, e_call, e_callk, e_app, e_appk, e_store, e_stk, e_next, e_nextk, e_range, e_rangek, e_bs1, e_bs1i, e_bs0, e_mksl, e_mkslk, e_AK_sl, e_AK_it, e_AK_ptr, e_not, e_notb, e_xori, e_idxs, s_Hn, s_Hnk, s_Nx, s_Rt, s_NR_nx, s_NR_rt, s_NXT_nx, s_NXT_ex, s_NXT_rt, e_lenV_sl, e_lenV_nils, get_pk, k_bind, true_and, and_true, if_true, if_false, Bool.true_eq, beq_self_eq_true, reduceIte, Bool.false_eq_true, reduceCtorEq, bne_self_eq_false, Nat.reduceAdd, Nat.reduceLeDiff, Nat.reduceEqDiff, Nat.reduceSub, Nat.reduceBEq, Int.reduceBEq, Int.reduceNeg, Int.reduceLT, Int.reduceLE, Nat.succ_ne_self, Bool.not_true, Bool.not_false, Bool.true_beq, Bool.false_beq, decide_true, decide_false, exists_eq_left', Option.some.injEq, g2, g8, g9, g10, g11, g13, g14, gq, gr, d1, mq, e_mulB, md, md2, d3, sq, ar, d2, hQ]
            · have d2 : decide ((4294967296 : Int) ≤ ((r + n1 : Nat) : Int)) = false := by simp; omega
              simp only [b81_0, QU, oP, oR, oA, oH, oPn, oRn, oAn, oHn, bi, ld, ki, kt, kf, s_ops_nil, s_ops_cons, s_ops_nx, s_ops_pn, s_seq, s_seq_nx, s_seq_ex, s_seq_rt, s_skip, s_ret, s_exit, s_reg, s_cond, s_cond_t, s_cond_f, s_blk, s_blk_nx, s_blk_rt, s_blk_ex, s_put, s_P, s_R, s_A, s_A_some, s_C_ret, s_C_pan, s_H, s_H_ok, s_H_call, s_H_pan, s_gd, s_gd_bool, s_gd_undef, e_t, e_k, e_mv, e_pick, e_pick_b, e_bin, e_add_i64, e_add_i32, e_sub_i64, e_sub_u8, e_mul_i64, e_addU, e_mulU, e_addU32, e_mulU32, e_eql, e_neq, e_lss, e_leq, e_gtr, e_geq, e_str_eql, e_str_neq, e_iaddr, e_iaddr_int, e_lens, e_ld, e_extract, e_ex0, e_ex1, e_ex2, e_lenS, e_lenS_str, e_cii, e_cii_int, e_slsl_hm, e_sl2, e_slsl_h, e_sl1, e_slis, e_evL_nil, e_evL_cons, e_cons, e_call, e_callk, e_app, e_appk, e_store, e_stk, e_next, e_nextk, e_range, e_rangek, e_bs1, e_bs1i, e_bs0, e_mksl, e_mkslk, e_AK_sl, e_AK_it, e_AK_ptr, e_not, e_notb, e_xori, e_idxs, s_Hn, s_Hnk, s_Nx, s_Rt, s_NR_nx, s_NR_rt, s_NXT_nx, s_NXT_ex, s_NXT_rt, e_lenV_sl, e_lenV_nils, get_pk, k_bind, true_and, and_true, if_true, if_false, Bool.true_eq, beq_self_eq_true, reduceIte, Bool.false_eq_true, reduceCtorEq, bne_self_eq_false, Nat.reduceAdd, Nat.reduceLeDiff, Nat.reduceEqDiff, Nat.reduceSub, Nat.reduceBEq, Int.reduceBEq, Int.reduceNeg, Int.reduceLT, Int.reduceLE, Nat.succ_ne_self, Bool.not_true, Bool.not_false, Bool.true_beq, Bool.false_beq, decide_true, decide_false, exists_eq_left', Option.some.injEq, g2, g8, g9, g10, g11, g13, g14, gq, gr, d1, mq, e_mulB, md, md2, d3, sq, ar, d2]
              exact ⟨q - 1, by omega, q - 1, r + n1, rfl, rfl, rfl, f3, by omega, f2, by omega⟩
          · have d3 : decide (((4294967296 * r + vh : Nat) : Int) < ((q * n0 : Nat) : Int)) = false := lt_false hc
            have hQ : (u * 4294967296 + vh) / Y = q := Nat.le_antisymm e3 (by rw [hYe]; exact dq_le (by omega) e1 (by omega))
            simp only [b81_0, QU, oP, oR, oA, oH, oPn, oRn, oAn, oHn, bi, ld, ki, kt, kf, s_ops_nil, s_ops_cons, s_ops_nx, s_ops_pn, s_seq, s_seq_nx, s_seq_ex, s_seq_rt, s_skip, s_ret, s_exit, s_reg, s_cond, s_cond_t, s_cond_f, s_blk, s_blk_nx, s_blk_rt, s_blk_ex, s_put, s_P, s_R, s_A, s_A_some, s_C_ret, s_C_pan, s_H, s_H_ok, s_H_call, s_H_pan, s_gd, s_gd_bool, s_gd_undef, e_t, e_k, e_mv, e_pick, e_pick_b, e_bin, e_add_i64, e_add_i32, e_sub_i64, e_sub_u8, e_mul_i64, e_addU, e_mulU, e_addU32, e_mulU32, e_eql, e_neq, e_lss, e_leq, e_gtr, e_geq, e_str_eql, e_str_neq, e_iaddr, e_iaddr_int, e_lens, e_ld, e_extract, e_ex0, e_ex1, e_ex2, e_lenS, e_lenS_str, e_cii, e_cii_int, e_slsl_hm, e_sl2, e_slsl_h, e_sl1, e_slis, e_evL_nil, e_evL_cons, e_cons, e_call, e_callk, e_app, e_appk, e_store, e_stk, e_next, e_nextk, e_range, e_rangek, e_bs1, e_bs1i, e_bs0, e_mksl, e_mkslk, e_AK_sl, e_AK_it, e_AK_ptr, e_not, e_notb, e_xori, e_idxs, s_Hn, s_Hnk, s_Nx, s_Rt, s_NR_nx, s_NR_rt, s_NXT_nx, s_NXT_ex, s_NXT_rt, e_lenV_sl, e_lenV_nils, get_pk, k_bind, true_and, and_true, if_true, if_false, Bool.true_eq, beq_self_eq_true, reduceIte, Bool.false_eq_true, reduceCtorEq, bne_self_eq_false, Nat.reduceAdd, Nat.reduceLeDiff, Nat.reduceEqDiff, Nat.reduceSub, Nat.reduceBEq, Int.reduceBEq, Int.reduceNeg, Int.reduceLT, Int.reduceLE, Nat.succ_ne_self, Bool.not_true, Bool.not_false, Bool.true_beq, Bool.false_beq, decide_true, decide_false, exists_eq_left', Option.some.injEq, g2, g8, g9, g10, g11, g13, g14, gq, gr, d1, mq, e_mulB, md, md2, d3, hQ]
      · have := (dq_ge (l := vh) hn1a (by rw [← hYe]; exact huY) hn0b hu1b).2; omega
      · have h3 := dq_ge (l := vh) hn1a (by rw [← hYe]; exact huY) hn0b hu1b
        rw [← hYe] at h3
        have h4 := Nat.div_add_mod u n1
        have h5 := Nat.mod_lt u (show 0 < n1 by omega)
        simp only [QU, oP, oR, oA, oH, oPn, oRn, oAn, oHn, bi, ld, ki, kt, kf, s_ops_nil, s_ops_cons, s_ops_nx, s_ops_pn, s_seq, s_seq_nx, s_seq_ex, s_seq_rt, s_skip, s_ret, s_exit, s_reg, s_cond, s_cond_t, s_cond_f, s_blk, s_blk_nx, s_blk_rt, s_blk_ex, s_put, s_P, s_R, s_A, s_A_some, s_C_ret, s_C_pan, s_H, s_H_ok, s_H_call, s_H_pan, s_gd, s_gd_bool, s_gd_undef, e_t, e_k, e_mv, e_pick, e_pick_b, e_bin, e_add_i64, e_add_i32, e_sub_i64, e_sub_u8, e_mul_i64, e_addU, e_mulU, e_addU32, e_mulU32, e_eql, e_neq, e_lss, e_leq, e_gtr, e_geq, e_str_eql, e_str_neq, e_iaddr, e_iaddr_int, e_lens, e_ld, e_extract, e_ex0, e_ex1, e_ex2, e_lenS, e_lenS_str, e_cii, e_cii_int, e_slsl_hm, e_sl2, e_slsl_h, e_sl1, e_slis, e_evL_nil, e_evL_cons, e_cons, e_call, e_callk, e_app, e_appk, e_store, e_stk, e_next, e_nextk, e_range, e_rangek, e_bs1, e_bs1i, e_bs0, e_mksl, e_mkslk, e_AK_sl, e_AK_it, e_AK_ptr, e_not, e_notb, e_xori, e_idxs, s_Hn, s_Hnk, s_Nx, s_Rt, s_NR_nx, s_NR_rt, s_NXT_nx, s_NXT_ex, s_NXT_rt, e_lenV_sl, e_lenV_nils, get_pk, k_bind, true_and, and_true, if_true, if_false, Bool.true_eq, beq_self_eq_true, reduceIte, Bool.false_eq_true, reduceCtorEq, bne_self_eq_false, Nat.reduceAdd, Nat.reduceLeDiff, Nat.reduceEqDiff, Nat.reduceSub, Nat.reduceBEq, Int.reduceBEq, Int.reduceNeg, Int.reduceLT, Int.reduceLE, Nat.succ_ne_self, Bool.not_true, Bool.not_false, Bool.true_beq, Bool.false_beq, decide_true, decide_false, exists_eq_left', Option.some.injEq, h0, h1, h2]
        exact ⟨_, _, rfl, rfl, rfl, by rw [Nat.mul_comm]; exact h4, by omega, h3.1, h3.2⟩
      · rintro τ σ' ⟨hσ, g2, g8, g9, g10, g11, g13, g14, g15⟩
        rw [hσ]
        obtain ⟨w, hw⟩ : ∃ w, (u * 4294967296 + vh) % Y = w := ⟨_, rfl⟩
        rw [hw] at hfin
        have hwY : w < Y := by rw [← hw]; exact Nat.mod_lt _ (by omega)
        have hdm := Nat.div_add_mod (u * 4294967296 + vh) Y
        rw [hw] at hdm
        have s21 : ∀ Q, kBin .sub Q (some (.int .u64 ((u * 4294967296 % 18446744073709551616 + vh) % 18446744073709551616 : Nat))) (some (.int .u64 ((u * 4294967296 + vh) / Y * Y % 18446744073709551616 : Nat))) = some (.int .u64 (w : Nat)) := fun Q => e_subU Q (by
          rw [Nat.mul_comm Y] at hdm
          generalize (u * 4294967296 + vh) / Y * Y = z at *
          omega) (by omega)
        have q0e := fun Q => e_quoU Q w n1 (by omega) (by omega)
        have r0m : w / n1 * n1 % 18446744073709551616 = w / n1 * n1 := Nat.mod_eq_of_lt (by have := Nat.div_mul_le_self w n1; omega)
        have r0e : ∀ Q, kBin .sub Q (some (.int .u64 w)) (some (.int .u64 (w / n1 * n1 : Nat))) = some (.int .u64 (w % n1 : Nat)) := fun Q => e_subU Q (by have := Nat.div_add_mod w n1; rw [Nat.mul_comm] at this; congr 1; omega) (by have := Nat.mod_le w n1; omega)
        simp only [QU, oP, oR, oA, oH, oPn, oRn, oAn, oHn, bi, ld, ki, kt, kf, s_ops_nil, s_ops_cons, s_ops_nx, s_ops_pn, s_seq, s_seq_nx, s_seq_ex, s_seq_rt, s_skip, s_ret, s_exit, s_reg, s_cond, s_cond_t, s_cond_f, s_blk, s_blk_nx, s_blk_rt, s_blk_ex, s_put, s_P, s_R, s_A, s_A_some, s_C_ret, s_C_pan, s_H, s_H_ok, s_H_call, s_H_pan, s_gd, s_gd_bool, s_gd_undef, e_t, e_k, e_mv, e_pick, e_pick_b, e_bin, e_add_i64, e_add_i32, e_sub_i64, e_sub_u8, e_mul_i64, e_addU, e_mulU, e_addU32, e_mulU32, e_eql, e_neq, e_lss, e_leq, e_gtr, e_geq, e_str_eql, e_str_neq, e_iaddr, e_iaddr_int, e_lens, e_ld, e_extract, e_ex0, e_ex1, e_ex2, e_lenS, e_lenS_str, e_cii, e_cii_int, e_slsl_hm, e_sl2, e_slsl_h, e_sl1, e_slis, e_evL_nil, e_evL_cons, e_cons, e_call, e_callk, e_app, e_appk, e_store, e_stk, e_next, e_nextk, e_range, e_rangek, e_bs1, e_bs1i, e_bs0, e_mksl, e_mkslk, e_AK_sl, e_AK_it, e_AK_ptr, e_not, e_notb, e_xori, e_idxs, s_Hn, s_Hnk, s_Nx, s_Rt, s_NR_nx, s_NR_rt, s_NXT_nx, s_NXT_ex, s_NXT_rt, e_lenV_sl, e_lenV_nils, get_pk, k_bind, true_and, and_true, if_true, if_false, Bool.true_eq, beq_self_eq_true, reduceIte, Bool.false_eq_true, reduceCtorEq, bne_self_eq_false, Nat.reduceAdd, Nat.reduceLeDiff, Nat.reduceEqDiff, Nat.reduceSub, Nat.reduceBEq, Int.reduceBEq, Int.reduceNeg, Int.reduceLT, Int.reduceLE, Nat.succ_ne_self, Bool.not_true, Bool.not_false, Bool.true_beq, Bool.false_beq, decide_true, decide_false, exists_eq_left', Option.some.injEq, g2, g8, g9, g10, g11, g13, g14, g15, e_mulBr, s21, q0e, r0m, r0e]
        refine Rt_seq (loop_rule_x
          (fun k τ σ' => ∃ q r, k = q ∧ σ' = σ ∧ τ.get (pk 2) = some (.int .u64 Y) ∧ τ.get (pk 8) = some (.int .u64 s) ∧ τ.get (pk 9) = some (.int .u64 n1) ∧ τ.get (pk 10) = some (.int .u64 n0) ∧ τ.get (pk 14) = some (.int .u64 vl) ∧ τ.get (pk 15) = some (.int .u64 ((u * 4294967296 + vh) / Y : Nat)) ∧ τ.get (pk 17) = some (.int .u64 w) ∧ τ.get (pk 18) = some (.int .u64 (q : Nat)) ∧ τ.get (pk 16) = some (.int .u64 (r : Nat)) ∧ q * n1 + r = w ∧ r < 4294967296 ∧ (w * 4294967296 + vl) / Y ≤ q ∧ q ≤ 4294967297)
          (fun τ σ' => σ' = σ ∧ τ.get (pk 2) = some (.int .u64 Y) ∧ τ.get (pk 8) = some (.int .u64 s) ∧ τ.get (pk 9) = some (.int .u64 n1) ∧ τ.get (pk 10) = some (.int .u64 n0) ∧ τ.get (pk 14) = some (.int .u64 vl) ∧ τ.get (pk 15) = some (.int .u64 ((u * 4294967296 + vh) / Y : Nat)) ∧ τ.get (pk 17) = some (.int .u64 w) ∧ τ.get (pk 18) = some (.int .u64 ((w * 4294967296 + vl) / Y : Nat)))
          ?_ (k := w / n1) ?_ ?_) ?_
        · rintro q τ σ' ⟨_, r, rfl, hσ, g2, g8, g9, g10, g14, g15, g17, gq, gr, e1, e2, e3, e4⟩
          subst hσ
          have sq : 1 ≤ q → ∀ Q, kBin .sub Q (some (.int .u64 q)) (some (.int .u64 1)) = some (.int .u64 (q - 1 : Nat)) := fun h Q => e_subU Q (y := 1) (by rw [Nat.sub_add_cancel h]) (by omega)
          have ar : (r + n1) % 18446744073709551616 = r + n1 := Nat.mod_eq_of_lt (by omega)
          have md : 4294967296 * r % 18446744073709551616 = 4294967296 * r := Nat.mod_eq_of_lt (by omega)
          have md2 : (4294967296 * r + vl) % 18446744073709551616 = 4294967296 * r + vl := Nat.mod_eq_of_lt (by omega)
          have next : (4294967296 ≤ q ∨ 4294967296 * r + vl < q * n0) → 1 ≤ q ∧ (w * 4294967296 + vl) / Y ≤ q - 1 ∧ (q - 1) * n1 + (r + n1) = w := fun hc => by
            rw [hYe] at e3 ⊢
            exact dq_step e1 (by rw [← hYe]; exact hwY) hu0b e3 hc
          by_cases hq : 4294967296 ≤ q
          · have d1 : decide ((4294967296 : Int) ≤ (q : Int)) = true := by simp; omega
            obtain ⟨f1, f2, f3⟩ := next (.inl hq)
            have sq := sq f1
            by_cases hr : 4294967296 ≤ r + n1
            · have d2 : decide ((4294967296 : Int) ≤ ((r + n1 : Nat) : Int)) = true := by simp; omega
              have hQ : (w * 4294967296 + vl) / Y = q - 1 := Nat.le_antisymm f2 (by rw [hYe]; exact dq_exit (by omega) hn0b f3 (by omega) hr)
              simp only [b81_1, QU, oP, oR, oA, oH, oPn, oRn, oAn, oHn, bi, ld, ki, kt, kf, s_ops_nil, s_ops_cons, s_ops_nx, s_ops_pn, s_seq, s_seq_nx, s_seq_ex, s_seq_rt, s_skip, s_ret, s_exit, s_reg, s_cond, s_cond_t, s_cond_f, s_blk, s_blk_nx, s_blk_rt, s_blk_ex, s_put, s_P, s_R, s_A, s_A_some, s_C_ret, s_C_pan, s_H, s_H_ok, s_H_call, s_H_pan, s_gd, s_gd_bool, s_gd_undef, e_t, e_k, e_mv, e_pick, e_pick_b, e_bin, e_add_i64, e_add_i32, e_sub_i64, e_sub_u8, e_mul_i64, e_addU, e_mulU, e_addU32, e_mulU32, e_eql, e_neq, e_lss, e_leq, e_gtr, e_geq, e_str_eql, e_str_neq, e_iaddr, e_iaddr_int, e_lens, e_ld, e_extract, e_ex0, e_ex1, e_ex2, e_lenS, e_lenS_str, e_cii, e_cii_int, e_slsl_hm, e_sl2, e_slsl_h, e_sl1, e_slis, e_evL_nil, e_evL_cons, e_cons, e_call, e_callk, e_app, e_appk, e_store, e_stk, e_next, e_nextk, e_range, e_rangek, e_bs1, e_bs1i, e_bs0, e_mksl, e_mkslk, e_AK_sl, e_AK_it, e_AK_ptr, e_not, e_notb, e_xori, e_idxs, s_Hn, s_Hnk, s_Nx, s_Rt, s_NR_nx, s_NR_rt, s_NXT_nx, s_NXT_ex, s_NXT_rt, e_lenV_sl, e_lenV_nils, get_pk, k_bind, true_and, and_true, if_true, if_false, Bool.true_eq, beq_self_eq_true, reduceIte, Bool.false_eq_true, reduceCtorEq, bne_self_eq_false, Nat.reduceAdd, Nat.reduceLeDiff, Nat.reduceEqDiff, Nat.reduceSub, Nat.reduceBEq, Int.reduceBEq, Int.reduceNeg, Int.reduceLT, Int.reduceLE, Nat.succ_ne_self, Bool.not_true, Bool.not_false, Bool.true_beq, Bool.false_beq, decide_true, decide_false, exists_eq_left', Option.some.injEq, g2, g8, g9, g10, g14, g15, g17, gq, gr, d1, sq, ar, d2, hQ]
            · have d2 : decide ((4294967296 : Int) ≤ ((r + n1 : Nat) : Int)) = false := by simp; omega
              simp only [b81_1, QU, oP, oR, oA, oH, oPn, oRn, oAn, oHn, bi, ld, ki, kt, kf, s_ops_nil, s_ops_cons, s_ops_nx, s_ops_pn, s_seq, s_seq_nx, s_seq_ex, s_seq_rt, s_skip, s_ret, s_exit, s_reg, s_cond, s_cond_t, s_cond_f, s_blk, s_blk_nx, s_blk_rt, s_blk_ex, s_put, s_P, s_R, s_A, s_A_some, s_C_ret, s_C_pan, s_H, s_H_ok, s_H_call, s_H_pan, s_gd, s_gd_bool, s_gd_undef, e_t, e_k, e_mv, e_pick, e_pick_b, e_bin, e_add_i64, e_add_i32, e_sub_i64, e_sub_u8, e_mul_i64, e_addU, e_mulU, e_addU32, e_mulU32, e_eql, e_neq, e_lss, e_leq, e_gtr, e_geq, e_str_eql, e_str_neq, e_iaddr, e_iaddr_int, e_lens, e_ld, e_extract, e_ex0, e_ex1, e_ex2, e_lenS, e_lenS_str, e_cii, e_cii_int, e_slsl_hm, e_sl2, e_slsl_h, e_sl1, e_slis, e_evL_nil, e_evL_cons, e_cons, e_call, e_callk, e_app, e_appk, e_store, e_stk, e_next, e_nextk, e_range, e_rangek, e_bs1, e_bs1i, e_bs0, e_mksl, e_mkslk, e_AK_sl, e_AK_it, e_AK_ptr, e_not, e_notb, e_xori, e_idxs, s_Hn, s_Hnk, s_Nx, s_Rt, s_NR_nx, s_NR_rt, s_NXT_nx, s_NXT_ex, s_NXT_rt, e_lenV_sl, e_lenV_nils, get_pk, k_bind, true_and, and_true, if_true, if_false, Bool.true_eq, beq_self_eq_true, reduceIte, Bool.false_eq_true, reduceCtorEq, bne_self_eq_false, Nat.reduceAdd, Nat.reduceLeDiff, Nat.reduceEqDiff, Nat.reduceSub, Nat.reduceBEq, Int.reduceBEq, Int.reduceNeg, Int.reduceLT, Int.reduceLE, Nat.succ_ne_self, Bool.not_true, Bool.not_false, Bool.true_beq, Bool.false_beq, decide_true, decide_false, exists_eq_left', Option.some.injEq, g2, g8, g9, g10, g14, g15, g17, gq, gr, d1, sq, ar, d2]
              exact ⟨q - 1, by omega, q - 1, r + n1, rfl, rfl, rfl, f3, by omega, f2, by omega⟩
          · have d1 : decide ((4294967296 : Int) ≤ (q : Int)) = false := by simp; omega
            have hqn : q * n0 < 18446744073709551616 := by
              have : q * n0 ≤ 4294967295 * 4294967295 := Nat.mul_le_mul (by omega) (by omega)
              omega
            have mq : q * n0 % 18446744073709551616 = q * n0 := Nat.mod_eq_of_lt hqn
            by_cases hc : 4294967296 * r + vl < q * n0
            · have d3 : decide (((4294967296 * r + vl : Nat) : Int) < ((q * n0 : Nat) : Int)) = true := lt_true hc
              obtain ⟨f1, f2, f3⟩ := next (.inr hc)
              have sq := sq f1
              by_cases hr : 4294967296 ≤ r + n1
              · have d2 : decide ((4294967296 : Int) ≤ ((r + n1 : Nat) : Int)) = true := by simp; omega
                have hQ : (w * 4294967296 + vl) / Y = q - 1 := Nat.le_antisymm f2 (by rw [hYe]; exact dq_exit (by omega) hn0b f3 (by omega) hr)
                simp only [b81_1, QU, oP, oR, oA, oH, oPn, oRn, oAn, oHn, bi, ld, ki, kt, kf, s_ops_nil, s_ops_cons, s_ops_nx, s_ops_pn, s_seq, s_seq_nx, s_seq_ex, s_seq_rt, s_skip, s_ret, s_exit, s_reg, s_cond, s_cond_t, s_cond_f, s_blk, s_blk_nx, s_blk_rt, s_blk_ex, s_put, s_P, s_R, s_A, s_A_some, s_C_ret, s_C_pan, s_H, s_H_ok, s_H_call, s_H_pan, s_gd, s_gd_bool, s_gd_undef, e_t, e_k, e_mv, e_pick, e_pick_b, e_bin, e_add_i64, e_add_i32, e_sub_i64, e_sub_u8, e_mul_i64, e_addU, e_mulU, e_addU32, e_mulU32, e_eql, e_neq, e_lss, e_leq, e_gtr, e_geq, e_str_eql, e_str_neq, e_iaddr, e_iaddr_int, e_lens, e_ld, e_extract, e_ex0, e_ex1, e_ex2, e_lenS, e_lenS_str, e_cii, e_cii_int, e_slsl_hm, e_sl2, e_slsl_h, e_sl1, e_slis, e_evL_nil, e_evL_cons, e_cons, e_call, e_callk, e_app, e_appk, e_store, e_stk, e_next, e_nextk, e_range, e_rangek, e_bs1, e_bs1i, e_bs0, e_mksl, e_mkslk, e_AK_sl, e_AK_it, e_AK_ptr, e_not, e_notb, e_xori, e_idxs, s_Hn, s_Hnk, s_Nx, s_Rt, s_NR_nx, s_NR_rt, s_NXT_nx, s_NXT_ex, s_NXT_rt, e_lenV_sl, e_lenV_nils, get_pk, k_bind, true_and, and_true, if_true, if_false, Bool.true_eq, beq_self_eq_true, reduceIte, Bool.false_eq_true, reduceCtorEq, bne_self_eq_false, Nat.reduceAdd, Nat.reduceLeDiff, Nat.reduceEqDiff, Nat.reduceSub, Nat.reduceBEq, Int.reduceBEq, Int.reduceNeg, Int.reduceLT, Int.reduceLE, Nat.succ_ne_self, Bool.not_true, Bool.not_false, Bool.true_beq, Bool.false_beq, decide_true, decide_false, exists_eq_left', Option.some.injEq, g2, g8, g9, g10, g14, g15, g17, gq, gr, d1, mq, e_mulB, md, md2, d3, sq, ar, d2, hQ]
              · have d2 : decide ((4294967296 : Int) ≤ ((r + n1 : Nat) : Int)) = false := by simp; omega
                simp only [b81_1, QU, oP, oR, oA, oH, oPn, oRn, oAn, oHn, bi, ld, ki, kt, kf, s_ops_nil, s_ops_cons, s_ops_nx, s_ops_pn, s_seq, s_seq_nx, s_seq_ex, s_seq_rt, s_skip, s_ret, s_exit, s_reg, s_cond, s_cond_t, s_cond_f, s_blk, s_blk_nx, s_blk_rt, s_blk_ex, s_put, s_P, s_R, s_A, s_A_some, s_C_ret, s_C_pan, s_H, s_H_ok, s_H_call, s_H_pan, s_gd, s_gd_bool, s_gd_undef, e_t, e_k, e_mv, e_pick, e_pick_b, e_bin, e_add_i64, e_add_i32, e_sub_i64, e_sub_u8, e_mul_i64, e_addU, e_mulU, e_addU32, e_mulU32, e_eql, e_neq, e_lss, e_leq, e_gtr, e_geq, e_str_eql, e_str_neq, e_iaddr, e_iaddr_int, e_lens, e_ld, e_extract, e_ex0, e_ex1, e_ex2, e_lenS, e_lenS_str, e_cii, e_cii_int, e_slsl_hm, e_sl2, e_slsl_h, e_sl1, e_slis, e_evL_nil, e_evL_cons, e_cons, e_call, e_callk, e_app, e_appk, e_store, e_stk, e_next, e_nextk, e_range, e_rangek, e_bs1, e_bs1i, e_bs0, e_mksl, e_mkslk, e_AK_sl, e_AK_it, e_AK_ptr, e_not, e_notb, e_xori, e_idxs, s_Hn, s_Hnk, s_Nx, s_Rt, s_NR_nx, s_NR_rt, s_NXT_nx, s_NXT_ex, s_NXT_rt, e_lenV_sl, e_lenV_nils, get_pk, k_bind, true_and, and_true, if_true, if_false, Bool.true_eq, beq_self_eq_true, reduceIte, Bool.false_eq_true, reduceCtorEq, bne_self_eq_false, Nat.reduceAdd, Nat.reduceLeDiff, Nat.reduceEqDiff, Nat.reduceSub, Nat.reduceBEq, Int.reduceBEq, Int.reduceNeg, Int.reduceLT, Int.reduceLE, Nat.succ_ne_self, Bool.not_true, Bool.not_false, Bool.true_beq, Bool.false_beq, decide_true, decide_false, exists_eq_left', Option.some.injEq, g2, g8, g9, g10, g14, g15, g17, gq, gr, d1, mq, e_mulB, md, md2, d3, sq, ar, d2]
                exact ⟨q - 1, by omega, q - 1, r + n1, rfl, rfl, rfl, f3, by omega, f2, by omega⟩
            · have d3 : decide (((4294967296 * r + vl : Nat) : Int) < ((q * n0 : Nat) : Int)) = false := lt_false hc
              have hQ : (w * 4294967296 + vl) / Y = q := Nat.le_antisymm e3 (by rw [hYe]; exact dq_le (by omega) e1 (by omega))
              simp only [b81_1, QU, oP, oR, oA, oH, oPn, oRn, oAn, oHn, bi, ld, ki, kt, kf, s_ops_nil, s_ops_cons, s_ops_nx, s_ops_pn, s_seq, s_seq_nx, s_seq_ex, s_seq_rt, s_skip, s_ret, s_exit, s_reg, s_cond, s_cond_t, s_cond_f, s_blk, s_blk_nx, s_blk_rt, s_blk_ex, s_put, s_P, s_R, s_A, s_A_some, s_C_ret, s_C_pan, s_H, s_H_ok, s_H_call, s_H_pan, s_gd, s_gd_bool, s_gd_undef, e_t, e_k, e_mv, e_pick, e_pick_b, e_bin, e_add_i64, e_add_i32, e_sub_i64, e_sub_u8, e_mul_i64, e_addU, e_mulU, e_addU32, e_mulU32, e_eql, e_neq, e_lss, e_leq, e_gtr, e_geq, e_str_eql, e_str_neq, e_iaddr, e_iaddr_int, e_lens, e_ld, e_extract, e_ex0, e_ex1, e_ex2, e_lenS, e_lenS_str, e_cii, e_cii_int, e_slsl_hm, e_sl2, e_slsl_h, e_sl1, e_slis, e_evL_nil, e_evL_cons, e_cons, e_call, e_callk, e_app, e_appk, e_store, e_stk, e_next, e_nextk, e_range, e_rangek, e_bs1, e_bs1i, e_bs0, e_mksl, e_mkslk, e_AK_sl, e_AK_it, e_AK_ptr, e_not, e_notb, e_xori, e_idxs, s_Hn, s_Hnk, s_Nx, s_Rt, s_NR_nx, s_NR_rt, s_NXT_nx, s_NXT_ex, s_NXT_rt, e_lenV_sl, e_lenV_nils, get_pk, k_bind, true_and, and_true, if_true, if_false, Bool.true_eq, beq_self_eq_true, reduceIte, Bool.false_eq_true, reduceCtorEq, bne_self_eq_false, Nat.reduceAdd, Nat.reduceLeDiff, Nat.reduceEqDiff, Nat.reduceSub, Nat.reduceBEq, Int.reduceBEq, Int.reduceNeg, Int.reduceLT, Int.reduceLE, Nat.succ_ne_self, Bool.not_true, Bool.not_false, Bool.true_beq, Bool.false_beq, decide_true, decide_false, exists_eq_left', Option.some.injEq, g2, g8, g9, g10, g14, g15, g17, gq, gr, d1, mq, e_mulB, md, md2, d3, hQ]
        · have := (dq_ge (l := vl) hn1a (by rw [← hYe]; exact hwY) hn0b hu0b).2; omega
        · have h3 := dq_ge (l := vl) hn1a (by rw [← hYe]; exact hwY) hn0b hu0b
          rw [← hYe] at h3
          have h4 := Nat.div_add_mod w n1
          have h5 := Nat.mod_lt w (show 0 < n1 by omega)
          simp only [QU, oP, oR, oA, oH, oPn, oRn, oAn, oHn, bi, ld, ki, kt, kf, s_ops_nil, s_ops_cons, s_ops_nx, s_ops_pn, s_seq, s_seq_nx, s_seq_ex, s_seq_rt, s_skip, s_ret, s_exit, s_reg, s_cond, s_cond_t, s_cond_f, s_blk, s_blk_nx, s_blk_rt, s_blk_ex, s_put, s_P, s_R, s_A, s_A_some, s_C_ret, s_C_pan, s_H, s_H_ok, s_H_call, s_H_pan, s_gd, s_gd_bool, s_gd_undef, e_t, e_k, e_mv, e_pick, e_pick_b, e_bin, e_add_i64, e_add_i32, e_sub_i64, e_sub_u8, e_mul_i64, e_addU, e_mulU, e_addU32, e_mulU32, e_eql, e_neq, e_lss, e_leq, e_gtr, e_geq, e_str_eql, e_str_neq, e_iaddr, e_iaddr_int, e_lens, e_ld, e_extract, e_ex0, e_ex1, e_ex2, e_lenS, e_lenS_str, e_cii, e_cii_int, e_slsl_hm, e_sl2, e_slsl_h, e_sl1, e_slis, e_evL_nil, e_evL_cons, e_cons, e_call, e_callk, e_app, e_appk, e_store, e_stk, e_next, e_nextk, e_range, e_rangek, e_bs1, e_bs1i, e_bs0, e_mksl, e_mkslk, e_AK_sl, e_AK_it, e_AK_ptr, e_not, e_notb, e_xori, e_idxs, s_Hn, s_Hnk, s_Nx, s_Rt, s_NR_nx, s_NR_rt, s_NXT_nx, s_NXT_ex, s_NXT_rt, e_lenV_sl, e_lenV_nils, get_pk, k_bind, true_and, and_true, if_true, if_false, Bool.true_eq, beq_self_eq_true, reduceIte, Bool.false_eq_true, reduceCtorEq, bne_self_eq_false, Nat.reduceAdd, Nat.reduceLeDiff, Nat.reduceEqDiff, Nat.reduceSub, Nat.reduceBEq, Int.reduceBEq, Int.reduceNeg, Int.reduceLT, Int.reduceLE, Nat.succ_ne_self, Bool.not_true, Bool.not_false, Bool.true_beq, Bool.false_beq, decide_true, decide_false, exists_eq_left', Option.some.injEq, g2, g8, g9, g10, g11, g13, g14, g15]
          exact ⟨_, _, rfl, rfl, rfl, by rw [Nat.mul_comm]; exact h4, by omega, h3.1, h3.2⟩
        · rintro τ σ' ⟨hσ, g2, g8, g9, g10, g14, g15, g17⟩
          rw [hσ]
          have hq1 := dq_lt huY hu1b
          have hq0 := dq_lt hwY hu0b
          have hdm0 := Nat.div_add_mod (w * 4294967296 + vl) Y
          have hr0 := Nat.mod_lt (w * 4294967296 + vl) (show 0 < Y by omega)
          have f1 := dv_join hq1 hq0
          have s0 : ∀ Q, kBin .sub Q (some (.int .u64 ((w * 4294967296 % 18446744073709551616 + vl) % 18446744073709551616 : Nat))) (some (.int .u64 ((w * 4294967296 + vl) / Y * Y % 18446744073709551616 : Nat))) = some (.int .u64 ((w * 4294967296 + vl) % Y : Nat)) := fun Q => e_subU Q (dv_sub (by rw [Nat.mul_comm]; exact hdm0)) (by omega)
          have shf : ∀ Q k (z : Nat), kBin .shr Q (some (.int .u64 z)) (some (.int k s)) = some (.int .u64 (z / 2 ^ s : Nat)) := fun Q k z => e_shrV Q k z s (by omega)
          simp only [QU, oP, oR, oA, oH, oPn, oRn, oAn, oHn, bi, ld, ki, kt, kf, s_ops_nil, s_ops_cons, s_ops_nx, s_ops_pn, s_seq, s_seq_nx, s_seq_ex, s_seq_rt, s_skip, s_ret, s_exit, s_reg, s_cond, s_cond_t, s_cond_f, s_blk, s_blk_nx, s_blk_rt, s_blk_ex, s_put, s_P, s_R, s_A, s_A_some, s_C_ret, s_C_pan, s_H, s_H_ok, s_H_call, s_H_pan, s_gd, s_gd_bool, s_gd_undef, e_t, e_k, e_mv, e_pick, e_pick_b, e_bin, e_add_i64, e_add_i32, e_sub_i64, e_sub_u8, e_mul_i64, e_addU, e_mulU, e_addU32, e_mulU32, e_eql, e_neq, e_lss, e_leq, e_gtr, e_geq, e_str_eql, e_str_neq, e_iaddr, e_iaddr_int, e_lens, e_ld, e_extract, e_ex0, e_ex1, e_ex2, e_lenS, e_lenS_str, e_cii, e_cii_int, e_slsl_hm, e_sl2, e_slsl_h, e_sl1, e_slis, e_evL_nil, e_evL_cons, e_cons, e_call, e_callk, e_app, e_appk, e_store, e_stk, e_next, e_nextk, e_range, e_rangek, e_bs1, e_bs1i, e_bs0, e_mksl, e_mkslk, e_AK_sl, e_AK_it, e_AK_ptr, e_not, e_notb, e_xori, e_idxs, s_Hn, s_Hnk, s_Nx, s_Rt, s_NR_nx, s_NR_rt, s_NXT_nx, s_NXT_ex, s_NXT_rt, e_lenV_sl, e_lenV_nils, get_pk, k_bind, true_and, and_true, if_true, if_false, Bool.true_eq, beq_self_eq_true, reduceIte, Bool.false_eq_true, reduceCtorEq, bne_self_eq_false, Nat.reduceAdd, Nat.reduceLeDiff, Nat.reduceEqDiff, Nat.reduceSub, Nat.reduceBEq, Int.reduceBEq, Int.reduceNeg, Int.reduceLT, Int.reduceLE, Nat.succ_ne_self, Bool.not_true, Bool.not_false, Bool.true_beq, Bool.false_beq, decide_true, decide_false, exists_eq_left', Option.some.injEq, g2, g8, g9, g10, g14, g15, g17, e_mulBr, s0, f1, shf]
          exact ⟨_, _, rfl, rfl, by rw [hfin.1], by rw [hfin.2]⟩
  obtain ⟨v, u, _, h1, rfl, rfl, rfl⟩ := key
  exact h1
/-- .. by 2^32 -/
theorem div64_32 {lf m : Nat} {σ : H} {h l : Nat} (hy : h < 4294967296) (hl : l < WW) (hlf : 35184372088832 < lf) :
    call T1 lf (m + 3) 81 [.int .u64 h, .int .u64 l, .int .u64 (4294967296 : Nat)] σ = .ret (.tup [.int .u64 ((h * WW + l) / 4294967296 : Nat), .int .u64 ((h * WW + l) % 4294967296 : Nat)]) σ :=
  div64_call (s := 31) hy (by decide) hl (by decide) (by decide) (by decide) (by decide) hlf
/-- .. by 10^19 -/
theorem div64_10 {lf m : Nat} {σ : H} {h l : Nat} (hy : h < 10000000000000000000) (hl : l < WW) (hlf : 35184372088832 < lf) :
    call T1 lf (m + 3) 81 [.int .u64 h, .int .u64 l, .int .u64 (10000000000000000000 : Nat)] σ = .ret (.tup [.int .u64 ((h * WW + l) / 10000000000000000000 : Nat), .int .u64 ((h * WW + l) % 10000000000000000000 : Nat)]) σ :=
  div64_call (s := 0) hy (by decide) hl (by decide) (by decide) (by decide) (by decide) hlf
end Go.Proofs.YtahgfodccndcjaaGreatEng
