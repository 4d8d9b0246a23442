/- Layer 1: rules and Same, apart from the reference's Parse. -/
/- math/bits.Len64 run on symbols. (Layer 1.) -/
/- math/bits.Div64 run on symbols. (Layer 1.) -/
/- Layer 1 run on symbols: a number by one word, from the top; digits, plainly. -/
/- Layer 1 run on symbols: Reverse; rows of bytes that grow. -/
import Derived.Test.YtplaefbblpiehaaSym3
namespace Go.Proofs.YtplaefbblpiehaaEng
open Go
set_option maxRecDepth 100000
set_option linter.unusedSimpArgs false

theorem e_orU (q : EqT) (x y : Nat) (hx : x < 18446744073709551616) (hy : y < 18446744073709551616) : kBin .or q (some (.int .u64 x)) (some (.int .u64 y)) = some (.int .u64 (x ||| y : Nat)) := by
  rw [e_int _ _ _ _ _ rfl]
  simp only [ibin]
  congr 2
  have hxy : x ||| y < 18446744073709551616 := Nat.or_lt_two_pow (n := 64) hx hy
  have e : (BitVec.ofInt IntKind.u64.bits (x : Int) ||| BitVec.ofInt IntKind.u64.bits (y : Int)).toNat = x ||| y := by
    simp only [BitVec.toNat_or]
    have h1 : ∀ n : Nat, n < 18446744073709551616 → (BitVec.ofInt IntKind.u64.bits (n : Int)).toNat = n := by
      intro n hn
      simp [IntKind.bits]; omega
    rw [h1 x hx, h1 y hy]
  rw [e, wrapU, Nat.mod_eq_of_lt hxy]

theorem e_ixk (k : IntKind) {s : List Nat} {i : Nat} (h : i < s.length) : kIx (some (.str s)) (some (.int k (i : Nat))) = some (.int .u8 (s.getD i 0 : Nat)) := by
  simp only [kIx]
  rw [if_pos (Int.natCast_nonneg i)]
  simp [h, List.getElem?_eq_getElem h]
theorem c7_at : T1.code 7 = some c7 := by kernel_rfl
/-- Same, of the same -/
theorem same_call {lf m : Nat} {σ : H} {a b : V} {A : List Nat} (ha : U σ a A) (hb : U σ b A) (hlf : A.length < lf) (hl : A.length < 4611686018427387904) :
    call T1 lf (m + 1) 7 [a, b] σ = .ret (.bool true) σ := by
  have key : ∃ v σ', call T1 lf (m + 1) 7 [a, b] σ = .ret v σ' ∧ (v = .bool true ∧ σ' = σ) := by
    refine call_rt1 (p := pk 4) rfl c7_at (by simp [c7]) rfl fun cf hcf => ?_
    clear hcf
    generalize hτ : bindArgs [a, b] .h .lf = τ0
    have h0 : τ0.get (pk 0) = some a := by rw [← hτ]; rfl
    have h1 : τ0.get (pk 1) = some b := by rw [← hτ]; rfl
    clear hτ
    have e0 : ((A.length : Int) != (A.length : Int)) = false := by simp
    simp only [c7, QU, oP, oR, oA, oH, oPn, oRn, oAn, oHn, bi, ld, ki, kt, kf, s_ops_nil, s_ops_cons, s_ops_nx, s_ops_pn, s_seq, s_seq_nx, s_seq_ex, s_seq_rt, s_skip, s_ret, s_exit, s_reg, s_cond, s_cond_t, s_cond_f, s_blk, s_blk_nx, s_blk_rt, s_blk_ex, s_put, s_P, s_R, s_A, s_A_some, s_C_ret, s_C_pan, s_H, s_H_ok, s_H_call, s_H_pan, s_gd, s_gd_bool, s_gd_undef, e_t, e_k, e_mv, e_pick, e_pick_b, e_bin, e_add_i64, e_add_i32, e_sub_i64, e_sub_u8, e_mul_i64, e_addU, e_mulU, e_addU32, e_mulU32, e_eql, e_neq, e_lss, e_leq, e_gtr, e_geq, e_str_eql, e_str_neq, e_iaddr, e_iaddr_int, e_lens, e_ld, e_extract, e_ex0, e_ex1, e_ex2, e_lenS, e_lenS_str, e_cii, e_cii_int, e_slsl_hm, e_sl2, e_slsl_h, e_sl1, e_slis, e_evL_nil, e_evL_cons, e_cons, e_call, e_callk, e_app, e_appk, e_store, e_stk, e_next, e_nextk, e_range, e_rangek, e_bs1, e_bs1i, e_bs0, e_mksl, e_mkslk, e_AK_sl, e_AK_it, e_AK_ptr, e_not, e_notb, e_xori, e_idxs, s_Hn, s_Hnk, s_Nx, s_Rt, s_NR_nx, s_NR_rt, s_NXT_nx, s_NXT_ex, s_NXT_rt, e_lenV_sl, e_lenV_nils, get_pk, k_bind, true_and, and_true, if_true, if_false, Bool.true_eq, beq_self_eq_true, reduceIte, Bool.false_eq_true, reduceCtorEq, bne_self_eq_false, Nat.reduceAdd, Nat.reduceLeDiff, Nat.reduceEqDiff, Nat.reduceSub, Nat.reduceBEq, Int.reduceBEq, Int.reduceNeg, Int.reduceLT, Int.reduceLE, Nat.succ_ne_self, Bool.not_true, Bool.not_false, Bool.true_beq, Bool.false_beq, decide_true, decide_false, exists_eq_left', Option.some.injEq, h0, h1, ha.len, hb.len, e0]
    refine Rt_seq (loop_rule_x (fun k τ σ' => ∃ i, i ≤ A.length ∧ k = A.length - i ∧ σ' = σ ∧ τ.get (pk 0) = some a ∧ τ.get (pk 1) = some b ∧ τ.get (pk 5) = some (.int .i64 i))
      (fun τ σ' => σ' = σ) ?_ (k := A.length) hlf ?_) ?_
    · rintro k τ σ' ⟨i, hi, rfl, hσ, g0, g1, g5⟩
      subst hσ
      by_cases hlt : i < A.length
      · have d1 := lt_true hlt
        obtain ⟨q, q1, q2⟩ := ha.elem hlt
        obtain ⟨r, r1, r2⟩ := hb.elem hlt
        have wi : IntKind.i64.wrap ((i : Int) + 1) = ((i + 1 : Nat) : Int) := wrap_add1 (by omega)
        have e1 : (((A.getD i 0 : Nat) : Int) != ((A.getD i 0 : Nat) : Int)) = false := by simp
        simp only [b7_0, QU, oP, oR, oA, oH, oPn, oRn, oAn, oHn, bi, ld, ki, kt, kf, s_ops_nil, s_ops_cons, s_ops_nx, s_ops_pn, s_seq, s_seq_nx, s_seq_ex, s_seq_rt, s_skip, s_ret, s_exit, s_reg, s_cond, s_cond_t, s_cond_f, s_blk, s_blk_nx, s_blk_rt, s_blk_ex, s_put, s_P, s_R, s_A, s_A_some, s_C_ret, s_C_pan, s_H, s_H_ok, s_H_call, s_H_pan, s_gd, s_gd_bool, s_gd_undef, e_t, e_k, e_mv, e_pick, e_pick_b, e_bin, e_add_i64, e_add_i32, e_sub_i64, e_sub_u8, e_mul_i64, e_addU, e_mulU, e_addU32, e_mulU32, e_eql, e_neq, e_lss, e_leq, e_gtr, e_geq, e_str_eql, e_str_neq, e_iaddr, e_iaddr_int, e_lens, e_ld, e_extract, e_ex0, e_ex1, e_ex2, e_lenS, e_lenS_str, e_cii, e_cii_int, e_slsl_hm, e_sl2, e_slsl_h, e_sl1, e_slis, e_evL_nil, e_evL_cons, e_cons, e_call, e_callk, e_app, e_appk, e_store, e_stk, e_next, e_nextk, e_range, e_rangek, e_bs1, e_bs1i, e_bs0, e_mksl, e_mkslk, e_AK_sl, e_AK_it, e_AK_ptr, e_not, e_notb, e_xori, e_idxs, s_Hn, s_Hnk, s_Nx, s_Rt, s_NR_nx, s_NR_rt, s_NXT_nx, s_NXT_ex, s_NXT_rt, e_lenV_sl, e_lenV_nils, get_pk, k_bind, true_and, and_true, if_true, if_false, Bool.true_eq, beq_self_eq_true, reduceIte, Bool.false_eq_true, reduceCtorEq, bne_self_eq_false, Nat.reduceAdd, Nat.reduceLeDiff, Nat.reduceEqDiff, Nat.reduceSub, Nat.reduceBEq, Int.reduceBEq, Int.reduceNeg, Int.reduceLT, Int.reduceLE, Nat.succ_ne_self, Bool.not_true, Bool.not_false, Bool.true_beq, Bool.false_beq, decide_true, decide_false, exists_eq_left', Option.some.injEq, w_drw, w_nil, w_0, w_3, w_0nx, w_1s, w_1nx, w_1lk, w_1ls, w_2, w_2nx, g0, g1, g5, ha.len, d1, q1, q2, r1, r2, wd, e1, wi, List.all_nil]
        exact ⟨A.length - (i + 1), by omega, i + 1, by omega, rfl, rfl⟩
      · have d1 := lt_false hlt
        simp only [b7_0, QU, oP, oR, oA, oH, oPn, oRn, oAn, oHn, bi, ld, ki, kt, kf, s_ops_nil, s_ops_cons, s_ops_nx, s_ops_pn, s_seq, s_seq_nx, s_seq_ex, s_seq_rt, s_skip, s_ret, s_exit, s_reg, s_cond, s_cond_t, s_cond_f, s_blk, s_blk_nx, s_blk_rt, s_blk_ex, s_put, s_P, s_R, s_A, s_A_some, s_C_ret, s_C_pan, s_H, s_H_ok, s_H_call, s_H_pan, s_gd, s_gd_bool, s_gd_undef, e_t, e_k, e_mv, e_pick, e_pick_b, e_bin, e_add_i64, e_add_i32, e_sub_i64, e_sub_u8, e_mul_i64, e_addU, e_mulU, e_addU32, e_mulU32, e_eql, e_neq, e_lss, e_leq, e_gtr, e_geq, e_str_eql, e_str_neq, e_iaddr, e_iaddr_int, e_lens, e_ld, e_extract, e_ex0, e_ex1, e_ex2, e_lenS, e_lenS_str, e_cii, e_cii_int, e_slsl_hm, e_sl2, e_slsl_h, e_sl1, e_slis, e_evL_nil, e_evL_cons, e_cons, e_call, e_callk, e_app, e_appk, e_store, e_stk, e_next, e_nextk, e_range, e_rangek, e_bs1, e_bs1i, e_bs0, e_mksl, e_mkslk, e_AK_sl, e_AK_it, e_AK_ptr, e_not, e_notb, e_xori, e_idxs, s_Hn, s_Hnk, s_Nx, s_Rt, s_NR_nx, s_NR_rt, s_NXT_nx, s_NXT_ex, s_NXT_rt, e_lenV_sl, e_lenV_nils, get_pk, k_bind, true_and, and_true, if_true, if_false, Bool.true_eq, beq_self_eq_true, reduceIte, Bool.false_eq_true, reduceCtorEq, bne_self_eq_false, Nat.reduceAdd, Nat.reduceLeDiff, Nat.reduceEqDiff, Nat.reduceSub, Nat.reduceBEq, Int.reduceBEq, Int.reduceNeg, Int.reduceLT, Int.reduceLE, Nat.succ_ne_self, Bool.not_true, Bool.not_false, Bool.true_beq, Bool.false_beq, decide_true, decide_false, exists_eq_left', Option.some.injEq, g0, g1, g5, ha.len, d1]
    · exact ⟨0, Nat.zero_le _, rfl, rfl, by simp only [QU, oP, oR, oA, oH, oPn, oRn, oAn, oHn, bi, ld, ki, kt, kf, s_ops_nil, s_ops_cons, s_ops_nx, s_ops_pn, s_seq, s_seq_nx, s_seq_ex, s_seq_rt, s_skip, s_ret, s_exit, s_reg, s_cond, s_cond_t, s_cond_f, s_blk, s_blk_nx, s_blk_rt, s_blk_ex, s_put, s_P, s_R, s_A, s_A_some, s_C_ret, s_C_pan, s_H, s_H_ok, s_H_call, s_H_pan, s_gd, s_gd_bool, s_gd_undef, e_t, e_k, e_mv, e_pick, e_pick_b, e_bin, e_add_i64, e_add_i32, e_sub_i64, e_sub_u8, e_mul_i64, e_addU, e_mulU, e_addU32, e_mulU32, e_eql, e_neq, e_lss, e_leq, e_gtr, e_geq, e_str_eql, e_str_neq, e_iaddr, e_iaddr_int, e_lens, e_ld, e_extract, e_ex0, e_ex1, e_ex2, e_lenS, e_lenS_str, e_cii, e_cii_int, e_slsl_hm, e_sl2, e_slsl_h, e_sl1, e_slis, e_evL_nil, e_evL_cons, e_cons, e_call, e_callk, e_app, e_appk, e_store, e_stk, e_next, e_nextk, e_range, e_rangek, e_bs1, e_bs1i, e_bs0, e_mksl, e_mkslk, e_AK_sl, e_AK_it, e_AK_ptr, e_not, e_notb, e_xori, e_idxs, s_Hn, s_Hnk, s_Nx, s_Rt, s_NR_nx, s_NR_rt, s_NXT_nx, s_NXT_ex, s_NXT_rt, e_lenV_sl, e_lenV_nils, get_pk, k_bind, true_and, and_true, if_true, if_false, Bool.true_eq, beq_self_eq_true, reduceIte, Bool.false_eq_true, reduceCtorEq, bne_self_eq_false, Nat.reduceAdd, Nat.reduceLeDiff, Nat.reduceEqDiff, Nat.reduceSub, Nat.reduceBEq, Int.reduceBEq, Int.reduceNeg, Int.reduceLT, Int.reduceLE, Nat.succ_ne_self, Bool.not_true, Bool.not_false, Bool.true_beq, Bool.false_beq, decide_true, decide_false, exists_eq_left', Option.some.injEq, h0], by simp only [QU, oP, oR, oA, oH, oPn, oRn, oAn, oHn, bi, ld, ki, kt, kf, s_ops_nil, s_ops_cons, s_ops_nx, s_ops_pn, s_seq, s_seq_nx, s_seq_ex, s_seq_rt, s_skip, s_ret, s_exit, s_reg, s_cond, s_cond_t, s_cond_f, s_blk, s_blk_nx, s_blk_rt, s_blk_ex, s_put, s_P, s_R, s_A, s_A_some, s_C_ret, s_C_pan, s_H, s_H_ok, s_H_call, s_H_pan, s_gd, s_gd_bool, s_gd_undef, e_t, e_k, e_mv, e_pick, e_pick_b, e_bin, e_add_i64, e_add_i32, e_sub_i64, e_sub_u8, e_mul_i64, e_addU, e_mulU, e_addU32, e_mulU32, e_eql, e_neq, e_lss, e_leq, e_gtr, e_geq, e_str_eql, e_str_neq, e_iaddr, e_iaddr_int, e_lens, e_ld, e_extract, e_ex0, e_ex1, e_ex2, e_lenS, e_lenS_str, e_cii, e_cii_int, e_slsl_hm, e_sl2, e_slsl_h, e_sl1, e_slis, e_evL_nil, e_evL_cons, e_cons, e_call, e_callk, e_app, e_appk, e_store, e_stk, e_next, e_nextk, e_range, e_rangek, e_bs1, e_bs1i, e_bs0, e_mksl, e_mkslk, e_AK_sl, e_AK_it, e_AK_ptr, e_not, e_notb, e_xori, e_idxs, s_Hn, s_Hnk, s_Nx, s_Rt, s_NR_nx, s_NR_rt, s_NXT_nx, s_NXT_ex, s_NXT_rt, e_lenV_sl, e_lenV_nils, get_pk, k_bind, true_and, and_true, if_true, if_false, Bool.true_eq, beq_self_eq_true, reduceIte, Bool.false_eq_true, reduceCtorEq, bne_self_eq_false, Nat.reduceAdd, Nat.reduceLeDiff, Nat.reduceEqDiff, Nat.reduceSub, Nat.reduceBEq, Int.reduceBEq, Int.reduceNeg, Int.reduceLT, Int.reduceLE, Nat.succ_ne_self, Bool.not_true, Bool.not_false, Bool.true_beq, Bool.false_beq, decide_true, decide_false, exists_eq_left', Option.some.injEq, h1], by simp only [QU, oP, oR, oA, oH, oPn, oRn, oAn, oHn, bi, ld, ki, kt, kf, s_ops_nil, s_ops_cons, s_ops_nx, s_ops_pn, s_seq, s_seq_nx, s_seq_ex, s_seq_rt, s_skip, s_ret, s_exit, s_reg, s_cond, s_cond_t, s_cond_f, s_blk, s_blk_nx, s_blk_rt, s_blk_ex, s_put, s_P, s_R, s_A, s_A_some, s_C_ret, s_C_pan, s_H, s_H_ok, s_H_call, s_H_pan, s_gd, s_gd_bool, s_gd_undef, e_t, e_k, e_mv, e_pick, e_pick_b, e_bin, e_add_i64, e_add_i32, e_sub_i64, e_sub_u8, e_mul_i64, e_addU, e_mulU, e_addU32, e_mulU32, e_eql, e_neq, e_lss, e_leq, e_gtr, e_geq, e_str_eql, e_str_neq, e_iaddr, e_iaddr_int, e_lens, e_ld, e_extract, e_ex0, e_ex1, e_ex2, e_lenS, e_lenS_str, e_cii, e_cii_int, e_slsl_hm, e_sl2, e_slsl_h, e_sl1, e_slis, e_evL_nil, e_evL_cons, e_cons, e_call, e_callk, e_app, e_appk, e_store, e_stk, e_next, e_nextk, e_range, e_rangek, e_bs1, e_bs1i, e_bs0, e_mksl, e_mkslk, e_AK_sl, e_AK_it, e_AK_ptr, e_not, e_notb, e_xori, e_idxs, s_Hn, s_Hnk, s_Nx, s_Rt, s_NR_nx, s_NR_rt, s_NXT_nx, s_NXT_ex, s_NXT_rt, e_lenV_sl, e_lenV_nils, get_pk, k_bind, true_and, and_true, if_true, if_false, Bool.true_eq, beq_self_eq_true, reduceIte, Bool.false_eq_true, reduceCtorEq, bne_self_eq_false, Nat.reduceAdd, Nat.reduceLeDiff, Nat.reduceEqDiff, Nat.reduceSub, Nat.reduceBEq, Int.reduceBEq, Int.reduceNeg, Int.reduceLT, Int.reduceLE, Nat.succ_ne_self, Bool.not_true, Bool.not_false, Bool.true_beq, Bool.false_beq, decide_true, decide_false, exists_eq_left', Option.some.injEq]; rfl⟩
    · rintro τ σ' rfl
      simp only [QU, oP, oR, oA, oH, oPn, oRn, oAn, oHn, bi, ld, ki, kt, kf, s_ops_nil, s_ops_cons, s_ops_nx, s_ops_pn, s_seq, s_seq_nx, s_seq_ex, s_seq_rt, s_skip, s_ret, s_exit, s_reg, s_cond, s_cond_t, s_cond_f, s_blk, s_blk_nx, s_blk_rt, s_blk_ex, s_put, s_P, s_R, s_A, s_A_some, s_C_ret, s_C_pan, s_H, s_H_ok, s_H_call, s_H_pan, s_gd, s_gd_bool, s_gd_undef, e_t, e_k, e_mv, e_pick, e_pick_b, e_bin, e_add_i64, e_add_i32, e_sub_i64, e_sub_u8, e_mul_i64, e_addU, e_mulU, e_addU32, e_mulU32, e_eql, e_neq, e_lss, e_leq, e_gtr, e_geq, e_str_eql, e_str_neq, e_iaddr, e_iaddr_int, e_lens, e_ld, e_extract, e_ex0, e_ex1, e_ex2, e_lenS, e_lenS_str, e_cii, e_cii_int, e_slsl_hm, e_sl2, e_slsl_h, e_sl1, e_slis, e_evL_nil, e_evL_cons, e_cons, e_call, e_callk, e_app, e_appk, e_store, e_stk, e_next, e_nextk, e_range, e_rangek, e_bs1, e_bs1i, e_bs0, e_mksl, e_mkslk, e_AK_sl, e_AK_it, e_AK_ptr, e_not, e_notb, e_xori, e_idxs, s_Hn, s_Hnk, s_Nx, s_Rt, s_NR_nx, s_NR_rt, s_NXT_nx, s_NXT_ex, s_NXT_rt, e_lenV_sl, e_lenV_nils, get_pk, k_bind, true_and, and_true, if_true, if_false, Bool.true_eq, beq_self_eq_true, reduceIte, Bool.false_eq_true, reduceCtorEq, bne_self_eq_false, Nat.reduceAdd, Nat.reduceLeDiff, Nat.reduceEqDiff, Nat.reduceSub, Nat.reduceBEq, Int.reduceBEq, Int.reduceNeg, Int.reduceLT, Int.reduceLE, Nat.succ_ne_self, Bool.not_true, Bool.not_false, Bool.true_beq, Bool.false_beq, decide_true, decide_false, exists_eq_left', Option.some.injEq]
  obtain ⟨v, _, h1, rfl, rfl⟩ := key
  exact h1

end Go.Proofs.YtplaefbblpiehaaEng

namespace Go.Proofs.YtplaefbblpiehaaEng
open Go
set_option maxRecDepth 100000
set_option linter.unusedSimpArgs false

theorem c30_at : T1.code 30 = some c30 := by kernel_rfl
theorem c28_at : T1.code 28 = some c28 := by kernel_rfl

def l8 : List Nat := [0, 1, 2, 2, 3, 3, 3, 3, 4, 4, 4, 4, 4, 4, 4, 4, 5, 5, 5, 5, 5, 5, 5, 5, 5, 5, 5, 5, 5, 5, 5, 5, 6, 6, 6, 6, 6, 6, 6, 6, 6, 6, 6, 6, 6, 6, 6, 6, 6, 6, 6, 6, 6, 6, 6, 6, 6, 6, 6, 6, 6, 6, 6, 6, 7, 7, 7, 7, 7, 7, 7, 7, 7, 7, 7, 7, 7, 7, 7, 7, 7, 7, 7, 7, 7, 7, 7, 7, 7, 7, 7, 7, 7, 7, 7, 7, 7, 7, 7, 7, 7, 7, 7, 7, 7, 7, 7, 7, 7, 7, 7, 7, 7, 7, 7, 7, 7, 7, 7, 7, 7, 7, 7, 7, 7, 7, 7, 7, 8, 8, 8, 8, 8, 8, 8, 8, 8, 8, 8, 8, 8, 8, 8, 8, 8, 8, 8, 8, 8, 8, 8, 8, 8, 8, 8, 8, 8, 8, 8, 8, 8, 8, 8, 8, 8, 8, 8, 8, 8, 8, 8, 8, 8, 8, 8, 8, 8, 8, 8, 8, 8, 8, 8, 8, 8, 8, 8, 8, 8, 8, 8, 8, 8, 8, 8, 8, 8, 8, 8, 8, 8, 8, 8, 8, 8, 8, 8, 8, 8, 8, 8, 8, 8, 8, 8, 8, 8, 8, 8, 8, 8, 8, 8, 8, 8, 8, 8, 8, 8, 8, 8, 8, 8, 8, 8, 8, 8, 8, 8, 8, 8, 8, 8, 8, 8, 8, 8, 8, 8, 8, 8, 8, 8, 8, 8, 8]
theorem l8_len : l8.length = 256 := by decide
theorem l8_le : ∀ i, l8.getD i 0 ≤ 8 := by
  have h : ∀ x ∈ l8, x ≤ 8 := by decide
  intro i
  rw [List.getD_eq_getElem?_getD]
  cases hi : l8[i]? with
  | none => decide
  | some x => exact h x (List.mem_of_getElem? hi)
def lstep (k : Nat) (p : Nat × Nat) : Nat × Nat := if 2 ^ k ≤ p.1 then (p.1 / 2 ^ k, p.2 + k) else p
def l64p (x : Nat) : Nat × Nat := lstep 8 (lstep 16 (lstep 32 (x, 0)))
/-- how many bits -/
def l64 (x : Nat) : Nat := (l64p x).2 + l8.getD (l64p x).1 0

theorem lstep_le (k : Nat) (p : Nat × Nat) : (lstep k p).2 ≤ p.2 + k := by unfold lstep; split <;> simp
theorem lstep_lt (k : Nat) {p : Nat × Nat} {b : Nat} (h : p.1 < 2 ^ (k + b)) (hb : k ≤ b) : (lstep k p).1 < 2 ^ b := by
  unfold lstep
  split
  · simp only
    rw [Nat.div_lt_iff_lt_mul (Nat.two_pow_pos k), ← Nat.pow_add, Nat.add_comm]; exact h
  · rename_i hn
    exact Nat.lt_of_lt_of_le (Nat.lt_of_not_le hn) (Nat.pow_le_pow_right (by decide) hb)

/-- Len64 -/
theorem len64_call {lf m : Nat} {σ : H} {x : Nat} (hx : x < WW) : call T1 lf (m + 1) 30 [.int .u64 x] σ = .ret (.int .i64 (l64 x : Nat)) σ := by
  have key : ∃ v σ', call T1 lf (m + 1) 30 [.int .u64 x] σ = .ret v σ' ∧ (v = .int .i64 (l64 x : Nat) ∧ σ' = σ) := by
    refine call_rt1 (p := pk 2) rfl c30_at (by simp [c30]) rfl fun cf hcf => ?_
    clear hcf
    generalize hτ : bindArgs [.int .u64 (x : Int)] .h .lf = τ0
    have h0 : τ0.get (pk 0) = some (.int .u64 x) := by rw [← hτ]; rfl
    clear hτ
    have hx' : x < 2 ^ (32 + 32) := hx
    have hp1 := lstep_lt 32 (p := (x, 0)) (b := 32) hx' (Nat.le_refl _)
    have hq1 := lstep_le 32 (x, 0)
    have hp2 := lstep_lt 16 (b := 16) hp1 (Nat.le_refl _)
    have hq2 := lstep_le 16 (lstep 32 (x, 0))
    have hp3 := lstep_lt 8 (b := 8) hp2 (Nat.le_refl _)
    have hq3 := lstep_le 8 (lstep 16 (lstep 32 (x, 0)))
    have ix : ∀ i, i < 256 → kIx (some (.str l8)) (some (.int .u8 (i : Nat))) = some (.int .u8 (l8.getD i 0 : Nat)) := fun i hi => e_ixk .u8 (by rw [l8_len]; exact hi)
    have sh32 : ∀ q (y : Nat), kBin .shr q (some (.int .u64 y)) (some (.int .u64 32)) = some (.int .u64 (y / 2 ^ 32 : Nat)) := fun q y => e_shrU q .u64 y 32 (by decide)
    have sh16 : ∀ q (y : Nat), kBin .shr q (some (.int .u64 y)) (some (.int .u64 16)) = some (.int .u64 (y / 2 ^ 16 : Nat)) := fun q y => e_shrU q .u64 y 16 (by decide)
    have sh8 : ∀ q (y : Nat), kBin .shr q (some (.int .u64 y)) (some (.int .u64 8)) = some (.int .u64 (y / 2 ^ 8 : Nat)) := fun q y => e_shrU q .u64 y 8 (by decide)
    simp only [c30, QU, oP, oR, oA, oH, oPn, oRn, oAn, oHn, bi, ld, ki, kt, kf, s_ops_nil, s_ops_cons, s_ops_nx, s_ops_pn, s_seq, s_seq_nx, s_seq_ex, s_seq_rt, s_skip, s_ret, s_exit, s_reg, s_cond, s_cond_t, s_cond_f, s_blk, s_blk_nx, s_blk_rt, s_blk_ex, s_put, s_P, s_R, s_A, s_A_some, s_C_ret, s_C_pan, s_H, s_H_ok, s_H_call, s_H_pan, s_gd, s_gd_bool, s_gd_undef, e_t, e_k, e_mv, e_pick, e_pick_b, e_bin, e_add_i64, e_add_i32, e_sub_i64, e_sub_u8, e_mul_i64, e_addU, e_mulU, e_addU32, e_mulU32, e_eql, e_neq, e_lss, e_leq, e_gtr, e_geq, e_str_eql, e_str_neq, e_iaddr, e_iaddr_int, e_lens, e_ld, e_extract, e_ex0, e_ex1, e_ex2, e_lenS, e_lenS_str, e_cii, e_cii_int, e_slsl_hm, e_sl2, e_slsl_h, e_sl1, e_slis, e_evL_nil, e_evL_cons, e_cons, e_call, e_callk, e_app, e_appk, e_store, e_stk, e_next, e_nextk, e_range, e_rangek, e_bs1, e_bs1i, e_bs0, e_mksl, e_mkslk, e_AK_sl, e_AK_it, e_AK_ptr, e_not, e_notb, e_xori, e_idxs, s_Hn, s_Hnk, s_Nx, s_Rt, s_NR_nx, s_NR_rt, s_NXT_nx, s_NXT_ex, s_NXT_rt, e_lenV_sl, e_lenV_nils, get_pk, k_bind, true_and, and_true, if_true, if_false, Bool.true_eq, beq_self_eq_true, reduceIte, Bool.false_eq_true, reduceCtorEq, bne_self_eq_false, Nat.reduceAdd, Nat.reduceLeDiff, Nat.reduceEqDiff, Nat.reduceSub, Nat.reduceBEq, Int.reduceBEq, Int.reduceNeg, Int.reduceLT, Int.reduceLE, Nat.succ_ne_self, Bool.not_true, Bool.not_false, Bool.true_beq, Bool.false_beq, decide_true, decide_false, exists_eq_left', Option.some.injEq, h0]
    refine Rt_seq (N := fun τ σ' => σ' = σ ∧ τ.get (pk 0) = some (.int .u64 (lstep 32 (x, 0)).1) ∧ τ.get (pk 2) = some (.int .i64 (lstep 32 (x, 0)).2)) ?_ ?_
    · by_cases hc : 2 ^ 32 ≤ x
      · have e : lstep 32 (x, 0) = (x / 2 ^ 32, 0 + 32) := if_pos hc
        have d : decide ((4294967296 : Int) ≤ (x : Int)) = true := by simp; omega
        simp only [QU, oP, oR, oA, oH, oPn, oRn, oAn, oHn, bi, ld, ki, kt, kf, s_ops_nil, s_ops_cons, s_ops_nx, s_ops_pn, s_seq, s_seq_nx, s_seq_ex, s_seq_rt, s_skip, s_ret, s_exit, s_reg, s_cond, s_cond_t, s_cond_f, s_blk, s_blk_nx, s_blk_rt, s_blk_ex, s_put, s_P, s_R, s_A, s_A_some, s_C_ret, s_C_pan, s_H, s_H_ok, s_H_call, s_H_pan, s_gd, s_gd_bool, s_gd_undef, e_t, e_k, e_mv, e_pick, e_pick_b, e_bin, e_add_i64, e_add_i32, e_sub_i64, e_sub_u8, e_mul_i64, e_addU, e_mulU, e_addU32, e_mulU32, e_eql, e_neq, e_lss, e_leq, e_gtr, e_geq, e_str_eql, e_str_neq, e_iaddr, e_iaddr_int, e_lens, e_ld, e_extract, e_ex0, e_ex1, e_ex2, e_lenS, e_lenS_str, e_cii, e_cii_int, e_slsl_hm, e_sl2, e_slsl_h, e_sl1, e_slis, e_evL_nil, e_evL_cons, e_cons, e_call, e_callk, e_app, e_appk, e_store, e_stk, e_next, e_nextk, e_range, e_rangek, e_bs1, e_bs1i, e_bs0, e_mksl, e_mkslk, e_AK_sl, e_AK_it, e_AK_ptr, e_not, e_notb, e_xori, e_idxs, s_Hn, s_Hnk, s_Nx, s_Rt, s_NR_nx, s_NR_rt, s_NXT_nx, s_NXT_ex, s_NXT_rt, e_lenV_sl, e_lenV_nils, get_pk, k_bind, true_and, and_true, if_true, if_false, Bool.true_eq, beq_self_eq_true, reduceIte, Bool.false_eq_true, reduceCtorEq, bne_self_eq_false, Nat.reduceAdd, Nat.reduceLeDiff, Nat.reduceEqDiff, Nat.reduceSub, Nat.reduceBEq, Int.reduceBEq, Int.reduceNeg, Int.reduceLT, Int.reduceLE, Nat.succ_ne_self, Bool.not_true, Bool.not_false, Bool.true_beq, Bool.false_beq, decide_true, decide_false, exists_eq_left', Option.some.injEq, d, h0, sh32, e]
        rfl
      · have e : lstep 32 (x, 0) = (x, 0) := if_neg hc
        have d : decide ((4294967296 : Int) ≤ (x : Int)) = false := by simp; omega
        simp only [QU, oP, oR, oA, oH, oPn, oRn, oAn, oHn, bi, ld, ki, kt, kf, s_ops_nil, s_ops_cons, s_ops_nx, s_ops_pn, s_seq, s_seq_nx, s_seq_ex, s_seq_rt, s_skip, s_ret, s_exit, s_reg, s_cond, s_cond_t, s_cond_f, s_blk, s_blk_nx, s_blk_rt, s_blk_ex, s_put, s_P, s_R, s_A, s_A_some, s_C_ret, s_C_pan, s_H, s_H_ok, s_H_call, s_H_pan, s_gd, s_gd_bool, s_gd_undef, e_t, e_k, e_mv, e_pick, e_pick_b, e_bin, e_add_i64, e_add_i32, e_sub_i64, e_sub_u8, e_mul_i64, e_addU, e_mulU, e_addU32, e_mulU32, e_eql, e_neq, e_lss, e_leq, e_gtr, e_geq, e_str_eql, e_str_neq, e_iaddr, e_iaddr_int, e_lens, e_ld, e_extract, e_ex0, e_ex1, e_ex2, e_lenS, e_lenS_str, e_cii, e_cii_int, e_slsl_hm, e_sl2, e_slsl_h, e_sl1, e_slis, e_evL_nil, e_evL_cons, e_cons, e_call, e_callk, e_app, e_appk, e_store, e_stk, e_next, e_nextk, e_range, e_rangek, e_bs1, e_bs1i, e_bs0, e_mksl, e_mkslk, e_AK_sl, e_AK_it, e_AK_ptr, e_not, e_notb, e_xori, e_idxs, s_Hn, s_Hnk, s_Nx, s_Rt, s_NR_nx, s_NR_rt, s_NXT_nx, s_NXT_ex, s_NXT_rt, e_lenV_sl, e_lenV_nils, get_pk, k_bind, true_and, and_true, if_true, if_false, Bool.true_eq, beq_self_eq_true, reduceIte, Bool.false_eq_true, reduceCtorEq, bne_self_eq_false, Nat.reduceAdd, Nat.reduceLeDiff, Nat.reduceEqDiff, Nat.reduceSub, Nat.reduceBEq, Int.reduceBEq, Int.reduceNeg, Int.reduceLT, Int.reduceLE, Nat.succ_ne_self, Bool.not_true, Bool.not_false, Bool.true_beq, Bool.false_beq, decide_true, decide_false, exists_eq_left', Option.some.injEq, d, h0, e]
        rfl
    · rintro τ σ' ⟨rfl, g0, g2⟩
      generalize hP : lstep 32 (x, 0) = P at *
      simp only [QU, oP, oR, oA, oH, oPn, oRn, oAn, oHn, bi, ld, ki, kt, kf, s_ops_nil, s_ops_cons, s_ops_nx, s_ops_pn, s_seq, s_seq_nx, s_seq_ex, s_seq_rt, s_skip, s_ret, s_exit, s_reg, s_cond, s_cond_t, s_cond_f, s_blk, s_blk_nx, s_blk_rt, s_blk_ex, s_put, s_P, s_R, s_A, s_A_some, s_C_ret, s_C_pan, s_H, s_H_ok, s_H_call, s_H_pan, s_gd, s_gd_bool, s_gd_undef, e_t, e_k, e_mv, e_pick, e_pick_b, e_bin, e_add_i64, e_add_i32, e_sub_i64, e_sub_u8, e_mul_i64, e_addU, e_mulU, e_addU32, e_mulU32, e_eql, e_neq, e_lss, e_leq, e_gtr, e_geq, e_str_eql, e_str_neq, e_iaddr, e_iaddr_int, e_lens, e_ld, e_extract, e_ex0, e_ex1, e_ex2, e_lenS, e_lenS_str, e_cii, e_cii_int, e_slsl_hm, e_sl2, e_slsl_h, e_sl1, e_slis, e_evL_nil, e_evL_cons, e_cons, e_call, e_callk, e_app, e_appk, e_store, e_stk, e_next, e_nextk, e_range, e_rangek, e_bs1, e_bs1i, e_bs0, e_mksl, e_mkslk, e_AK_sl, e_AK_it, e_AK_ptr, e_not, e_notb, e_xori, e_idxs, s_Hn, s_Hnk, s_Nx, s_Rt, s_NR_nx, s_NR_rt, s_NXT_nx, s_NXT_ex, s_NXT_rt, e_lenV_sl, e_lenV_nils, get_pk, k_bind, true_and, and_true, if_true, if_false, Bool.true_eq, beq_self_eq_true, reduceIte, Bool.false_eq_true, reduceCtorEq, bne_self_eq_false, Nat.reduceAdd, Nat.reduceLeDiff, Nat.reduceEqDiff, Nat.reduceSub, Nat.reduceBEq, Int.reduceBEq, Int.reduceNeg, Int.reduceLT, Int.reduceLE, Nat.succ_ne_self, Bool.not_true, Bool.not_false, Bool.true_beq, Bool.false_beq, decide_true, decide_false, exists_eq_left', Option.some.injEq, g0]
      refine Rt_seq (N := fun τ σ'' => σ'' = σ' ∧ τ.get (pk 0) = some (.int .u64 (lstep 16 P).1) ∧ τ.get (pk 2) = some (.int .i64 (lstep 16 P).2)) ?_ ?_
      · by_cases hc : 2 ^ 16 ≤ P.1
        · have e : lstep 16 P = (P.1 / 2 ^ 16, P.2 + 16) := if_pos hc
          have d : decide ((65536 : Int) ≤ (P.1 : Int)) = true := by simp; omega
          have w : IntKind.i64.wrap ((P.2 : Int) + 16) = ((P.2 + 16 : Nat) : Int) := wrap_add (k := 16) (by omega)
          simp only [QU, oP, oR, oA, oH, oPn, oRn, oAn, oHn, bi, ld, ki, kt, kf, s_ops_nil, s_ops_cons, s_ops_nx, s_ops_pn, s_seq, s_seq_nx, s_seq_ex, s_seq_rt, s_skip, s_ret, s_exit, s_reg, s_cond, s_cond_t, s_cond_f, s_blk, s_blk_nx, s_blk_rt, s_blk_ex, s_put, s_P, s_R, s_A, s_A_some, s_C_ret, s_C_pan, s_H, s_H_ok, s_H_call, s_H_pan, s_gd, s_gd_bool, s_gd_undef, e_t, e_k, e_mv, e_pick, e_pick_b, e_bin, e_add_i64, e_add_i32, e_sub_i64, e_sub_u8, e_mul_i64, e_addU, e_mulU, e_addU32, e_mulU32, e_eql, e_neq, e_lss, e_leq, e_gtr, e_geq, e_str_eql, e_str_neq, e_iaddr, e_iaddr_int, e_lens, e_ld, e_extract, e_ex0, e_ex1, e_ex2, e_lenS, e_lenS_str, e_cii, e_cii_int, e_slsl_hm, e_sl2, e_slsl_h, e_sl1, e_slis, e_evL_nil, e_evL_cons, e_cons, e_call, e_callk, e_app, e_appk, e_store, e_stk, e_next, e_nextk, e_range, e_rangek, e_bs1, e_bs1i, e_bs0, e_mksl, e_mkslk, e_AK_sl, e_AK_it, e_AK_ptr, e_not, e_notb, e_xori, e_idxs, s_Hn, s_Hnk, s_Nx, s_Rt, s_NR_nx, s_NR_rt, s_NXT_nx, s_NXT_ex, s_NXT_rt, e_lenV_sl, e_lenV_nils, get_pk, k_bind, true_and, and_true, if_true, if_false, Bool.true_eq, beq_self_eq_true, reduceIte, Bool.false_eq_true, reduceCtorEq, bne_self_eq_false, Nat.reduceAdd, Nat.reduceLeDiff, Nat.reduceEqDiff, Nat.reduceSub, Nat.reduceBEq, Int.reduceBEq, Int.reduceNeg, Int.reduceLT, Int.reduceLE, Nat.succ_ne_self, Bool.not_true, Bool.not_false, Bool.true_beq, Bool.false_beq, decide_true, decide_false, exists_eq_left', Option.some.injEq, d, g0, g2, sh16, e, w]
        · have e : lstep 16 P = P := if_neg hc
          have d : decide ((65536 : Int) ≤ (P.1 : Int)) = false := by simp; omega
          simp only [QU, oP, oR, oA, oH, oPn, oRn, oAn, oHn, bi, ld, ki, kt, kf, s_ops_nil, s_ops_cons, s_ops_nx, s_ops_pn, s_seq, s_seq_nx, s_seq_ex, s_seq_rt, s_skip, s_ret, s_exit, s_reg, s_cond, s_cond_t, s_cond_f, s_blk, s_blk_nx, s_blk_rt, s_blk_ex, s_put, s_P, s_R, s_A, s_A_some, s_C_ret, s_C_pan, s_H, s_H_ok, s_H_call, s_H_pan, s_gd, s_gd_bool, s_gd_undef, e_t, e_k, e_mv, e_pick, e_pick_b, e_bin, e_add_i64, e_add_i32, e_sub_i64, e_sub_u8, e_mul_i64, e_addU, e_mulU, e_addU32, e_mulU32, e_eql, e_neq, e_lss, e_leq, e_gtr, e_geq, e_str_eql, e_str_neq, e_iaddr, e_iaddr_int, e_lens, e_ld, e_extract, e_ex0, e_ex1, e_ex2, e_lenS, e_lenS_str, e_cii, e_cii_int, e_slsl_hm, e_sl2, e_slsl_h, e_sl1, e_slis, e_evL_nil, e_evL_cons, e_cons, e_call, e_callk, e_app, e_appk, e_store, e_stk, e_next, e_nextk, e_range, e_rangek, e_bs1, e_bs1i, e_bs0, e_mksl, e_mkslk, e_AK_sl, e_AK_it, e_AK_ptr, e_not, e_notb, e_xori, e_idxs, s_Hn, s_Hnk, s_Nx, s_Rt, s_NR_nx, s_NR_rt, s_NXT_nx, s_NXT_ex, s_NXT_rt, e_lenV_sl, e_lenV_nils, get_pk, k_bind, true_and, and_true, if_true, if_false, Bool.true_eq, beq_self_eq_true, reduceIte, Bool.false_eq_true, reduceCtorEq, bne_self_eq_false, Nat.reduceAdd, Nat.reduceLeDiff, Nat.reduceEqDiff, Nat.reduceSub, Nat.reduceBEq, Int.reduceBEq, Int.reduceNeg, Int.reduceLT, Int.reduceLE, Nat.succ_ne_self, Bool.not_true, Bool.not_false, Bool.true_beq, Bool.false_beq, decide_true, decide_false, exists_eq_left', Option.some.injEq, d, g0, g2, e]
      · rintro τ σ'' ⟨rfl, g0, g2⟩
        generalize hQ : lstep 16 P = Q at *
        simp only [QU, oP, oR, oA, oH, oPn, oRn, oAn, oHn, bi, ld, ki, kt, kf, s_ops_nil, s_ops_cons, s_ops_nx, s_ops_pn, s_seq, s_seq_nx, s_seq_ex, s_seq_rt, s_skip, s_ret, s_exit, s_reg, s_cond, s_cond_t, s_cond_f, s_blk, s_blk_nx, s_blk_rt, s_blk_ex, s_put, s_P, s_R, s_A, s_A_some, s_C_ret, s_C_pan, s_H, s_H_ok, s_H_call, s_H_pan, s_gd, s_gd_bool, s_gd_undef, e_t, e_k, e_mv, e_pick, e_pick_b, e_bin, e_add_i64, e_add_i32, e_sub_i64, e_sub_u8, e_mul_i64, e_addU, e_mulU, e_addU32, e_mulU32, e_eql, e_neq, e_lss, e_leq, e_gtr, e_geq, e_str_eql, e_str_neq, e_iaddr, e_iaddr_int, e_lens, e_ld, e_extract, e_ex0, e_ex1, e_ex2, e_lenS, e_lenS_str, e_cii, e_cii_int, e_slsl_hm, e_sl2, e_slsl_h, e_sl1, e_slis, e_evL_nil, e_evL_cons, e_cons, e_call, e_callk, e_app, e_appk, e_store, e_stk, e_next, e_nextk, e_range, e_rangek, e_bs1, e_bs1i, e_bs0, e_mksl, e_mkslk, e_AK_sl, e_AK_it, e_AK_ptr, e_not, e_notb, e_xori, e_idxs, s_Hn, s_Hnk, s_Nx, s_Rt, s_NR_nx, s_NR_rt, s_NXT_nx, s_NXT_ex, s_NXT_rt, e_lenV_sl, e_lenV_nils, get_pk, k_bind, true_and, and_true, if_true, if_false, Bool.true_eq, beq_self_eq_true, reduceIte, Bool.false_eq_true, reduceCtorEq, bne_self_eq_false, Nat.reduceAdd, Nat.reduceLeDiff, Nat.reduceEqDiff, Nat.reduceSub, Nat.reduceBEq, Int.reduceBEq, Int.reduceNeg, Int.reduceLT, Int.reduceLE, Nat.succ_ne_self, Bool.not_true, Bool.not_false, Bool.true_beq, Bool.false_beq, decide_true, decide_false, exists_eq_left', Option.some.injEq, g0]
        refine Rt_seq (N := fun τ σ' => σ' = σ'' ∧ τ.get (pk 0) = some (.int .u64 (lstep 8 Q).1) ∧ τ.get (pk 2) = some (.int .i64 (lstep 8 Q).2)) ?_ ?_
        · by_cases hc : 2 ^ 8 ≤ Q.1
          · have e : lstep 8 Q = (Q.1 / 2 ^ 8, Q.2 + 8) := if_pos hc
            have d : decide ((256 : Int) ≤ (Q.1 : Int)) = true := by simp; omega
            have w : IntKind.i64.wrap ((Q.2 : Int) + 8) = ((Q.2 + 8 : Nat) : Int) := wrap_add (k := 8) (by omega)
            simp only [QU, oP, oR, oA, oH, oPn, oRn, oAn, oHn, bi, ld, ki, kt, kf, s_ops_nil, s_ops_cons, s_ops_nx, s_ops_pn, s_seq, s_seq_nx, s_seq_ex, s_seq_rt, s_skip, s_ret, s_exit, s_reg, s_cond, s_cond_t, s_cond_f, s_blk, s_blk_nx, s_blk_rt, s_blk_ex, s_put, s_P, s_R, s_A, s_A_some, s_C_ret, s_C_pan, s_H, s_H_ok, s_H_call, s_H_pan, s_gd, s_gd_bool, s_gd_undef, e_t, e_k, e_mv, e_pick, e_pick_b, e_bin, e_add_i64, e_add_i32, e_sub_i64, e_sub_u8, e_mul_i64, e_addU, e_mulU, e_addU32, e_mulU32, e_eql, e_neq, e_lss, e_leq, e_gtr, e_geq, e_str_eql, e_str_neq, e_iaddr, e_iaddr_int, e_lens, e_ld, e_extract, e_ex0, e_ex1, e_ex2, e_lenS, e_lenS_str, e_cii, e_cii_int, e_slsl_hm, e_sl2, e_slsl_h, e_sl1, e_slis, e_evL_nil, e_evL_cons, e_cons, e_call, e_callk, e_app, e_appk, e_store, e_stk, e_next, e_nextk, e_range, e_rangek, e_bs1, e_bs1i, e_bs0, e_mksl, e_mkslk, e_AK_sl, e_AK_it, e_AK_ptr, e_not, e_notb, e_xori, e_idxs, s_Hn, s_Hnk, s_Nx, s_Rt, s_NR_nx, s_NR_rt, s_NXT_nx, s_NXT_ex, s_NXT_rt, e_lenV_sl, e_lenV_nils, get_pk, k_bind, true_and, and_true, if_true, if_false, Bool.true_eq, beq_self_eq_true, reduceIte, Bool.false_eq_true, reduceCtorEq, bne_self_eq_false, Nat.reduceAdd, Nat.reduceLeDiff, Nat.reduceEqDiff, Nat.reduceSub, Nat.reduceBEq, Int.reduceBEq, Int.reduceNeg, Int.reduceLT, Int.reduceLE, Nat.succ_ne_self, Bool.not_true, Bool.not_false, Bool.true_beq, Bool.false_beq, decide_true, decide_false, exists_eq_left', Option.some.injEq, d, g0, g2, sh8, e, w]
          · have e : lstep 8 Q = Q := if_neg hc
            have d : decide ((256 : Int) ≤ (Q.1 : Int)) = false := by simp; omega
            simp only [QU, oP, oR, oA, oH, oPn, oRn, oAn, oHn, bi, ld, ki, kt, kf, s_ops_nil, s_ops_cons, s_ops_nx, s_ops_pn, s_seq, s_seq_nx, s_seq_ex, s_seq_rt, s_skip, s_ret, s_exit, s_reg, s_cond, s_cond_t, s_cond_f, s_blk, s_blk_nx, s_blk_rt, s_blk_ex, s_put, s_P, s_R, s_A, s_A_some, s_C_ret, s_C_pan, s_H, s_H_ok, s_H_call, s_H_pan, s_gd, s_gd_bool, s_gd_undef, e_t, e_k, e_mv, e_pick, e_pick_b, e_bin, e_add_i64, e_add_i32, e_sub_i64, e_sub_u8, e_mul_i64, e_addU, e_mulU, e_addU32, e_mulU32, e_eql, e_neq, e_lss, e_leq, e_gtr, e_geq, e_str_eql, e_str_neq, e_iaddr, e_iaddr_int, e_lens, e_ld, e_extract, e_ex0, e_ex1, e_ex2, e_lenS, e_lenS_str, e_cii, e_cii_int, e_slsl_hm, e_sl2, e_slsl_h, e_sl1, e_slis, e_evL_nil, e_evL_cons, e_cons, e_call, e_callk, e_app, e_appk, e_store, e_stk, e_next, e_nextk, e_range, e_rangek, e_bs1, e_bs1i, e_bs0, e_mksl, e_mkslk, e_AK_sl, e_AK_it, e_AK_ptr, e_not, e_notb, e_xori, e_idxs, s_Hn, s_Hnk, s_Nx, s_Rt, s_NR_nx, s_NR_rt, s_NXT_nx, s_NXT_ex, s_NXT_rt, e_lenV_sl, e_lenV_nils, get_pk, k_bind, true_and, and_true, if_true, if_false, Bool.true_eq, beq_self_eq_true, reduceIte, Bool.false_eq_true, reduceCtorEq, bne_self_eq_false, Nat.reduceAdd, Nat.reduceLeDiff, Nat.reduceEqDiff, Nat.reduceSub, Nat.reduceBEq, Int.reduceBEq, Int.reduceNeg, Int.reduceLT, Int.reduceLE, Nat.succ_ne_self, Bool.not_true, Bool.not_false, Bool.true_beq, Bool.false_beq, decide_true, decide_false, exists_eq_left', Option.some.injEq, d, g0, g2, e]
        · rintro τ σ3 ⟨rfl, g0, g2⟩
          have hl : l64 x = (lstep 8 Q).2 + l8.getD (lstep 8 Q).1 0 := by rw [← hQ, ← hP]; rfl
          generalize hR : lstep 8 Q = R at *
          have w8 : IntKind.u8.wrap (R.1 : Int) = (R.1 : Int) := by simp [IntKind.wrap, IntKind.bits, IntKind.signed]; omega
          have i8 := ix R.1 hp3
          simp only [l8] at i8
          have hle := l8_le R.1
          generalize hB : l8.getD R.1 0 = B at *
          simp only [l8] at hB
          rw [hB] at i8
          have wb : IntKind.i64.wrap (B : Int) = (B : Int) := wrap_nat (by omega)
          have wa : IntKind.i64.wrap ((R.2 : Int) + (B : Int)) = ((R.2 + B : Nat) : Int) := wrap_add (by omega)
          simp only [QU, oP, oR, oA, oH, oPn, oRn, oAn, oHn, bi, ld, ki, kt, kf, s_ops_nil, s_ops_cons, s_ops_nx, s_ops_pn, s_seq, s_seq_nx, s_seq_ex, s_seq_rt, s_skip, s_ret, s_exit, s_reg, s_cond, s_cond_t, s_cond_f, s_blk, s_blk_nx, s_blk_rt, s_blk_ex, s_put, s_P, s_R, s_A, s_A_some, s_C_ret, s_C_pan, s_H, s_H_ok, s_H_call, s_H_pan, s_gd, s_gd_bool, s_gd_undef, e_t, e_k, e_mv, e_pick, e_pick_b, e_bin, e_add_i64, e_add_i32, e_sub_i64, e_sub_u8, e_mul_i64, e_addU, e_mulU, e_addU32, e_mulU32, e_eql, e_neq, e_lss, e_leq, e_gtr, e_geq, e_str_eql, e_str_neq, e_iaddr, e_iaddr_int, e_lens, e_ld, e_extract, e_ex0, e_ex1, e_ex2, e_lenS, e_lenS_str, e_cii, e_cii_int, e_slsl_hm, e_sl2, e_slsl_h, e_sl1, e_slis, e_evL_nil, e_evL_cons, e_cons, e_call, e_callk, e_app, e_appk, e_store, e_stk, e_next, e_nextk, e_range, e_rangek, e_bs1, e_bs1i, e_bs0, e_mksl, e_mkslk, e_AK_sl, e_AK_it, e_AK_ptr, e_not, e_notb, e_xori, e_idxs, s_Hn, s_Hnk, s_Nx, s_Rt, s_NR_nx, s_NR_rt, s_NXT_nx, s_NXT_ex, s_NXT_rt, e_lenV_sl, e_lenV_nils, get_pk, k_bind, true_and, and_true, if_true, if_false, Bool.true_eq, beq_self_eq_true, reduceIte, Bool.false_eq_true, reduceCtorEq, bne_self_eq_false, Nat.reduceAdd, Nat.reduceLeDiff, Nat.reduceEqDiff, Nat.reduceSub, Nat.reduceBEq, Int.reduceBEq, Int.reduceNeg, Int.reduceLT, Int.reduceLE, Nat.succ_ne_self, Bool.not_true, Bool.not_false, Bool.true_beq, Bool.false_beq, decide_true, decide_false, exists_eq_left', Option.some.injEq, g0, g2, w8, i8, wb, wa, hl]
  obtain ⟨v, _, h1, rfl, rfl⟩ := key
  exact h1
/-- Len -/
theorem len_call {lf m : Nat} {σ : H} {x : Nat} (hx : x < WW) : call T1 lf (m + 2) 28 [.int .u64 x] σ = .ret (.int .i64 (l64 x : Nat)) σ := by
  have key : ∃ v σ', call T1 lf (m + 2) 28 [.int .u64 x] σ = .ret v σ' ∧ (v = .int .i64 (l64 x : Nat) ∧ σ' = σ) := by
    refine call_rt1 (p := pk 2) rfl c28_at (by simp [c28]) rfl fun cf hcf => ?_
    generalize hτ : bindArgs [.int .u64 (x : Int)] .h .lf = τ0
    have h0 : τ0.get (pk 0) = some (.int .u64 x) := by rw [← hτ]; rfl
    clear hτ
    have k := len64_call (lf := lf) (m := m) (σ := σ) hx
    rw [← hcf] at k
    simp only [c28, QU, oP, oR, oA, oH, oPn, oRn, oAn, oHn, bi, ld, ki, kt, kf, s_ops_nil, s_ops_cons, s_ops_nx, s_ops_pn, s_seq, s_seq_nx, s_seq_ex, s_seq_rt, s_skip, s_ret, s_exit, s_reg, s_cond, s_cond_t, s_cond_f, s_blk, s_blk_nx, s_blk_rt, s_blk_ex, s_put, s_P, s_R, s_A, s_A_some, s_C_ret, s_C_pan, s_H, s_H_ok, s_H_call, s_H_pan, s_gd, s_gd_bool, s_gd_undef, e_t, e_k, e_mv, e_pick, e_pick_b, e_bin, e_add_i64, e_add_i32, e_sub_i64, e_sub_u8, e_mul_i64, e_addU, e_mulU, e_addU32, e_mulU32, e_eql, e_neq, e_lss, e_leq, e_gtr, e_geq, e_str_eql, e_str_neq, e_iaddr, e_iaddr_int, e_lens, e_ld, e_extract, e_ex0, e_ex1, e_ex2, e_lenS, e_lenS_str, e_cii, e_cii_int, e_slsl_hm, e_sl2, e_slsl_h, e_sl1, e_slis, e_evL_nil, e_evL_cons, e_cons, e_call, e_callk, e_app, e_appk, e_store, e_stk, e_next, e_nextk, e_range, e_rangek, e_bs1, e_bs1i, e_bs0, e_mksl, e_mkslk, e_AK_sl, e_AK_it, e_AK_ptr, e_not, e_notb, e_xori, e_idxs, s_Hn, s_Hnk, s_Nx, s_Rt, s_NR_nx, s_NR_rt, s_NXT_nx, s_NXT_ex, s_NXT_rt, e_lenV_sl, e_lenV_nils, get_pk, k_bind, true_and, and_true, if_true, if_false, Bool.true_eq, beq_self_eq_true, reduceIte, Bool.false_eq_true, reduceCtorEq, bne_self_eq_false, Nat.reduceAdd, Nat.reduceLeDiff, Nat.reduceEqDiff, Nat.reduceSub, Nat.reduceBEq, Int.reduceBEq, Int.reduceNeg, Int.reduceLT, Int.reduceLE, Nat.succ_ne_self, Bool.not_true, Bool.not_false, Bool.true_beq, Bool.false_beq, decide_true, decide_false, exists_eq_left', Option.some.injEq, h0, k]
  obtain ⟨v, _, h1, rfl, rfl⟩ := key
  exact h1
end Go.Proofs.YtplaefbblpiehaaEng

namespace Go.Proofs.YtplaefbblpiehaaEng
open Go
set_option maxRecDepth 100000
set_option linter.unusedSimpArgs false

/-- a digit of a quotient: what is guessed is never too small -/
theorem dq_ge {n1 n0 u l : Nat} (h1 : 2147483648 ≤ n1) (hu : u < n1 * 4294967296 + n0) (hn0 : n0 < 4294967296) (hl : l < 4294967296) :
    (u * 4294967296 + l) / (n1 * 4294967296 + n0) ≤ u / n1 ∧ u / n1 ≤ 4294967297 := by
  constructor
  · rw [Nat.le_div_iff_mul_le (by omega)]
    generalize hq : (u * 4294967296 + l) / (n1 * 4294967296 + n0) = q
    have h2 : q * (n1 * 4294967296 + n0) ≤ u * 4294967296 + l := by rw [← hq]; exact Nat.div_mul_le_self _ _
    rw [Nat.mul_add, ← Nat.mul_assoc] at h2
    generalize q * n1 = t at h2 ⊢
    omega
  · have : u / n1 < 4294967298 := by
      rw [Nat.div_lt_iff_lt_mul (by omega)]; omega
    omega
theorem dq_lt {Y u l : Nat} (hu : u < Y) (hl : l < 4294967296) : (u * 4294967296 + l) / Y < 4294967296 := by
  rw [Nat.div_lt_iff_lt_mul (by omega)]
  have : (u + 1) * 4294967296 ≤ Y * 4294967296 := Nat.mul_le_mul_right _ hu
  rw [Nat.mul_comm 4294967296 Y]
  omega
/-- too large: one less is not too small -/
theorem dq_step {n1 n0 u l q r : Nat} (hq : q * n1 + r = u) (hu : u < n1 * 4294967296 + n0) (hl : l < 4294967296) (hge : (u * 4294967296 + l) / (n1 * 4294967296 + n0) ≤ q)
    (hc : 4294967296 ≤ q ∨ 4294967296 * r + l < q * n0) : 1 ≤ q ∧ (u * 4294967296 + l) / (n1 * 4294967296 + n0) ≤ q - 1 ∧ (q - 1) * n1 + (r + n1) = u := by
  have hlt := dq_lt hu hl
  generalize hQ : (u * 4294967296 + l) / (n1 * 4294967296 + n0) = Q at *
  have h1 : Q < q := by
    rcases hc with h | h
    · omega
    · apply Nat.lt_of_not_le
      intro hle
      have h2 : q * (n1 * 4294967296 + n0) ≤ u * 4294967296 + l := by
        refine Nat.le_trans (Nat.mul_le_mul_right _ hle) ?_
        rw [← hQ]; exact Nat.div_mul_le_self _ _
      rw [Nat.mul_add, ← Nat.mul_assoc] at h2
      subst hq
      generalize q * n1 = t at *
      generalize q * n0 = w at *
      omega
  refine ⟨by omega, by omega, ?_⟩
  obtain ⟨p, rfl⟩ : ∃ p, q = p + 1 := ⟨q - 1, by omega⟩
  rw [Nat.add_mul, Nat.one_mul] at hq
  rw [Nat.add_sub_cancel]
  omega
/-- not too large -/
theorem dq_le {n1 n0 u l q r : Nat} (h0 : 0 < n1) (hq : q * n1 + r = u) (hc : q * n0 ≤ 4294967296 * r + l) : q ≤ (u * 4294967296 + l) / (n1 * 4294967296 + n0) := by
  rw [Nat.le_div_iff_mul_le (by omega), Nat.mul_add, ← Nat.mul_assoc]
  subst hq
  generalize q * n1 = t at *
  generalize q * n0 = w at *
  omega
theorem dq_exit {n1 n0 u l q r : Nat} (h0 : 0 < n1) (hn0 : n0 < 4294967296) (hq : q * n1 + r = u) (hq2 : q ≤ 4294967296) (hr : 4294967296 ≤ r) : q ≤ (u * 4294967296 + l) / (n1 * 4294967296 + n0) := by
  refine dq_le h0 hq ?_
  have : q * n0 ≤ 4294967296 * 4294967296 := Nat.mul_le_mul hq2 (by omega)
  have : 4294967296 * 4294967296 ≤ 4294967296 * r := Nat.mul_le_mul_left _ hr
  omega
theorem dv_ac (q1 q0 B y P : Nat) : (q1 * B + q0) * y * P = y * P * q1 * B + y * P * q0 := by
  rw [Nat.mul_assoc, Nat.add_mul]
  congr 1
  · simp only [Nat.mul_comm, Nat.mul_left_comm]
  · exact Nat.mul_comm _ _
/-- two digits -/
theorem dv_two' {B W h l y s Y u u1 u0 : Nat} (hW : W = B * B) (hY : Y = y * 2 ^ s) (hy : 0 < y) (hN : (h * W + l) * 2 ^ s = u * W + u1 * B + u0) :
    (u * B + u1) / Y * B + ((u * B + u1) % Y * B + u0) / Y = (h * W + l) / y ∧
    ((u * B + u1) % Y * B + u0) % Y / 2 ^ s = (h * W + l) % y := by
  generalize h * W + l = N at *
  have hN' : N * 2 ^ s = (u * B + u1) * B + u0 := by rw [hN, Nat.add_mul, hW, Nat.mul_assoc]
  clear hN hW
  generalize u * B + u1 = A at *
  have e1 := Nat.div_add_mod A Y
  generalize A / Y = q1 at *
  generalize A % Y = r1 at *
  generalize hC : r1 * B + u0 = C at *
  have e2 := Nat.div_add_mod C Y
  have e3 : C % Y < Y := Nat.mod_lt _ (by rw [hY]; exact Nat.mul_pos hy (Nat.two_pow_pos s))
  generalize C / Y = q0 at *
  generalize C % Y = r0 at *
  have hP := Nat.two_pow_pos s
  generalize 2 ^ s = P at *
  have e4 : N * P = (q1 * B + q0) * y * P + r0 := by
    rw [hN', ← e1, Nat.add_mul, Nat.add_assoc, hC, ← e2, hY, dv_ac, Nat.add_assoc]
  have e5 : (q1 * B + q0) * y ≤ N := by
    apply Nat.le_of_mul_le_mul_right _ hP
    omega
  obtain ⟨d, rfl⟩ : ∃ d, N = (q1 * B + q0) * y + d := ⟨N - (q1 * B + q0) * y, by omega⟩
  have e6 : d * P = r0 := by
    rw [Nat.add_mul] at e4; omega
  have e7 : d < y := by
    apply Nat.lt_of_mul_lt_mul_right (a := P)
    rw [e6, ← hY]; exact e3
  constructor
  · rw [Nat.mul_comm _ y, Nat.mul_add_div hy, Nat.div_eq_of_lt e7, Nat.add_zero]
  · rw [← e6, Nat.mul_div_cancel _ hP, Nat.mul_comm _ y, Nat.mul_add_mod, Nat.mod_eq_of_lt e7]
theorem dv_two {h l y s Y u u1 u0 : Nat} (hY : Y = y * 2 ^ s) (hy : 0 < y) (hN : (h * 18446744073709551616 + l) * 2 ^ s = u * 18446744073709551616 + u1 * 4294967296 + u0) :
    (u * 4294967296 + u1) / Y * 4294967296 + ((u * 4294967296 + u1) % Y * 4294967296 + u0) / Y = (h * 18446744073709551616 + l) / y ∧
    ((u * 4294967296 + u1) % Y * 4294967296 + u0) % Y / 2 ^ s = (h * 18446744073709551616 + l) % y := dv_two' (by decide) hY hy hN
/-- the upper word, moved -/
theorem dv_or {h l s : Nat} (hs : s < 64) (hl : l < 18446744073709551616) : h * 2 ^ s ||| l / 2 ^ (64 - s) = (h * 18446744073709551616 + l) * 2 ^ s / 18446744073709551616 := by
  have h1 : l / 2 ^ (64 - s) < 2 ^ s := by
    rw [Nat.div_lt_iff_lt_mul (Nat.two_pow_pos _), ← Nat.pow_add, show s + (64 - s) = 64 by omega]; exact hl
  rw [Nat.mul_comm, ← Nat.two_pow_add_eq_or_of_lt h1]
  have e : (18446744073709551616 : Nat) = 2 ^ (64 - s) * 2 ^ s := by rw [← Nat.pow_add, show 64 - s + s = 64 by omega]
  rw [Nat.add_mul, Nat.mul_right_comm, Nat.mul_comm (h * 2 ^ s), Nat.mul_add_div (by decide), Nat.mul_comm h]
  congr 1
  rw [e, Nat.mul_div_mul_right _ _ (Nat.two_pow_pos s)]

theorem c40_at : T1.code 40 = some c40 := by kernel_rfl
theorem c43_at : T1.code 43 = some c43 := by kernel_rfl

theorem e_shlM (q : EqT) (k : IntKind) (x j : Nat) (h : j < 64) : kBin .shl q (some (.int .u64 x)) (some (.int k j)) = some (.int .u64 (x * 2 ^ j % 18446744073709551616 : Nat)) := by
  rw [e_shift _ _ _ _ _ _ rfl]
  simp only [ishift]
  rw [if_neg (by omega)]
  have e : min (j : Int).toNat IntKind.u64.bits = j := by simp [IntKind.bits]; omega
  rw [e]
  have : (x : Int) * 2 ^ j = ((x * 2 ^ j : Nat) : Int) := by simp
  rw [this, wrapU]
theorem e_shrV (q : EqT) (k' : IntKind) (x j : Nat) (h : j ≤ 64) : kBin .shr q (some (.int .u64 x)) (some (.int k' j)) = some (.int .u64 (x / 2 ^ j : Nat)) := by
  simp only [kBin, vbin, isShift, if_true, ishift]
  rw [if_neg (by omega)]
  have : min (j : Int).toNat IntKind.u64.bits = j := by simp [IntKind.bits]; omega
  rw [this]
  congr 2
  rw [Int.fdiv_eq_ediv_of_nonneg _ (by exact Int.pow_nonneg (by omega))]
  simp
theorem e_subU (q : EqT) {x y z : Nat} (h : x % 18446744073709551616 = (z + y) % 18446744073709551616) (hz : z < 18446744073709551616) : kBin .sub q (some (.int .u64 x)) (some (.int .u64 y)) = some (.int .u64 (z : Nat)) := by
  rw [e_sub]
  congr 2
  simp only [IntKind.wrap, IntKind.bits, IntKind.signed]
  simp
  omega
theorem e_quoU (q : EqT) (x y : Nat) (hy : 0 < y) (hx : x < 18446744073709551616) : kBin .quo q (some (.int .u64 x)) (some (.int .u64 y)) = some (.int .u64 (x / y : Nat)) := by
  rw [e_quo _ _ _ _ (by omega)]
  have : (x : Int).tdiv y = ((x / y : Nat) : Int) := by
    rw [Int.tdiv_eq_ediv_of_nonneg (Int.natCast_nonneg x)]; rfl
  rw [this, wrapU, Nat.mod_eq_of_lt (Nat.lt_of_le_of_lt (Nat.div_le_self _ _) hx)]
theorem e_remU (q : EqT) (x y : Nat) (hy : 0 < y) : kBin .rem q (some (.int .u64 x)) (some (.int .u64 y)) = some (.int .u64 (x % y : Nat)) := by
  rw [e_rem _ _ _ _ (by omega)]
  have : (x : Int).tmod y = ((x % y : Nat) : Int) := by
    rw [Int.tmod_eq_emod_of_nonneg (Int.natCast_nonneg x)]; rfl
  rw [this]
theorem e_mulB (q : EqT) (x : Nat) : kBin .mul q (some (.int .u64 4294967296)) (some (.int .u64 x)) = some (.int .u64 (4294967296 * x % 18446744073709551616 : Nat)) := e_mulU q 4294967296 x
theorem e_mulBr (q : EqT) (x : Nat) : kBin .mul q (some (.int .u64 x)) (some (.int .u64 4294967296)) = some (.int .u64 (x * 4294967296 % 18446744073709551616 : Nat)) := e_mulU q x 4294967296

theorem dv_join {a b : Nat} (ha : a < 4294967296) (hb : b < 4294967296) : (a * 4294967296 % 18446744073709551616 + b) % 18446744073709551616 = a * 4294967296 + b := by omega
theorem dv_sub {w v p z : Nat} (h : p + z = w * 4294967296 + v) : (w * 4294967296 % 18446744073709551616 + v) % 18446744073709551616 % 18446744073709551616 = (z + p % 18446744073709551616) % 18446744073709551616 := by omega

/-- LeadingZeros64 -/
theorem lz_call {lf m : Nat} {σ : H} {x s : Nat} (hx : x < WW) (hs : l64 x + s = 64) : call T1 lf (m + 2) 43 [.int .u64 x] σ = .ret (.int .i64 (s : Nat)) σ := by
  have key : ∃ v σ', call T1 lf (m + 2) 43 [.int .u64 x] σ = .ret v σ' ∧ (v = .int .i64 (s : Nat) ∧ σ' = σ) := by
    refine call_rt1 (p := pk 2) rfl c43_at (by simp [c43]) rfl fun cf hcf => ?_
    generalize hτ : bindArgs [.int .u64 (x : Int)] .h .lf = τ0
    have h0 : τ0.get (pk 0) = some (.int .u64 x) := by rw [← hτ]; rfl
    clear hτ
    have k := len64_call (lf := lf) (m := m) (σ := σ) hx
    rw [← hcf] at k
    have w : IntKind.i64.wrap ((64 : Int) - ((l64 x : Nat) : Int)) = (s : Int) := by
      rw [← wrap_nat (n := s) (by omega)]; congr 1; omega
    simp only [c43, QU, oP, oR, oA, oH, oPn, oRn, oAn, oHn, bi, ld, ki, kt, kf, s_ops_nil, s_ops_cons, s_ops_nx, s_ops_pn, s_seq, s_seq_nx, s_seq_ex, s_seq_rt, s_skip, s_ret, s_exit, s_reg, s_cond, s_cond_t, s_cond_f, s_blk, s_blk_nx, s_blk_rt, s_blk_ex, s_put, s_P, s_R, s_A, s_A_some, s_C_ret, s_C_pan, s_H, s_H_ok, s_H_call, s_H_pan, s_gd, s_gd_bool, s_gd_undef, e_t, e_k, e_mv, e_pick, e_pick_b, e_bin, e_add_i64, e_add_i32, e_sub_i64, e_sub_u8, e_mul_i64, e_addU, e_mulU, e_addU32, e_mulU32, e_eql, e_neq, e_lss, e_leq, e_gtr, e_geq, e_str_eql, e_str_neq, e_iaddr, e_iaddr_int, e_lens, e_ld, e_extract, e_ex0, e_ex1, e_ex2, e_lenS, e_lenS_str, e_cii, e_cii_int, e_slsl_hm, e_sl2, e_slsl_h, e_sl1, e_slis, e_evL_nil, e_evL_cons, e_cons, e_call, e_callk, e_app, e_appk, e_store, e_stk, e_next, e_nextk, e_range, e_rangek, e_bs1, e_bs1i, e_bs0, e_mksl, e_mkslk, e_AK_sl, e_AK_it, e_AK_ptr, e_not, e_notb, e_xori, e_idxs, s_Hn, s_Hnk, s_Nx, s_Rt, s_NR_nx, s_NR_rt, s_NXT_nx, s_NXT_ex, s_NXT_rt, e_lenV_sl, e_lenV_nils, get_pk, k_bind, true_and, and_true, if_true, if_false, Bool.true_eq, beq_self_eq_true, reduceIte, Bool.false_eq_true, reduceCtorEq, bne_self_eq_false, Nat.reduceAdd, Nat.reduceLeDiff, Nat.reduceEqDiff, Nat.reduceSub, Nat.reduceBEq, Int.reduceBEq, Int.reduceNeg, Int.reduceLT, Int.reduceLE, Nat.succ_ne_self, Bool.not_true, Bool.not_false, Bool.true_beq, Bool.false_beq, decide_true, decide_false, exists_eq_left', Option.some.injEq, h0, k, w]
  obtain ⟨v, _, h1, rfl, rfl⟩ := key
  exact h1

/-- Div64 -/
theorem div64_call {lf m : Nat} {σ : H} {h l y s : Nat} (hy : h < y) (hyW : y < WW) (hl : l < WW) (hs : s < 64) (hY1 : 9223372036854775808 ≤ y * 2 ^ s) (hY2 : y * 2 ^ s < WW) (hlz : l64 y + s = 64) (hlf : 35184372088832 < lf) :
    call T1 lf (m + 3) 40 [.int .u64 h, .int .u64 l, .int .u64 y] σ = .ret (.tup [.int .u64 ((h * WW + l) / y : Nat), .int .u64 ((h * WW + l) % y : Nat)]) σ := by
  have key : ∃ v u σ', call T1 lf (m + 3) 40 [.int .u64 h, .int .u64 l, .int .u64 y] σ = .ret (.tup [v, u]) σ' ∧ (v = .int .u64 ((h * WW + l) / y : Nat) ∧ u = .int .u64 ((h * WW + l) % y : Nat) ∧ σ' = σ) := by
    refine call_rt2 (p := pk 6) (q := pk 7) rfl c40_at (by simp [c40]) rfl fun cf hcf => ?_
    generalize hτ : bindArgs [.int .u64 (h : Int), .int .u64 (l : Int), .int .u64 (y : Int)] .h .lf = τ0
    have h0 : τ0.get (pk 0) = some (.int .u64 h) := by rw [← hτ]; rfl
    have h1 : τ0.get (pk 1) = some (.int .u64 l) := by rw [← hτ]; rfl
    have h2 : τ0.get (pk 2) = some (.int .u64 y) := by rw [← hτ]; rfl
    clear hτ
    have hy0 : 0 < y := by omega
    have z1 : ((y : Int) == 0) = false := by simp; omega
    have z2 : decide ((y : Int) ≤ (h : Int)) = false := by simp; omega
    by_cases hh : h = 0
    · have z3 : ((h : Int) == 0) = true := by simp; exact hh
      have qq := fun Q => e_quoU Q l y hy0 hl
      have rr := fun Q => e_remU Q l y hy0
      simp only [c40, QU, oP, oR, oA, oH, oPn, oRn, oAn, oHn, bi, ld, ki, kt, kf, s_ops_nil, s_ops_cons, s_ops_nx, s_ops_pn, s_seq, s_seq_nx, s_seq_ex, s_seq_rt, s_skip, s_ret, s_exit, s_reg, s_cond, s_cond_t, s_cond_f, s_blk, s_blk_nx, s_blk_rt, s_blk_ex, s_put, s_P, s_R, s_A, s_A_some, s_C_ret, s_C_pan, s_H, s_H_ok, s_H_call, s_H_pan, s_gd, s_gd_bool, s_gd_undef, e_t, e_k, e_mv, e_pick, e_pick_b, e_bin, e_add_i64, e_add_i32, e_sub_i64, e_sub_u8, e_mul_i64, e_addU, e_mulU, e_addU32, e_mulU32, e_eql, e_neq, e_lss, e_leq, e_gtr, e_geq, e_str_eql, e_str_neq, e_iaddr, e_iaddr_int, e_lens, e_ld, e_extract, e_ex0, e_ex1, e_ex2, e_lenS, e_lenS_str, e_cii, e_cii_int, e_slsl_hm, e_sl2, e_slsl_h, e_sl1, e_slis, e_evL_nil, e_evL_cons, e_cons, e_call, e_callk, e_app, e_appk, e_store, e_stk, e_next, e_nextk, e_range, e_rangek, e_bs1, e_bs1i, e_bs0, e_mksl, e_mkslk, e_AK_sl, e_AK_it, e_AK_ptr, e_not, e_notb, e_xori, e_idxs, s_Hn, s_Hnk, s_Nx, s_Rt, s_NR_nx, s_NR_rt, s_NXT_nx, s_NXT_ex, s_NXT_rt, e_lenV_sl, e_lenV_nils, get_pk, k_bind, true_and, and_true, if_true, if_false, Bool.true_eq, beq_self_eq_true, reduceIte, Bool.false_eq_true, reduceCtorEq, bne_self_eq_false, Nat.reduceAdd, Nat.reduceLeDiff, Nat.reduceEqDiff, Nat.reduceSub, Nat.reduceBEq, Int.reduceBEq, Int.reduceNeg, Int.reduceLT, Int.reduceLE, Nat.succ_ne_self, Bool.not_true, Bool.not_false, Bool.true_beq, Bool.false_beq, decide_true, decide_false, exists_eq_left', Option.some.injEq, w_drw, w_nil, w_0, w_3, w_0nx, w_1s, w_1nx, w_1lk, w_1ls, w_2, w_2nx, h0, h1, h2, z1, z2, z3, qq, rr, List.all_nil]
      exact ⟨_, _, rfl, rfl, by rw [hh, Nat.zero_mul, Nat.zero_add], by rw [hh, Nat.zero_mul, Nat.zero_add]⟩
    · have z3 : ((h : Int) == 0) = false := by simp; exact hh
      have kz := lz_call (lf := lf) (m := m) (σ := σ) hyW hlz
      rw [← hcf] at kz
      have ws : IntKind.u64.wrap (s : Int) = (s : Int) := by rw [wrapU, Nat.mod_eq_of_lt (by omega)]
      -- the divisor, moved
      generalize hYd : y * 2 ^ s = Y at hY1 hY2
      have hY2' : Y < 18446744073709551616 := hY2
      have sh1 : ∀ Q k, kBin .shl Q (some (.int .u64 y)) (some (.int k s)) = some (.int .u64 (Y : Nat)) := fun Q k => by
        rw [e_shlM Q k y s hs, hYd, Nat.mod_eq_of_lt hY2]
      have e32 := fun Q => e_shr32 Q .u64 Y
      have em := fun Q => e_mask Q Y hY2
      generalize hn1 : Y / 4294967296 = n1 at e32
      generalize hn0 : Y % 4294967296 = n0 at em
      have hYe : Y = n1 * 4294967296 + n0 := by omega
      have hn1a : 2147483648 ≤ n1 := by omega
      have hn1b : n1 < 4294967296 := by omega
      have hn0b : n0 < 4294967296 := by omega
      -- the dividend, moved
      have hN := dv_or (h := h) hs hl
      generalize hu : (h * 18446744073709551616 + l) * 2 ^ s / 18446744073709551616 = u at hN
      have huY : u < Y := by
        rw [← hu, Nat.div_lt_iff_lt_mul (by decide), ← hYd, Nat.mul_right_comm]
        apply Nat.mul_lt_mul_of_pos_right _ (Nat.two_pow_pos s)
        have : (h + 1) * 18446744073709551616 ≤ y * 18446744073709551616 := Nat.mul_le_mul_right _ hy
        have hl' : l < 18446744073709551616 := hl
        omega
      have hshh : h * 2 ^ s < 18446744073709551616 := by
        have : h * 2 ^ s ≤ y * 2 ^ s := Nat.mul_le_mul_right _ (Nat.le_of_lt hy)
        omega
      have sh2 : ∀ Q k, kBin .shl Q (some (.int .u64 h)) (some (.int k s)) = some (.int .u64 (h * 2 ^ s : Nat)) := fun Q k => by
        rw [e_shlM Q k h s hs, Nat.mod_eq_of_lt hshh]
      have s64 : ∀ Q, kBin .sub Q (some (.int .u64 64)) (some (.int .u64 s)) = some (.int .u64 (64 - s : Nat)) := fun Q => e_subU Q (x := 64) (by rw [Nat.sub_add_cancel (by omega)]) (by omega)
      have sh3 : ∀ Q k, kBin .shr Q (some (.int .u64 l)) (some (.int k (64 - s : Nat))) = some (.int .u64 (l / 2 ^ (64 - s) : Nat)) := fun Q k => e_shrV Q k l (64 - s) (by omega)
      have or1 : ∀ Q, kBin .or Q (some (.int .u64 (h * 2 ^ s : Nat))) (some (.int .u64 (l / 2 ^ (64 - s) : Nat))) = some (.int .u64 (u : Nat)) := fun Q => by
        rw [e_orU Q _ _ hshh (Nat.lt_of_le_of_lt (Nat.div_le_self _ _) hl), hN]
      have sh4 : ∀ Q k, kBin .shl Q (some (.int .u64 l)) (some (.int k s)) = some (.int .u64 (l * 2 ^ s % 18446744073709551616 : Nat)) := fun Q k => e_shlM Q k l s hs
      generalize hv : l * 2 ^ s % 18446744073709551616 = v at sh4
      have hvW : v < 18446744073709551616 := by rw [← hv]; exact Nat.mod_lt _ (by decide)
      have hNe : (h * 18446744073709551616 + l) * 2 ^ s = u * 18446744073709551616 + v / 4294967296 * 4294967296 + v % 4294967296 := by
        have e1 := Nat.div_add_mod ((h * 18446744073709551616 + l) * 2 ^ s) 18446744073709551616
        have e2 : (h * 18446744073709551616 + l) * 2 ^ s % 18446744073709551616 = v := by
          rw [Nat.add_mul, Nat.mul_right_comm, Nat.mul_comm (h * 2 ^ s), Nat.mul_add_mod, hv]
        rw [hu, e2] at e1
        omega
      have e32v := fun Q => e_shr32 Q .u64 v
      have emv := fun Q => e_mask Q v hvW
      generalize hu1 : v / 4294967296 = vh at *
      generalize hu0 : v % 4294967296 = vl at *
      have hu1b : vh < 4294967296 := by omega
      have hu0b : vl < 4294967296 := by omega
      have hfin := dv_two (Y := Y) hYd.symm hy0 hNe
      have q1e := fun Q => e_quoU Q u n1 (by omega) (by omega)
      have r1m : u / n1 * n1 % 18446744073709551616 = u / n1 * n1 := Nat.mod_eq_of_lt (by have := Nat.div_mul_le_self u n1; omega)
      have r1e : ∀ Q, kBin .sub Q (some (.int .u64 u)) (some (.int .u64 (u / n1 * n1 : Nat))) = some (.int .u64 (u % n1 : Nat)) := fun Q => e_subU Q (by have := Nat.div_add_mod u n1; rw [Nat.mul_comm] at this; congr 1; omega) (by have := Nat.mod_le u n1; omega)
      simp only [c40, QU, oP, oR, oA, oH, oPn, oRn, oAn, oHn, bi, ld, ki, kt, kf, s_ops_nil, s_ops_cons, s_ops_nx, s_ops_pn, s_seq, s_seq_nx, s_seq_ex, s_seq_rt, s_skip, s_ret, s_exit, s_reg, s_cond, s_cond_t, s_cond_f, s_blk, s_blk_nx, s_blk_rt, s_blk_ex, s_put, s_P, s_R, s_A, s_A_some, s_C_ret, s_C_pan, s_H, s_H_ok, s_H_call, s_H_pan, s_gd, s_gd_bool, s_gd_undef, e_t, e_k, e_mv, e_pick, e_pick_b, e_bin, e_add_i64, e_add_i32, e_sub_i64, e_sub_u8, e_mul_i64, e_addU, e_mulU, e_addU32, e_mulU32, e_eql, e_neq, e_lss, e_leq, e_gtr, e_geq, e_str_eql, e_str_neq, e_iaddr, e_iaddr_int, e_lens, e_ld, e_extract, e_ex0, e_ex1, e_ex2, e_lenS, e_lenS_str, e_cii, e_cii_int, e_slsl_hm, e_sl2, e_slsl_h, e_sl1, e_slis, e_evL_nil, e_evL_cons, e_cons, e_call, e_callk, e_app, e_appk, e_store, e_stk, e_next, e_nextk, e_range, e_rangek, e_bs1, e_bs1i, e_bs0, e_mksl, e_mkslk, e_AK_sl, e_AK_it, e_AK_ptr, e_not, e_notb, e_xori, e_idxs, s_Hn, s_Hnk, s_Nx, s_Rt, s_NR_nx, s_NR_rt, s_NXT_nx, s_NXT_ex, s_NXT_rt, e_lenV_sl, e_lenV_nils, get_pk, k_bind, true_and, and_true, if_true, if_false, Bool.true_eq, beq_self_eq_true, reduceIte, Bool.false_eq_true, reduceCtorEq, bne_self_eq_false, Nat.reduceAdd, Nat.reduceLeDiff, Nat.reduceEqDiff, Nat.reduceSub, Nat.reduceBEq, Int.reduceBEq, Int.reduceNeg, Int.reduceLT, Int.reduceLE, Nat.succ_ne_self, Bool.not_true, Bool.not_false, Bool.true_beq, Bool.false_beq, decide_true, decide_false, exists_eq_left', Option.some.injEq, h0, h1, h2, z1, z2, z3, kz, ws, sh1, e32, em, sh2, s64, sh3, or1, sh4, e32v, emv, q1e, r1m, r1e]
      refine Rt_seq (loop_rule_x
        (fun k τ σ' => ∃ q r, k = q ∧ σ' = σ ∧ τ.get (pk 2) = some (.int .u64 Y) ∧ τ.get (pk 8) = some (.int .u64 s) ∧ τ.get (pk 9) = some (.int .u64 n1) ∧ τ.get (pk 10) = some (.int .u64 n0) ∧ τ.get (pk 11) = some (.int .u64 u) ∧ τ.get (pk 13) = some (.int .u64 vh) ∧ τ.get (pk 14) = some (.int .u64 vl) ∧ τ.get (pk 15) = some (.int .u64 (q : Nat)) ∧ τ.get (pk 16) = some (.int .u64 (r : Nat)) ∧ q * n1 + r = u ∧ r < 4294967296 ∧ (u * 4294967296 + vh) / Y ≤ q ∧ q ≤ 4294967297)
        (fun τ σ' => σ' = σ ∧ τ.get (pk 2) = some (.int .u64 Y) ∧ τ.get (pk 8) = some (.int .u64 s) ∧ τ.get (pk 9) = some (.int .u64 n1) ∧ τ.get (pk 10) = some (.int .u64 n0) ∧ τ.get (pk 11) = some (.int .u64 u) ∧ τ.get (pk 13) = some (.int .u64 vh) ∧ τ.get (pk 14) = some (.int .u64 vl) ∧ τ.get (pk 15) = some (.int .u64 ((u * 4294967296 + vh) / Y : Nat)))
        ?_ (k := u / n1) ?_ ?_) ?_
      · rintro q τ σ' ⟨_, r, rfl, hσ, g2, g8, g9, g10, g11, g13, g14, gq, gr, e1, e2, e3, e4⟩
        subst hσ
        have sq : 1 ≤ q → ∀ Q, kBin .sub Q (some (.int .u64 q)) (some (.int .u64 1)) = some (.int .u64 (q - 1 : Nat)) := fun h Q => e_subU Q (y := 1) (by rw [Nat.sub_add_cancel h]) (by omega)
        have ar : (r + n1) % 18446744073709551616 = r + n1 := Nat.mod_eq_of_lt (by omega)
        have md : 4294967296 * r % 18446744073709551616 = 4294967296 * r := Nat.mod_eq_of_lt (by omega)
        have md2 : (4294967296 * r + vh) % 18446744073709551616 = 4294967296 * r + vh := Nat.mod_eq_of_lt (by omega)
        have next : (4294967296 ≤ q ∨ 4294967296 * r + vh < q * n0) → 1 ≤ q ∧ (u * 4294967296 + vh) / Y ≤ q - 1 ∧ (q - 1) * n1 + (r + n1) = u := fun hc => by
          rw [hYe] at e3 ⊢
          exact dq_step e1 (by rw [← hYe]; exact huY) hu1b e3 hc
        by_cases hq : 4294967296 ≤ q
        · have d1 : decide ((4294967296 : Int) ≤ (q : Int)) = true := by simp; omega
          obtain ⟨f1, f2, f3⟩ := next (.inl hq)
          have sq := sq f1
          by_cases hr : 4294967296 ≤ r + n1
          · have d2 : decide ((4294967296 : Int) ≤ ((r + n1 : Nat) : Int)) = true := by simp; omega
            have hQ : (u * 4294967296 + vh) / Y = q - 1 := Nat.le_antisymm f2 (by rw [hYe]; exact dq_exit (by omega) hn0b f3 (by omega) hr)
            simp only [b40_0, QU, oP, oR, oA, oH, oPn, oRn, oAn, oHn, bi, ld, ki, kt, kf, s_ops_nil, s_ops_cons, s_ops_nx, s_ops_pn, s_seq, s_seq_nx, s_seq_ex, s_seq_rt, s_skip, s_ret, s_exit, s_reg, s_cond, s_cond_t, s_cond_f, s_blk, s_blk_nx, s_blk_rt, s_blk_ex, s_put, s_P, s_R, s_A, s_A_some, s_C_ret, s_C_pan, s_H, s_H_ok, s_H_call, s_H_pan, s_gd, s_gd_bool, s_gd_undef, e_t, e_k, e_mv, e_pick, e_pick_b, e_bin, e_add_i64, e_add_i32, e_sub_i64, e_sub_u8, e_mul_i64, e_addU, e_mulU, e_addU32, e_mulU32, e_eql, e_neq, e_lss, e_leq, e_gtr, e_geq, e_str_eql, e_str_neq, e_iaddr, e_iaddr_int, e_lens, e_ld, e_extract, e_ex0, e_ex1, e_ex2, e_lenS, e_lenS_str, e_cii, e_cii_int, e_slsl_hm, e_sl2, e_slsl_h, e_sl1, e_slis, e_evL_nil, e_evL_cons, e_cons, e_call, e_callk, e_app, e_appk, e_store, e_stk, e_next, e_nextk, e_range, e_rangek, e_bs1, e_bs1i, e_bs0, e_mksl, e_mkslk, e_AK_sl, e_AK_it, e_AK_ptr, e_not, e_notb, e_xori, e_idxs, s_Hn, s_Hnk, s_Nx, s_Rt, s_NR_nx, s_NR_rt, s_NXT_nx, s_NXT_ex, s_NXT_rt, e_lenV_sl, e_lenV_nils, get_pk, k_bind, true_and, and_true, if_true, if_false, Bool.true_eq, beq_self_eq_true, reduceIte, Bool.false_eq_true, reduceCtorEq, bne_self_eq_false, Nat.reduceAdd, Nat.reduceLeDiff, Nat.reduceEqDiff, Nat.reduceSub, Nat.reduceBEq, Int.reduceBEq, Int.reduceNeg, Int.reduceLT, Int.reduceLE, Nat.succ_ne_self, Bool.not_true, Bool.not_false, Bool.true_beq, Bool.false_beq, decide_true, decide_false, exists_eq_left', Option.some.injEq, g2, g8, g9, g10, g11, g13, g14, gq, gr, d1, sq, ar, d2, hQ]
          · have d2 : decide ((4294967296 : Int) ≤ ((r + n1 : Nat) : Int)) = false := by simp; omega
            simp only [b40_0, QU, oP, oR, oA, oH, oPn, oRn, oAn, oHn, bi, ld, ki, kt, kf, s_ops_nil, s_ops_cons, s_ops_nx, s_ops_pn, s_seq, s_seq_nx, s_seq_ex, s_seq_rt, s_skip, s_ret, s_exit, s_reg, s_cond, s_cond_t, s_cond_f, s_blk, s_blk_nx, s_blk_rt, s_blk_ex, s_put, s_P, s_R, s_A, s_A_some, s_C_ret, s_C_pan, s_H, s_H_ok, s_H_call, s_H_pan, s_gd, s_gd_bool, s_gd_undef, e_t, e_k, e_mv, e_pick, e_pick_b, e_bin, e_add_i64, e_add_i32, e_sub_i64, e_sub_u8, e_mul_i64, e_addU, e_mulU, e_addU32, e_mulU32, e_eql, e_neq, e_lss, e_leq, e_gtr, e_geq, e_str_eql, e_str_neq, e_iaddr, e_iaddr_int, e_lens, e_ld, e_extract, e_ex0, e_ex1, e_ex2, e_lenS, e_lenS_str, e_cii, e_cii_int, e_slsl_hm, e_sl2, e_slsl_h, e_sl1, e_slis, e_evL_nil, e_evL_cons, e_cons, e_call, e_callk, e_app, e_appk, e_store, e_stk, e_next, e_nextk, e_range, e_rangek, e_bs1, e_bs1i, e_bs0, e_mksl, e_mkslk, e_AK_sl, e_AK_it, e_AK_ptr, e_not, e_notb, e_xori, e_idxs, s_Hn, s_Hnk, s_Nx, s_Rt, s_NR_nx, s_NR_rt, s_NXT_nx, s_NXT_ex, s_NXT_rt, e_lenV_sl, e_lenV_nils, get_pk, k_bind, true_and, and_true, if_true, if_false, Bool.true_eq, beq_self_eq_true, reduceIte, Bool.false_eq_true, reduceCtorEq, bne_self_eq_false, Nat.reduceAdd, Nat.reduceLeDiff, Nat.reduceEqDiff, Nat.reduceSub, Nat.reduceBEq, Int.reduceBEq, Int.reduceNeg, Int.reduceLT, Int.reduceLE, Nat.succ_ne_self, Bool.not_true, Bool.not_false, Bool.true_beq, Bool.false_beq, decide_true, decide_false, exists_eq_left', Option.some.injEq, g2, g8, g9, g10, g11, g13, g14, gq, gr, d1, sq, ar, d2]
            exact ⟨q - 1, by omega, q - 1, r + n1, rfl, rfl, rfl, f3, by omega, f2, by omega⟩
        · have d1 : decide ((4294967296 : Int) ≤ (q : Int)) = false := by simp; omega
          have hqn : q * n0 < 18446744073709551616 := by
            have : q * n0 ≤ 4294967295 * 4294967295 := Nat.mul_le_mul (by omega) (by omega)
            omega
          have mq : q * n0 % 18446744073709551616 = q * n0 := Nat.mod_eq_of_lt hqn
          by_cases hc : 4294967296 * r + vh < q * n0
          · have d3 : decide (((4294967296 * r + vh : Nat) : Int) < ((q * n0 : Nat) : Int)) = true := lt_true hc
            obtain ⟨f1, f2, f3⟩ := next (.inr hc)
            have sq := sq f1
            by_cases hr : 4294967296 ≤ r + n1
            · have d2 : decide ((4294967296 : Int) ≤ ((r + n1 : Nat) : Int)) = true := by simp; omega
              have hQ : (u * 4294967296 + vh) / Y = q - 1 := Nat.le_antisymm f2 (by rw [hYe]; exact dq_exit (by omega) hn0b f3 (by omega) hr)
              simp only [b40_0, QU, oP, oR, oA, oH, oPn, oRn, oAn, oHn, bi, ld, ki, kt, kf, s_ops_nil, s_ops_cons, s_ops_nx, s_ops_pn, s_seq, s_seq_nx, s_seq_ex, s_seq_rt, s_skip, s_ret, s_exit, s_reg, s_cond, s_cond_t, s_cond_f, s_blk, s_blk_nx, s_blk_rt, s_blk_ex, s_put, s_P, s_R, s_A, s_A_some, s_C_ret, s_C_pan, s_H, s_H_ok, s_H_call, s_H_pan, s_gd, s_gd_bool, s_gd_undef, e_t, e_k, e_mv, e_pick, e_pick_b, e_bin, e_add_i64, e_add_i32, e_sub_i64, e_sub_u8, e_mul_i64, e_addU, e_mulU, e_addU32, e_mulU32, e_eql, e_neq, e_lss, e_leq, e_gtr, e_geq, e_str_eql, e_str_neq, e_iaddr, e_iaddr_int, e_lens, e_ld, e_extract, e_ex0, e_ex1, e_ex2, e_lenS, e_lenS_str, e_cii, e_cii_int, e_slsl_hm, e_sl2, e_slsl_h, e_sl1, e_slis, e_evL_nil, e_evL_cons, e_cons, e_call, e_callk, e_app, e_appk, e_store, e_stk, e_next, e_nextk, e_range, e_rangek, e_bs1, e_bs1i, e_bs0, e_mksl, e_mkslk, e_AK_sl, e_AK_it, e_AK_ptr, e_not, e_notb, e_xori, e_idxs, s_Hn, s_Hnk, s_Nx, s_Rt, s_NR_nx, s_NR_rt, s_NXT_nx, s_NXT_ex, s_NXT_rt, e_lenV_sl, e_lenV_nils, get_pk, k_bind, true_and, and_true, if_true, if_false, Bool.true_eq, beq_self_eq_true, reduceIte, Bool.false_eq_true, reduceCtorEq, bne_self_eq_false, Nat.reduceAdd, Nat.reduceLeDiff, Nat.reduceEqDiff, Nat.reduceSub, Nat.reduceBEq, Int.reduceBEq, Int.reduceNeg, Int.reduceLT, Int.reduceLE, Nat.succ_ne_self, Bool.not_true, Bool.not_false, Bool.true_beq, Bool.false_beq, decide_true, decide_false, exists_eq_left', Option.some.injEq, g2, g8, g9, g10, g11, g13, g14, gq, gr, d1, mq, e_mulB, md, md2, d3, sq, ar, d2, hQ]
            · have d2 : decide ((4294967296 : Int) ≤ ((r + n1 : Nat) : Int)) = false := by simp; omega
              simp only [b40_0, QU, oP, oR, oA, oH, oPn, oRn, oAn, oHn, bi, ld, ki, kt, kf, s_ops_nil, s_ops_cons, s_ops_nx, s_ops_pn, s_seq, s_seq_nx, s_seq_ex, s_seq_rt, s_skip, s_ret, s_exit, s_reg, s_cond, s_cond_t, s_cond_f, s_blk, s_blk_nx, s_blk_rt, s_blk_ex, s_put, s_P, s_R, s_A, s_A_some, s_C_ret, s_C_pan, s_H, s_H_ok, s_H_call, s_H_pan, s_gd, s_gd_bool, s_gd_undef, e_t, e_k, e_mv, e_pick, e_pick_b, e_bin, e_add_i64, e_add_i32, e_sub_i64, e_sub_u8, e_mul_i64, e_addU, e_mulU, e_addU32, e_mulU32, e_eql, e_neq, e_lss, e_leq, e_gtr, e_geq, e_str_eql, e_str_neq, e_iaddr, e_iaddr_int, e_lens, e_ld, e_extract, e_ex0, e_ex1, e_ex2, e_lenS, e_lenS_str, e_cii, e_cii_int, e_slsl_hm, e_sl2, e_slsl_h, e_sl1, e_slis, e_evL_nil, e_evL_cons, e_cons, e_call, e_callk, e_app, e_appk, e_store, e_stk, e_next, e_nextk, e_range, e_rangek, e_bs1, e_bs1i, e_bs0, e_mksl, e_mkslk, e_AK_sl, e_AK_it, e_AK_ptr, e_not, e_notb, e_xori, e_idxs, s_Hn, s_Hnk, s_Nx, s_Rt, s_NR_nx, s_NR_rt, s_NXT_nx, s_NXT_ex, s_NXT_rt, e_lenV_sl, e_lenV_nils, get_pk, k_bind, true_and, and_true, if_true, if_false, Bool.true_eq, beq_self_eq_true, reduceIte, Bool.false_eq_true, reduceCtorEq, bne_self_eq_false, Nat.reduceAdd, Nat.reduceLeDiff, Nat.reduceEqDiff, Nat.reduceSub, Nat.reduceBEq, Int.reduceBEq, Int.reduceNeg, Int.reduceLT, Int.reduceLE, Nat.succ_ne_self, Bool.not_true, Bool.not_false, Bool.true_beq, Bool.false_beq, decide_true, decide_false, exists_eq_left', Option.some.injEq, g2, g8, g9, g10, g11, g13, g14, gq, gr, d1, mq, e_mulB, md, md2, d3, sq, ar, d2]
              exact ⟨q - 1, by omega, q - 1, r + n1, rfl, rfl, rfl, f3, by omega, f2, by omega⟩
          · have d3 : decide (((4294967296 * r + vh : Nat) : Int) < ((q * n0 : Nat) : Int)) = false := lt_false hc
            have hQ : (u * 4294967296 + vh) / Y = q := Nat.le_antisymm e3 (by rw [hYe]; exact dq_le (by omega) e1 (by omega))
            simp only [b40_0, QU, oP, oR, oA, oH, oPn, oRn, oAn, oHn, bi, ld, ki, kt, kf, s_ops_nil, s_ops_cons, s_ops_nx, s_ops_pn, s_seq, s_seq_nx, s_seq_ex, s_seq_rt, s_skip, s_ret, s_exit, s_reg, s_cond, s_cond_t, s_cond_f, s_blk, s_blk_nx, s_blk_rt, s_blk_ex, s_put, s_P, s_R, s_A, s_A_some, s_C_ret, s_C_pan, s_H, s_H_ok, s_H_call, s_H_pan, s_gd, s_gd_bool, s_gd_undef, e_t, e_k, e_mv, e_pick, e_pick_b, e_bin, e_add_i64, e_add_i32, e_sub_i64, e_sub_u8, e_mul_i64, e_addU, e_mulU, e_addU32, e_mulU32, e_eql, e_neq, e_lss, e_leq, e_gtr, e_geq, e_str_eql, e_str_neq, e_iaddr, e_iaddr_int, e_lens, e_ld, e_extract, e_ex0, e_ex1, e_ex2, e_lenS, e_lenS_str, e_cii, e_cii_int, e_slsl_hm, e_sl2, e_slsl_h, e_sl1, e_slis, e_evL_nil, e_evL_cons, e_cons, e_call, e_callk, e_app, e_appk, e_store, e_stk, e_next, e_nextk, e_range, e_rangek, e_bs1, e_bs1i, e_bs0, e_mksl, e_mkslk, e_AK_sl, e_AK_it, e_AK_ptr, e_not, e_notb, e_xori, e_idxs, s_Hn, s_Hnk, s_Nx, s_Rt, s_NR_nx, s_NR_rt, s_NXT_nx, s_NXT_ex, s_NXT_rt, e_lenV_sl, e_lenV_nils, get_pk, k_bind, true_and, and_true, if_true, if_false, Bool.true_eq, beq_self_eq_true, reduceIte, Bool.false_eq_true, reduceCtorEq, bne_self_eq_false, Nat.reduceAdd, Nat.reduceLeDiff, Nat.reduceEqDiff, Nat.reduceSub, Nat.reduceBEq, Int.reduceBEq, Int.reduceNeg, Int.reduceLT, Int.reduceLE, Nat.succ_ne_self, Bool.not_true, Bool.not_false, Bool.true_beq, Bool.false_beq, decide_true, decide_false, exists_eq_left', Option.some.injEq, g2, g8, g9, g10, g11, g13, g14, gq, gr, d1, mq, e_mulB, md, md2, d3, hQ]
      · have := (dq_ge (l := vh) hn1a (by rw [← hYe]; exact huY) hn0b hu1b).2; omega
      · have h3 := dq_ge (l := vh) hn1a (by rw [← hYe]; exact huY) hn0b hu1b
        rw [← hYe] at h3
        have h4 := Nat.div_add_mod u n1
        have h5 := Nat.mod_lt u (show 0 < n1 by omega)
        simp only [QU, oP, oR, oA, oH, oPn, oRn, oAn, oHn, bi, ld, ki, kt, kf, s_ops_nil, s_ops_cons, s_ops_nx, s_ops_pn, s_seq, s_seq_nx, s_seq_ex, s_seq_rt, s_skip, s_ret, s_exit, s_reg, s_cond, s_cond_t, s_cond_f, s_blk, s_blk_nx, s_blk_rt, s_blk_ex, s_put, s_P, s_R, s_A, s_A_some, s_C_ret, s_C_pan, s_H, s_H_ok, s_H_call, s_H_pan, s_gd, s_gd_bool, s_gd_undef, e_t, e_k, e_mv, e_pick, e_pick_b, e_bin, e_add_i64, e_add_i32, e_sub_i64, e_sub_u8, e_mul_i64, e_addU, e_mulU, e_addU32, e_mulU32, e_eql, e_neq, e_lss, e_leq, e_gtr, e_geq, e_str_eql, e_str_neq, e_iaddr, e_iaddr_int, e_lens, e_ld, e_extract, e_ex0, e_ex1, e_ex2, e_lenS, e_lenS_str, e_cii, e_cii_int, e_slsl_hm, e_sl2, e_slsl_h, e_sl1, e_slis, e_evL_nil, e_evL_cons, e_cons, e_call, e_callk, e_app, e_appk, e_store, e_stk, e_next, e_nextk, e_range, e_rangek, e_bs1, e_bs1i, e_bs0, e_mksl, e_mkslk, e_AK_sl, e_AK_it, e_AK_ptr, e_not, e_notb, e_xori, e_idxs, s_Hn, s_Hnk, s_Nx, s_Rt, s_NR_nx, s_NR_rt, s_NXT_nx, s_NXT_ex, s_NXT_rt, e_lenV_sl, e_lenV_nils, get_pk, k_bind, true_and, and_true, if_true, if_false, Bool.true_eq, beq_self_eq_true, reduceIte, Bool.false_eq_true, reduceCtorEq, bne_self_eq_false, Nat.reduceAdd, Nat.reduceLeDiff, Nat.reduceEqDiff, Nat.reduceSub, Nat.reduceBEq, Int.reduceBEq, Int.reduceNeg, Int.reduceLT, Int.reduceLE, Nat.succ_ne_self, Bool.not_true, Bool.not_false, Bool.true_beq, Bool.false_beq, decide_true, decide_false, exists_eq_left', Option.some.injEq, h0, h1, h2]
        exact ⟨_, _, rfl, rfl, rfl, by rw [Nat.mul_comm]; exact h4, by omega, h3.1, h3.2⟩
      · rintro τ σ' ⟨hσ, g2, g8, g9, g10, g11, g13, g14, g15⟩
        rw [hσ]
        obtain ⟨w, hw⟩ : ∃ w, (u * 4294967296 + vh) % Y = w := ⟨_, rfl⟩
        rw [hw] at hfin
        have hwY : w < Y := by rw [← hw]; exact Nat.mod_lt _ (by omega)
        have hdm := Nat.div_add_mod (u * 4294967296 + vh) Y
        rw [hw] at hdm
        have s21 : ∀ Q, kBin .sub Q (some (.int .u64 ((u * 4294967296 % 18446744073709551616 + vh) % 18446744073709551616 : Nat))) (some (.int .u64 ((u * 4294967296 + vh) / Y * Y % 18446744073709551616 : Nat))) = some (.int .u64 (w : Nat)) := fun Q => e_subU Q (by
          rw [Nat.mul_comm Y] at hdm
          generalize (u * 4294967296 + vh) / Y * Y = z at *
          omega) (by omega)
        have q0e := fun Q => e_quoU Q w n1 (by omega) (by omega)
        have r0m : w / n1 * n1 % 18446744073709551616 = w / n1 * n1 := Nat.mod_eq_of_lt (by have := Nat.div_mul_le_self w n1; omega)
        have r0e : ∀ Q, kBin .sub Q (some (.int .u64 w)) (some (.int .u64 (w / n1 * n1 : Nat))) = some (.int .u64 (w % n1 : Nat)) := fun Q => e_subU Q (by have := Nat.div_add_mod w n1; rw [Nat.mul_comm] at this; congr 1; omega) (by have := Nat.mod_le w n1; omega)
        simp only [QU, oP, oR, oA, oH, oPn, oRn, oAn, oHn, bi, ld, ki, kt, kf, s_ops_nil, s_ops_cons, s_ops_nx, s_ops_pn, s_seq, s_seq_nx, s_seq_ex, s_seq_rt, s_skip, s_ret, s_exit, s_reg, s_cond, s_cond_t, s_cond_f, s_blk, s_blk_nx, s_blk_rt, s_blk_ex, s_put, s_P, s_R, s_A, s_A_some, s_C_ret, s_C_pan, s_H, s_H_ok, s_H_call, s_H_pan, s_gd, s_gd_bool, s_gd_undef, e_t, e_k, e_mv, e_pick, e_pick_b, e_bin, e_add_i64, e_add_i32, e_sub_i64, e_sub_u8, e_mul_i64, e_addU, e_mulU, e_addU32, e_mulU32, e_eql, e_neq, e_lss, e_leq, e_gtr, e_geq, e_str_eql, e_str_neq, e_iaddr, e_iaddr_int, e_lens, e_ld, e_extract, e_ex0, e_ex1, e_ex2, e_lenS, e_lenS_str, e_cii, e_cii_int, e_slsl_hm, e_sl2, e_slsl_h, e_sl1, e_slis, e_evL_nil, e_evL_cons, e_cons, e_call, e_callk, e_app, e_appk, e_store, e_stk, e_next, e_nextk, e_range, e_rangek, e_bs1, e_bs1i, e_bs0, e_mksl, e_mkslk, e_AK_sl, e_AK_it, e_AK_ptr, e_not, e_notb, e_xori, e_idxs, s_Hn, s_Hnk, s_Nx, s_Rt, s_NR_nx, s_NR_rt, s_NXT_nx, s_NXT_ex, s_NXT_rt, e_lenV_sl, e_lenV_nils, get_pk, k_bind, true_and, and_true, if_true, if_false, Bool.true_eq, beq_self_eq_true, reduceIte, Bool.false_eq_true, reduceCtorEq, bne_self_eq_false, Nat.reduceAdd, Nat.reduceLeDiff, Nat.reduceEqDiff, Nat.reduceSub, Nat.reduceBEq, Int.reduceBEq, Int.reduceNeg, Int.reduceLT, Int.reduceLE, Nat.succ_ne_self, Bool.not_true, Bool.not_false, Bool.true_beq, Bool.false_beq, decide_true, decide_false, exists_eq_left', Option.some.injEq, g2, g8, g9, g10, g11, g13, g14, g15, e_mulBr, s21, q0e, r0m, r0e]
        refine Rt_seq (loop_rule_x
          (fun k τ σ' => ∃ q r, k = q ∧ σ' = σ ∧ τ.get (pk 2) = some (.int .u64 Y) ∧ τ.get (pk 8) = some (.int .u64 s) ∧ τ.get (pk 9) = some (.int .u64 n1) ∧ τ.get (pk 10) = some (.int .u64 n0) ∧ τ.get (pk 14) = some (.int .u64 vl) ∧ τ.get (pk 15) = some (.int .u64 ((u * 4294967296 + vh) / Y : Nat)) ∧ τ.get (pk 17) = some (.int .u64 w) ∧ τ.get (pk 18) = some (.int .u64 (q : Nat)) ∧ τ.get (pk 16) = some (.int .u64 (r : Nat)) ∧ q * n1 + r = w ∧ r < 4294967296 ∧ (w * 4294967296 + vl) / Y ≤ q ∧ q ≤ 4294967297)
          (fun τ σ' => σ' = σ ∧ τ.get (pk 2) = some (.int .u64 Y) ∧ τ.get (pk 8) = some (.int .u64 s) ∧ τ.get (pk 9) = some (.int .u64 n1) ∧ τ.get (pk 10) = some (.int .u64 n0) ∧ τ.get (pk 14) = some (.int .u64 vl) ∧ τ.get (pk 15) = some (.int .u64 ((u * 4294967296 + vh) / Y : Nat)) ∧ τ.get (pk 17) = some (.int .u64 w) ∧ τ.get (pk 18) = some (.int .u64 ((w * 4294967296 + vl) / Y : Nat)))
          ?_ (k := w / n1) ?_ ?_) ?_
        · rintro q τ σ' ⟨_, r, rfl, hσ, g2, g8, g9, g10, g14, g15, g17, gq, gr, e1, e2, e3, e4⟩
          subst hσ
          have sq : 1 ≤ q → ∀ Q, kBin .sub Q (some (.int .u64 q)) (some (.int .u64 1)) = some (.int .u64 (q - 1 : Nat)) := fun h Q => e_subU Q (y := 1) (by rw [Nat.sub_add_cancel h]) (by omega)
          have ar : (r + n1) % 18446744073709551616 = r + n1 := Nat.mod_eq_of_lt (by omega)
          have md : 4294967296 * r % 18446744073709551616 = 4294967296 * r := Nat.mod_eq_of_lt (by omega)
          have md2 : (4294967296 * r + vl) % 18446744073709551616 = 4294967296 * r + vl := Nat.mod_eq_of_lt (by omega)
          have next : (4294967296 ≤ q ∨ 4294967296 * r + vl < q * n0) → 1 ≤ q ∧ (w * 4294967296 + vl) / Y ≤ q - 1 ∧ (q - 1) * n1 + (r + n1) = w := fun hc => by
            rw [hYe] at e3 ⊢
            exact dq_step e1 (by rw [← hYe]; exact hwY) hu0b e3 hc
          by_cases hq : 4294967296 ≤ q
          · have d1 : decide ((4294967296 : Int) ≤ (q : Int)) = true := by simp; omega
            obtain ⟨f1, f2, f3⟩ := next (.inl hq)
            have sq := sq f1
            by_cases hr : 4294967296 ≤ r + n1
            · have d2 : decide ((4294967296 : Int) ≤ ((r + n1 : Nat) : Int)) = true := by simp; omega
              have hQ : (w * 4294967296 + vl) / Y = q - 1 := Nat.le_antisymm f2 (by rw [hYe]; exact dq_exit (by omega) hn0b f3 (by omega) hr)
              simp only [b40_1, QU, oP, oR, oA, oH, oPn, oRn, oAn, oHn, bi, ld, ki, kt, kf, s_ops_nil, s_ops_cons, s_ops_nx, s_ops_pn, s_seq, s_seq_nx, s_seq_ex, s_seq_rt, s_skip, s_ret, s_exit, s_reg, s_cond, s_cond_t, s_cond_f, s_blk, s_blk_nx, s_blk_rt, s_blk_ex, s_put, s_P, s_R, s_A, s_A_some, s_C_ret, s_C_pan, s_H, s_H_ok, s_H_call, s_H_pan, s_gd, s_gd_bool, s_gd_undef, e_t, e_k, e_mv, e_pick, e_pick_b, e_bin, e_add_i64, e_add_i32, e_sub_i64, e_sub_u8, e_mul_i64, e_addU, e_mulU, e_addU32, e_mulU32, e_eql, e_neq, e_lss, e_leq, e_gtr, e_geq, e_str_eql, e_str_neq, e_iaddr, e_iaddr_int, e_lens, e_ld, e_extract, e_ex0, e_ex1, e_ex2, e_lenS, e_lenS_str, e_cii, e_cii_int, e_slsl_hm, e_sl2, e_slsl_h, e_sl1, e_slis, e_evL_nil, e_evL_cons, e_cons, e_call, e_callk, e_app, e_appk, e_store, e_stk, e_next, e_nextk, e_range, e_rangek, e_bs1, e_bs1i, e_bs0, e_mksl, e_mkslk, e_AK_sl, e_AK_it, e_AK_ptr, e_not, e_notb, e_xori, e_idxs, s_Hn, s_Hnk, s_Nx, s_Rt, s_NR_nx, s_NR_rt, s_NXT_nx, s_NXT_ex, s_NXT_rt, e_lenV_sl, e_lenV_nils, get_pk, k_bind, true_and, and_true, if_true, if_false, Bool.true_eq, beq_self_eq_true, reduceIte, Bool.false_eq_true, reduceCtorEq, bne_self_eq_false, Nat.reduceAdd, Nat.reduceLeDiff, Nat.reduceEqDiff, Nat.reduceSub, Nat.reduceBEq, Int.reduceBEq, Int.reduceNeg, Int.reduceLT, Int.reduceLE, Nat.succ_ne_self, Bool.not_true, Bool.not_false, Bool.true_beq, Bool.false_beq, decide_true, decide_false, exists_eq_left', Option.some.injEq, g2, g8, g9, g10, g14, g15, g17, gq, gr, d1, sq, ar, d2, hQ]
            · have d2 : decide ((4294967296 : Int) ≤ ((r + n1 : Nat) : Int)) = false := by simp; omega
              simp only [b40_1, QU, oP, oR, oA, oH, oPn, oRn, oAn, oHn, bi, ld, ki, kt, kf, s_ops_nil, s_ops_cons, s_ops_nx, s_ops_pn, s_seq, s_seq_nx, s_seq_ex, s_seq_rt, s_skip, s_ret, s_exit, s_reg, s_cond, s_cond_t, s_cond_f, s_blk, s_blk_nx, s_blk_rt, s_blk_ex, s_put, s_P, s_R, s_A, s_A_some, s_C_ret, s_C_pan, s_H, s_H_ok, s_H_call, s_H_pan, s_gd, s_gd_bool, s_gd_undef, e_t, e_k, e_mv, e_pick, e_pick_b, e_bin, e_add_i64, e_add_i32, e_sub_i64, e_sub_u8, e_mul_i64, e_addU, e_mulU, e_addU32, e_mulU32, e_eql, e_neq, e_lss, e_leq, e_gtr, e_geq, e_str_eql, e_str_neq, e_iaddr, e_iaddr_int, e_lens, e_ld, e_extract, e_ex0, e_ex1, e_ex2, e_lenS, e_lenS_str, e_cii, e_cii_int, e_slsl_hm, e_sl2, e_slsl_h, e_sl1, e_slis, e_evL_nil, e_evL_cons, e_cons, e_call, e_callk, e_app, e_appk, e_store, e_stk, e_next, e_nextk, e_range, e_rangek, e_bs1, e_bs1i, e_bs0, e_mksl, e_mkslk, e_AK_sl, e_AK_it, e_AK_ptr, e_not, e_notb, e_xori, e_idxs, s_Hn, s_Hnk, s_Nx, s_Rt, s_NR_nx, s_NR_rt, s_NXT_nx, s_NXT_ex, s_NXT_rt, e_lenV_sl, e_lenV_nils, get_pk, k_bind, true_and, and_true, if_true, if_false, Bool.true_eq, beq_self_eq_true, reduceIte, Bool.false_eq_true, reduceCtorEq, bne_self_eq_false, Nat.reduceAdd, Nat.reduceLeDiff, Nat.reduceEqDiff, Nat.reduceSub, Nat.reduceBEq, Int.reduceBEq, Int.reduceNeg, Int.reduceLT, Int.reduceLE, Nat.succ_ne_self, Bool.not_true, Bool.not_false, Bool.true_beq, Bool.false_beq, decide_true, decide_false, exists_eq_left', Option.some.injEq, g2, g8, g9, g10, g14, g15, g17, gq, gr, d1, sq, ar, d2]
              exact ⟨q - 1, by omega, q - 1, r + n1, rfl, rfl, rfl, f3, by omega, f2, by omega⟩
          · have d1 : decide ((4294967296 : Int) ≤ (q : Int)) = false := by simp; omega
            have hqn : q * n0 < 18446744073709551616 := by
              have : q * n0 ≤ 4294967295 * 4294967295 := Nat.mul_le_mul (by omega) (by omega)
              omega
            have mq : q * n0 % 18446744073709551616 = q * n0 := Nat.mod_eq_of_lt hqn
            by_cases hc : 4294967296 * r + vl < q * n0
            · have d3 : decide (((4294967296 * r + vl : Nat) : Int) < ((q * n0 : Nat) : Int)) = true := lt_true hc
              obtain ⟨f1, f2, f3⟩ := next (.inr hc)
              have sq := sq f1
              by_cases hr : 4294967296 ≤ r + n1
              · have d2 : decide ((4294967296 : Int) ≤ ((r + n1 : Nat) : Int)) = true := by simp; omega
                have hQ : (w * 4294967296 + vl) / Y = q - 1 := Nat.le_antisymm f2 (by rw [hYe]; exact dq_exit (by omega) hn0b f3 (by omega) hr)
                simp only [b40_1, QU, oP, oR, oA, oH, oPn, oRn, oAn, oHn, bi, ld, ki, kt, kf, s_ops_nil, s_ops_cons, s_ops_nx, s_ops_pn, s_seq, s_seq_nx, s_seq_ex, s_seq_rt, s_skip, s_ret, s_exit, s_reg, s_cond, s_cond_t, s_cond_f, s_blk, s_blk_nx, s_blk_rt, s_blk_ex, s_put, s_P, s_R, s_A, s_A_some, s_C_ret, s_C_pan, s_H, s_H_ok, s_H_call, s_H_pan, s_gd, s_gd_bool, s_gd_undef, e_t, e_k, e_mv, e_pick, e_pick_b, e_bin, e_add_i64, e_add_i32, e_sub_i64, e_sub_u8, e_mul_i64, e_addU, e_mulU, e_addU32, e_mulU32, e_eql, e_neq, e_lss, e_leq, e_gtr, e_geq, e_str_eql, e_str_neq, e_iaddr, e_iaddr_int, e_lens, e_ld, e_extract, e_ex0, e_ex1, e_ex2, e_lenS, e_lenS_str, e_cii, e_cii_int, e_slsl_hm, e_sl2, e_slsl_h, e_sl1, e_slis, e_evL_nil, e_evL_cons, e_cons, e_call, e_callk, e_app, e_appk, e_store, e_stk, e_next, e_nextk, e_range, e_rangek, e_bs1, e_bs1i, e_bs0, e_mksl, e_mkslk, e_AK_sl, e_AK_it, e_AK_ptr, e_not, e_notb, e_xori, e_idxs, s_Hn, s_Hnk, s_Nx, s_Rt, s_NR_nx, s_NR_rt, s_NXT_nx, s_NXT_ex, s_NXT_rt, e_lenV_sl, e_lenV_nils, get_pk, k_bind, true_and, and_true, if_true, if_false, Bool.true_eq, beq_self_eq_true, reduceIte, Bool.false_eq_true, reduceCtorEq, bne_self_eq_false, Nat.reduceAdd, Nat.reduceLeDiff, Nat.reduceEqDiff, Nat.reduceSub, Nat.reduceBEq, Int.reduceBEq, Int.reduceNeg, Int.reduceLT, Int.reduceLE, Nat.succ_ne_self, Bool.not_true, Bool.not_false, Bool.true_beq, Bool.false_beq, decide_true, decide_false, exists_eq_left', Option.some.injEq, g2, g8, g9, g10, g14, g15, g17, gq, gr, d1, mq, e_mulB, md, md2, d3, sq, ar, d2, hQ]
              · have d2 : decide ((4294967296 : Int) ≤ ((r + n1 : Nat) : Int)) = false := by simp; omega
                simp only [b40_1, QU, oP, oR, oA, oH, oPn, oRn, oAn, oHn, bi, ld, ki, kt, kf, s_ops_nil, s_ops_cons, s_ops_nx, s_ops_pn, s_seq, s_seq_nx, s_seq_ex, s_seq_rt, s_skip, s_ret, s_exit, s_reg, s_cond, s_cond_t, s_cond_f, s_blk, s_blk_nx, s_blk_rt, s_blk_ex, s_put, s_P, s_R, s_A, s_A_some, s_C_ret, s_C_pan, s_H, s_H_ok, s_H_call, s_H_pan, s_gd, s_gd_bool, s_gd_undef, e_t, e_k, e_mv, e_pick, e_pick_b, e_bin, e_add_i64, e_add_i32, e_sub_i64, e_sub_u8, e_mul_i64, e_addU, e_mulU, e_addU32, e_mulU32, e_eql, e_neq, e_lss, e_leq, e_gtr, e_geq, e_str_eql, e_str_neq, e_iaddr, e_iaddr_int, e_lens, e_ld, e_extract, e_ex0, e_ex1, e_ex2, e_lenS, e_lenS_str, e_cii, e_cii_int, e_slsl_hm, e_sl2, e_slsl_h, e_sl1, e_slis, e_evL_nil, e_evL_cons, e_cons, e_call, e_callk, e_app, e_appk, e_store, e_stk, e_next, e_nextk, e_range, e_rangek, e_bs1, e_bs1i, e_bs0, e_mksl, e_mkslk, e_AK_sl, e_AK_it, e_AK_ptr, e_not, e_notb, e_xori, e_idxs, s_Hn, s_Hnk, s_Nx, s_Rt, s_NR_nx, s_NR_rt, s_NXT_nx, s_NXT_ex, s_NXT_rt, e_lenV_sl, e_lenV_nils, get_pk, k_bind, true_and, and_true, if_true, if_false, Bool.true_eq, beq_self_eq_true, reduceIte, Bool.false_eq_true, reduceCtorEq, bne_self_eq_false, Nat.reduceAdd, Nat.reduceLeDiff, Nat.reduceEqDiff, Nat.reduceSub, Nat.reduceBEq, Int.reduceBEq, Int.reduceNeg, Int.reduceLT, Int.reduceLE, Nat.succ_ne_self, Bool.not_true, Bool.not_false, Bool.true_beq, Bool.false_beq, decide_true, decide_false, exists_eq_left', Option.some.injEq, g2, g8, g9, g10, g14, g15, g17, gq, gr, d1, mq, e_mulB, md, md2, d3, sq, ar, d2]
                exact ⟨q - 1, by omega, q - 1, r + n1, rfl, rfl, rfl, f3, by omega, f2, by omega⟩
            · have d3 : decide (((4294967296 * r + vl : Nat) : Int) < ((q * n0 : Nat) : Int)) = false := lt_false hc
              have hQ : (w * 4294967296 + vl) / Y = q := Nat.le_antisymm e3 (by rw [hYe]; exact dq_le (by omega) e1 (by omega))
              simp only [b40_1, QU, oP, oR, oA, oH, oPn, oRn, oAn, oHn, bi, ld, ki, kt, kf, s_ops_nil, s_ops_cons, s_ops_nx, s_ops_pn, s_seq, s_seq_nx, s_seq_ex, s_seq_rt, s_skip, s_ret, s_exit, s_reg, s_cond, s_cond_t, s_cond_f, s_blk, s_blk_nx, s_blk_rt, s_blk_ex, s_put, s_P, s_R, s_A, s_A_some, s_C_ret, s_C_pan, s_H, s_H_ok, s_H_call, s_H_pan, s_gd, s_gd_bool, s_gd_undef, e_t, e_k, e_mv, e_pick, e_pick_b, e_bin, e_add_i64, e_add_i32, e_sub_i64, e_sub_u8, e_mul_i64, e_addU, e_mulU, e_addU32, e_mulU32, e_eql, e_neq, e_lss, e_leq, e_gtr, e_geq, e_str_eql, e_str_neq, e_iaddr, e_iaddr_int, e_lens, e_ld, e_extract, e_ex0, e_ex1, e_ex2, e_lenS, e_lenS_str, e_cii, e_cii_int, e_slsl_hm, e_sl2, e_slsl_h, e_sl1, e_slis, e_evL_nil, e_evL_cons, e_cons, e_call, e_callk, e_app, e_appk, e_store, e_stk, e_next, e_nextk, e_range, e_rangek, e_bs1, e_bs1i, e_bs0, e_mksl, e_mkslk, e_AK_sl, e_AK_it, e_AK_ptr, e_not, e_notb, e_xori, e_idxs, s_Hn, s_Hnk, s_Nx, s_Rt, s_NR_nx, s_NR_rt, s_NXT_nx, s_NXT_ex, s_NXT_rt, e_lenV_sl, e_lenV_nils, get_pk, k_bind, true_and, and_true, if_true, if_false, Bool.true_eq, beq_self_eq_true, reduceIte, Bool.false_eq_true, reduceCtorEq, bne_self_eq_false, Nat.reduceAdd, Nat.reduceLeDiff, Nat.reduceEqDiff, Nat.reduceSub, Nat.reduceBEq, Int.reduceBEq, Int.reduceNeg, Int.reduceLT, Int.reduceLE, Nat.succ_ne_self, Bool.not_true, Bool.not_false, Bool.true_beq, Bool.false_beq, decide_true, decide_false, exists_eq_left', Option.some.injEq, g2, g8, g9, g10, g14, g15, g17, gq, gr, d1, mq, e_mulB, md, md2, d3, hQ]
        · have := (dq_ge (l := vl) hn1a (by rw [← hYe]; exact hwY) hn0b hu0b).2; omega
        · have h3 := dq_ge (l := vl) hn1a (by rw [← hYe]; exact hwY) hn0b hu0b
          rw [← hYe] at h3
          have h4 := Nat.div_add_mod w n1
          have h5 := Nat.mod_lt w (show 0 < n1 by omega)
          simp only [QU, oP, oR, oA, oH, oPn, oRn, oAn, oHn, bi, ld, ki, kt, kf, s_ops_nil, s_ops_cons, s_ops_nx, s_ops_pn, s_seq, s_seq_nx, s_seq_ex, s_seq_rt, s_skip, s_ret, s_exit, s_reg, s_cond, s_cond_t, s_cond_f, s_blk, s_blk_nx, s_blk_rt, s_blk_ex, s_put, s_P, s_R, s_A, s_A_some, s_C_ret, s_C_pan, s_H, s_H_ok, s_H_call, s_H_pan, s_gd, s_gd_bool, s_gd_undef, e_t, e_k, e_mv, e_pick, e_pick_b, e_bin, e_add_i64, e_add_i32, e_sub_i64, e_sub_u8, e_mul_i64, e_addU, e_mulU, e_addU32, e_mulU32, e_eql, e_neq, e_lss, e_leq, e_gtr, e_geq, e_str_eql, e_str_neq, e_iaddr, e_iaddr_int, e_lens, e_ld, e_extract, e_ex0, e_ex1, e_ex2, e_lenS, e_lenS_str, e_cii, e_cii_int, e_slsl_hm, e_sl2, e_slsl_h, e_sl1, e_slis, e_evL_nil, e_evL_cons, e_cons, e_call, e_callk, e_app, e_appk, e_store, e_stk, e_next, e_nextk, e_range, e_rangek, e_bs1, e_bs1i, e_bs0, e_mksl, e_mkslk, e_AK_sl, e_AK_it, e_AK_ptr, e_not, e_notb, e_xori, e_idxs, s_Hn, s_Hnk, s_Nx, s_Rt, s_NR_nx, s_NR_rt, s_NXT_nx, s_NXT_ex, s_NXT_rt, e_lenV_sl, e_lenV_nils, get_pk, k_bind, true_and, and_true, if_true, if_false, Bool.true_eq, beq_self_eq_true, reduceIte, Bool.false_eq_true, reduceCtorEq, bne_self_eq_false, Nat.reduceAdd, Nat.reduceLeDiff, Nat.reduceEqDiff, Nat.reduceSub, Nat.reduceBEq, Int.reduceBEq, Int.reduceNeg, Int.reduceLT, Int.reduceLE, Nat.succ_ne_self, Bool.not_true, Bool.not_false, Bool.true_beq, Bool.false_beq, decide_true, decide_false, exists_eq_left', Option.some.injEq, g2, g8, g9, g10, g11, g13, g14, g15]
          exact ⟨_, _, rfl, rfl, rfl, by rw [Nat.mul_comm]; exact h4, by omega, h3.1, h3.2⟩
        · rintro τ σ' ⟨hσ, g2, g8, g9, g10, g14, g15, g17⟩
          rw [hσ]
          have hq1 := dq_lt huY hu1b
          have hq0 := dq_lt hwY hu0b
          have hdm0 := Nat.div_add_mod (w * 4294967296 + vl) Y
          have hr0 := Nat.mod_lt (w * 4294967296 + vl) (show 0 < Y by omega)
          have f1 := dv_join hq1 hq0
          have s0 : ∀ Q, kBin .sub Q (some (.int .u64 ((w * 4294967296 % 18446744073709551616 + vl) % 18446744073709551616 : Nat))) (some (.int .u64 ((w * 4294967296 + vl) / Y * Y % 18446744073709551616 : Nat))) = some (.int .u64 ((w * 4294967296 + vl) % Y : Nat)) := fun Q => e_subU Q (dv_sub (by rw [Nat.mul_comm]; exact hdm0)) (by omega)
          have shf : ∀ Q k (z : Nat), kBin .shr Q (some (.int .u64 z)) (some (.int k s)) = some (.int .u64 (z / 2 ^ s : Nat)) := fun Q k z => e_shrV Q k z s (by omega)
          simp only [QU, oP, oR, oA, oH, oPn, oRn, oAn, oHn, bi, ld, ki, kt, kf, s_ops_nil, s_ops_cons, s_ops_nx, s_ops_pn, s_seq, s_seq_nx, s_seq_ex, s_seq_rt, s_skip, s_ret, s_exit, s_reg, s_cond, s_cond_t, s_cond_f, s_blk, s_blk_nx, s_blk_rt, s_blk_ex, s_put, s_P, s_R, s_A, s_A_some, s_C_ret, s_C_pan, s_H, s_H_ok, s_H_call, s_H_pan, s_gd, s_gd_bool, s_gd_undef, e_t, e_k, e_mv, e_pick, e_pick_b, e_bin, e_add_i64, e_add_i32, e_sub_i64, e_sub_u8, e_mul_i64, e_addU, e_mulU, e_addU32, e_mulU32, e_eql, e_neq, e_lss, e_leq, e_gtr, e_geq, e_str_eql, e_str_neq, e_iaddr, e_iaddr_int, e_lens, e_ld, e_extract, e_ex0, e_ex1, e_ex2, e_lenS, e_lenS_str, e_cii, e_cii_int, e_slsl_hm, e_sl2, e_slsl_h, e_sl1, e_slis, e_evL_nil, e_evL_cons, e_cons, e_call, e_callk, e_app, e_appk, e_store, e_stk, e_next, e_nextk, e_range, e_rangek, e_bs1, e_bs1i, e_bs0, e_mksl, e_mkslk, e_AK_sl, e_AK_it, e_AK_ptr, e_not, e_notb, e_xori, e_idxs, s_Hn, s_Hnk, s_Nx, s_Rt, s_NR_nx, s_NR_rt, s_NXT_nx, s_NXT_ex, s_NXT_rt, e_lenV_sl, e_lenV_nils, get_pk, k_bind, true_and, and_true, if_true, if_false, Bool.true_eq, beq_self_eq_true, reduceIte, Bool.false_eq_true, reduceCtorEq, bne_self_eq_false, Nat.reduceAdd, Nat.reduceLeDiff, Nat.reduceEqDiff, Nat.reduceSub, Nat.reduceBEq, Int.reduceBEq, Int.reduceNeg, Int.reduceLT, Int.reduceLE, Nat.succ_ne_self, Bool.not_true, Bool.not_false, Bool.true_beq, Bool.false_beq, decide_true, decide_false, exists_eq_left', Option.some.injEq, g2, g8, g9, g10, g14, g15, g17, e_mulBr, s0, f1, shf]
          exact ⟨_, _, rfl, rfl, by rw [hfin.1], by rw [hfin.2]⟩
  obtain ⟨v, u, _, h1, rfl, rfl, rfl⟩ := key
  exact h1
/-- .. by 2^32 -/
theorem div64_32 {lf m : Nat} {σ : H} {h l : Nat} (hy : h < 4294967296) (hl : l < WW) (hlf : 35184372088832 < lf) :
    call T1 lf (m + 3) 40 [.int .u64 h, .int .u64 l, .int .u64 (4294967296 : Nat)] σ = .ret (.tup [.int .u64 ((h * WW + l) / 4294967296 : Nat), .int .u64 ((h * WW + l) % 4294967296 : Nat)]) σ :=
  div64_call (s := 31) hy (by decide) hl (by decide) (by decide) (by decide) (by decide) hlf
/-- .. by 10^19 -/
theorem div64_10 {lf m : Nat} {σ : H} {h l : Nat} (hy : h < 10000000000000000000) (hl : l < WW) (hlf : 35184372088832 < lf) :
    call T1 lf (m + 3) 40 [.int .u64 h, .int .u64 l, .int .u64 (10000000000000000000 : Nat)] σ = .ret (.tup [.int .u64 ((h * WW + l) / 10000000000000000000 : Nat), .int .u64 ((h * WW + l) % 10000000000000000000 : Nat)]) σ :=
  div64_call (s := 0) hy (by decide) hl (by decide) (by decide) (by decide) (by decide) hlf
end Go.Proofs.YtplaefbblpiehaaEng

namespace Go.Proofs.YtplaefbblpiehaaEng
open Go
set_option maxRecDepth 100000
set_option linter.unusedSimpArgs false

/- a number by one word, from the top -/
def sg (d : Nat) : List Nat → List Nat × Nat
  | [] => ([], 0)
  | x :: L => (((sg d L).2 * WW + x) / d :: (sg d L).1, ((sg d L).2 * WW + x) % d)
theorem sg_len (d : Nat) : ∀ L, (sg d L).1.length = L.length
  | [] => rfl
  | x :: L => by simp [sg, sg_len d L]
theorem sg_lt {d : Nat} (hd : 0 < d) : ∀ L, (sg d L).2 < d
  | [] => hd
  | _ :: _ => Nat.mod_lt _ hd
theorem sg_val {d : Nat} : ∀ L, val (sg d L).1 * d + (sg d L).2 = val L
  | [] => by simp [sg, val]
  | x :: L => by
    have ih := sg_val (d := d) L
    show (((sg d L).2 * WW + x) / d + WW * val (sg d L).1) * d + ((sg d L).2 * WW + x) % d = x + WW * val L
    rw [← ih]
    have h := Nat.div_add_mod ((sg d L).2 * WW + x) d
    generalize ((sg d L).2 * WW + x) / d = q at *
    generalize ((sg d L).2 * WW + x) % d = r at *
    generalize val (sg d L).1 = v at *
    generalize (sg d L).2 = w at *
    rw [Nat.add_mul, Nat.mul_assoc, Nat.mul_add, Nat.mul_comm q d]
    rw [Nat.mul_comm w] at h
    omega
theorem sg_div {d : Nat} (hd : 0 < d) (L : List Nat) : val (sg d L).1 = val L / d ∧ (sg d L).2 = val L % d := by
  have h := sg_val (d := d) L
  have h2 := sg_lt hd L
  rw [← h, Nat.mul_comm]
  constructor
  · rw [Nat.mul_add_div hd, Nat.div_eq_of_lt h2, Nat.add_zero]
  · rw [Nat.mul_add_mod, Nat.mod_eq_of_lt h2]
theorem sg_dig {d r x : Nat} (hr : r < d) (hx : x < WW) : (r * WW + x) / d < WW := by
  have hd : 0 < d := by omega
  rw [Nat.div_lt_iff_lt_mul hd]
  have : (r + 1) * WW ≤ d * WW := Nat.mul_le_mul_right _ hr
  rw [Nat.mul_comm WW d, Nat.add_mul] at *
  omega
theorem sg_ok {d : Nat} (hd : 0 < d) : ∀ {L : List Nat}, (∀ x ∈ L, x < WW) → ∀ x ∈ (sg d L).1, x < WW
  | [], _, x, h => by cases h
  | y :: L, hL, x, h => by
    rcases List.mem_cons.1 h with rfl | h
    · exact sg_dig (sg_lt hd L) (hL y (List.mem_cons_self ..))
    · exact sg_ok hd (fun z hz => hL z (List.mem_cons_of_mem _ hz)) x h

/- digits, the lowest first -/
def dl (base N n : Nat) : List Nat := (List.range n).map fun i => dgs.getD (N / base ^ i % base) 0
theorem dl_len (base N n : Nat) : (dl base N n).length = n := by simp [dl]
theorem dl_succ (base N n : Nat) : dl base N (n + 1) = dl base N n ++ [dgs.getD (N / base ^ n % base) 0] := by
  simp [dl, List.range_succ]
theorem dl_at {base N n i : Nat} (h : i < n) : (dl base N n).getD i 0 = dgs.getD (N / base ^ i % base) 0 := by
  simp [dl, List.getD_eq_getElem?_getD, h]
theorem dl_rev {base N n i : Nat} (h : i < n) : (dl base N n).reverse.getD i 0 = dgs.getD (N / base ^ (n - 1 - i) % base) 0 := by
  rw [← dl_at (base := base) (N := N) (n := n) (i := n - 1 - i) (by omega)]
  rw [List.getD_eq_getElem?_getD, List.getElem?_reverse (by rw [dl_len]; exact h), dl_len, ← List.getD_eq_getElem?_getD]
theorem valR_dgs {base d : Nat} (hb : base ≤ 16) (hd : d < base) : valR ((dgs.getD d 0 : Nat) : Int) base = d := by
  rw [dgs_at d (by omega)]
  unfold valR
  split
  · rw [if_pos (by omega), if_pos (by omega)]; omega
  · rw [if_neg (by omega), if_pos (by omega), if_pos (by omega)]; omega
/-- the text of a number of n digits says it -/
theorem num_dl {base N n : Nat} (hb : base ≤ 16) (hb2 : 2 ≤ base) (hN : N / base ^ n = 0) : ∀ i, i ≤ n → num (dl base N n).reverse base i = N / base ^ (n - i)
  | 0, _ => by rw [Nat.sub_zero, hN]; rfl
  | i + 1, h => by
    have ih := num_dl hb hb2 hN i (by omega)
    show num (dl base N n).reverse base i * base + dg (dl base N n).reverse base i = _
    rw [ih, dg, dl_rev (by omega), valR_dgs hb (Nat.mod_lt _ (by omega))]
    have e1 : n - i = n - (i + 1) + 1 := by omega
    have e2 : n - 1 - i = n - (i + 1) := by omega
    rw [e1, e2, Nat.pow_succ, ← Nat.div_div_eq_div_mul, Int.toNat_natCast, Nat.mul_comm, Nat.div_add_mod]
theorem good_dl {base N n : Nat} (hb : base ≤ 16) (hb2 : 2 ≤ base) (h0 : 0 < n) : goodS (dl base N n).reverse base := by
  refine ⟨fun e => ?_, fun j hj => ?_⟩
  · have := dl_len base N n
    rw [← List.length_reverse, e] at this
    simp at this; omega
  · rw [List.length_reverse, dl_len] at hj
    rw [dl_rev hj, valR_dgs hb (Nat.mod_lt _ (by omega))]
    exact Int.natCast_nonneg _
/-- a zero ahead says nothing -/
theorem num_zero (s : List Nat) (base : Nat) : ∀ i, num (48 :: s) base (i + 1) = num s base i
  | 0 => by
    show 0 * base + dg (48 :: s) base 0 = 0
    have : dg (48 :: s) base 0 = 0 := by
      show (valR ((48 : Nat) : Int) base).toNat = 0
      unfold valR
      rw [if_pos (by decide)]
      split <;> rfl
    omega
  | i + 1 => by
    show num (48 :: s) base (i + 1) * base + dg (48 :: s) base (i + 1) = num s base i * base + dg s base i
    rw [num_zero s base i]; rfl
theorem good_zero {s : List Nat} {base : Nat} (hb : 2 ≤ base) (h : goodS s base) : goodS (48 :: s) base := by
  refine ⟨by simp, fun j hj => ?_⟩
  cases j with
  | zero =>
    show 0 ≤ valR ((48 : Nat) : Int) base
    unfold valR
    rw [if_pos (by decide), if_pos (by omega)]; decide
  | succ j => exact h.2 j (by simpa using hj)
/-- how many digits: as few as do -/
def isLen (base N n : Nat) : Prop := N / base ^ n = 0 ∧ ∀ m, m < n → 0 < N / base ^ m
theorem isLen_inj {base N n m : Nat} (h : isLen base N n) (h' : isLen base N m) : n = m := by
  rcases Nat.lt_trichotomy n m with h1 | h1 | h1
  · have := h'.2 n h1; have := h.1; omega
  · exact h1
  · have := h.2 m h1; have := h'.1; omega
/-- a number's text -/
def txt (base N n : Nat) : List Nat := if n = 0 then [48] else (dl base N n).reverse
theorem txt_good {base N n : Nat} (hb : base ≤ 16) (hb2 : 2 ≤ base) : goodS (txt base N n) base := by
  unfold txt
  split
  · refine ⟨by simp, fun j hj => ?_⟩
    have : j = 0 := by simpa using hj
    subst this
    show 0 ≤ valR ((48 : Nat) : Int) base
    unfold valR
    rw [if_pos (by decide), if_pos (by omega)]; decide
  · exact good_dl hb hb2 (by omega)
theorem txt_num {base N n : Nat} (hb : base ≤ 16) (hb2 : 2 ≤ base) (hN : N / base ^ n = 0) : num (txt base N n) base (txt base N n).length = N := by
  unfold txt
  split
  · rename_i h
    subst h
    rw [Nat.pow_zero, Nat.div_one] at hN
    subst hN
    show 0 * base + dg [48] base 0 = 0
    have : dg [48] base 0 = 0 := by
      show (valR ((48 : Nat) : Int) base).toNat = 0
      unfold valR
      rw [if_pos (by decide)]
      split <;> rfl
    omega
  · rw [List.length_reverse, dl_len, num_dl hb hb2 hN n (Nat.le_refl _), Nat.sub_self, Nat.pow_zero, Nat.div_one]
theorem txt_len (base N n : Nat) : (txt base N n).length ≤ n + 1 := by
  unfold txt
  split
  · simp
  · rw [List.length_reverse, dl_len]; omega
theorem dgs_lt (d : Nat) : dgs.getD d 0 < 128 := by
  have h : ∀ x ∈ dgs, x < 128 := by decide
  rw [List.getD_eq_getElem?_getD]
  cases hi : dgs[d]? with
  | none => decide
  | some x => exact h x (List.mem_of_getElem? hi)
/-- one round of digits: what is left of the number stands above what is left of the word -/
theorem dig_round {base c N0 n N R j : Nat} (hb : 2 ≤ base) (hN : N = N0 / base ^ n) (hj : j ≤ c) (hR : R = N % base ^ c) : N / base ^ c * base ^ (c - j) + R / base ^ j = N0 / base ^ (n + j) := by
  subst hN hR
  rw [Nat.pow_add, ← Nat.div_div_eq_div_mul]
  generalize N0 / base ^ n = M
  have hp : 0 < base ^ j := Nat.pow_pos (by omega)
  have e : base ^ c = base ^ (c - j) * base ^ j := by rw [← Nat.pow_add]; congr 1; omega
  have h := Nat.div_add_mod M (base ^ c)
  have e2 : ∀ q, base ^ c * q = base ^ j * (q * base ^ (c - j)) := fun q => by
    rw [e, Nat.mul_comm (base ^ (c - j)), Nat.mul_assoc, Nat.mul_comm q]
  have h2 : M = base ^ j * (M / base ^ c * base ^ (c - j)) + M % base ^ c := by rw [← e2]; exact h.symm
  have h3 : M / base ^ j = (base ^ j * (M / base ^ c * base ^ (c - j)) + M % base ^ c) / base ^ j := congrArg (· / base ^ j) h2
  rw [h3, Nat.mul_add_div hp]

theorem c27_at : T1.code 27 = some c27 := by kernel_rfl
theorem wrap_i64 {n : Int} (h : -9223372036854775808 ≤ n ∧ n < 9223372036854775808) : IntKind.i64.wrap n = n := by
  simp [IntKind.wrap, IntKind.bits, IntKind.signed]; omega
/-- Div64 divides by d -/
def DivOk (lf d : Nat) : Prop := 0 < d ∧ d < WW ∧ ∀ (m : Nat) (σ : H) (h l : Nat), h < d → l < WW →
  call T1 lf (m + 3) 40 [.int .u64 h, .int .u64 l, .int .u64 d] σ = .ret (.tup [.int .u64 ((h * WW + l) / d : Nat), .int .u64 ((h * WW + l) % d : Nat)]) σ
theorem divOk_32 {lf : Nat} (h : 35184372088832 < lf) : DivOk lf 4294967296 := ⟨by decide, by decide, fun _ _ _ _ h1 h2 => div64_32 h1 h2 h⟩
theorem divOk_10 {lf : Nat} (h : 35184372088832 < lf) : DivOk lf 10000000000000000000 := ⟨by decide, by decide, fun _ _ _ _ h1 h2 => div64_10 h1 h2 h⟩
theorem repl_len (v : V) : ∀ j, (repl [v] j).length = j
  | 0 => rfl
  | j + 1 => by
    have : repl [v] (j + 1) = v :: repl [v] j := rfl
    rw [this, List.length_cons, repl_len v j]
theorem repl_end (v : V) : ∀ j, repl [v] (j + 1) = repl [v] j ++ [v]
  | 0 => rfl
  | j + 1 => by
    have h1 : repl [v] (j + 1 + 1) = v :: repl [v] (j + 1) := rfl
    have h2 : repl [v] (j + 1) = v :: repl [v] j := rfl
    rw [h1, h2, List.cons_append, ← repl_end v j, h2]
theorem drop_getD {A : List Nat} {j : Nat} (h : j < A.length) : A.drop j = A.getD j 0 :: A.drop (j + 1) := by
  rw [List.getD_eq_getElem?_getD, List.getElem?_eq_getElem h]
  exact List.drop_eq_getElem_cons h

/-- single -/
theorem single_call {lf m : Nat} {σ : H} {a : V} {A : List Nat} {d : Nat} (ha : U σ a A) (hw : WfH σ) (hA : wok A) (hd : DivOk lf d) (hlf : A.length + 3 < lf) (hl : A.length < 17592186048512) :
    ∃ v σ', call T1 lf (m + 4) 27 [a, .int .u64 d] σ = .ret (.tup [v, .int .u64 ((sg d A).2 : Nat)]) σ' ∧ U σ' v (trimL (sg d A).1) ∧ Keep σ σ' := by
  have key : ∃ v u σ', call T1 lf (m + 4) 27 [a, .int .u64 d] σ = .ret (.tup [v, u]) σ' ∧ (u = .int .u64 ((sg d A).2 : Nat) ∧ U σ' v (trimL (sg d A).1) ∧ Keep σ σ') := by
    refine call_rt2 (p := pk 4) (q := pk 5) rfl c27_at (by simp [c27]) rfl fun cf hcf => ?_
    generalize hτ : bindArgs [a, .int .u64 (d : Int)] .h .lf = τ0
    have h0 : τ0.get (pk 0) = some a := by rw [← hτ]; rfl
    have h1 : τ0.get (pk 1) = some (.int .u64 d) := by rw [← hτ]; rfl
    clear hτ
    have mk : mkV 32 8 [.int .u64 0] (.int .i64 (A.length : Nat)) (.int .i64 (A.length : Nat)) = some (.sl A.length A.length, .cells 32 (repl [.int .u64 0] A.length) 0 0 (some 0) []) := by
      simp only [mkV]
      rw [if_pos ⟨Int.natCast_nonneg _, Int.le_refl _, by unfold mostBytes; simp; omega, by omega⟩]
      simp
    have w1 : IntKind.i64.wrap ((A.length : Int) - 1) = (A.length : Int) - 1 := wrap_i64 (by omega)
    simp only [c27, QU, oP, oR, oA, oH, oPn, oRn, oAn, oHn, bi, ld, ki, kt, kf, s_ops_nil, s_ops_cons, s_ops_nx, s_ops_pn, s_seq, s_seq_nx, s_seq_ex, s_seq_rt, s_skip, s_ret, s_exit, s_reg, s_cond, s_cond_t, s_cond_f, s_blk, s_blk_nx, s_blk_rt, s_blk_ex, s_put, s_P, s_R, s_A, s_A_some, s_C_ret, s_C_pan, s_H, s_H_ok, s_H_call, s_H_pan, s_gd, s_gd_bool, s_gd_undef, e_t, e_k, e_mv, e_pick, e_pick_b, e_bin, e_add_i64, e_add_i32, e_sub_i64, e_sub_u8, e_mul_i64, e_addU, e_mulU, e_addU32, e_mulU32, e_eql, e_neq, e_lss, e_leq, e_gtr, e_geq, e_str_eql, e_str_neq, e_iaddr, e_iaddr_int, e_lens, e_ld, e_extract, e_ex0, e_ex1, e_ex2, e_lenS, e_lenS_str, e_cii, e_cii_int, e_slsl_hm, e_sl2, e_slsl_h, e_sl1, e_slis, e_evL_nil, e_evL_cons, e_cons, e_call, e_callk, e_app, e_appk, e_store, e_stk, e_next, e_nextk, e_range, e_rangek, e_bs1, e_bs1i, e_bs0, e_mksl, e_mkslk, e_AK_sl, e_AK_it, e_AK_ptr, e_not, e_notb, e_xori, e_idxs, s_Hn, s_Hnk, s_Nx, s_Rt, s_NR_nx, s_NR_rt, s_NXT_nx, s_NXT_ex, s_NXT_rt, e_lenV_sl, e_lenV_nils, get_pk, k_bind, true_and, and_true, if_true, if_false, Bool.true_eq, beq_self_eq_true, reduceIte, Bool.false_eq_true, reduceCtorEq, bne_self_eq_false, Nat.reduceAdd, Nat.reduceLeDiff, Nat.reduceEqDiff, Nat.reduceSub, Nat.reduceBEq, Int.reduceBEq, Int.reduceNeg, Int.reduceLT, Int.reduceLE, Nat.succ_ne_self, Bool.not_true, Bool.not_false, Bool.true_beq, Bool.false_beq, decide_true, decide_false, exists_eq_left', Option.some.injEq, h0, h1, ha.len, mk, w1]
    refine Rt_seq (loop_rule_x
      (fun k τ σ' => k ≤ A.length ∧ σ'.get σ.nx = some (.cells 32 (repl [.int .u64 0] k ++ (sg d (A.drop k)).1.map wd) 0 0 (some 0) []) ∧ Keep σ σ' ∧ σ.nx.toNat < σ'.nx.toNat ∧
        τ.get (pk 0) = some a ∧ τ.get (pk 1) = some (.int .u64 d) ∧ τ.get (pk 6) = some (.sl σ.nx 0 0 A.length (some A.length) 0) ∧ τ.get (pk 7) = some (.int .u64 ((sg d (A.drop k)).2 : Nat)) ∧ τ.get (pk 8) = some (.int .i64 ((k : Int) - 1)))
      (fun τ σ' => σ'.get σ.nx = some (.cells 32 ((sg d A).1.map wd) 0 0 (some 0) []) ∧ Keep σ σ' ∧ τ.get (pk 6) = some (.sl σ.nx 0 0 A.length (some A.length) 0) ∧ τ.get (pk 7) = some (.int .u64 ((sg d A).2 : Nat)))
      ?_ (k := A.length) (by omega) ?_) ?_
    · rintro k τ σ' ⟨hk, hg, hK, hnx, g0, g1, g6, g7, g8⟩
      cases k with
      | zero =>
        have d1 : decide ((0 : Int) ≤ ((0 : Nat) : Int) - 1) = false := by decide
        simp only [b27_0, QU, oP, oR, oA, oH, oPn, oRn, oAn, oHn, bi, ld, ki, kt, kf, s_ops_nil, s_ops_cons, s_ops_nx, s_ops_pn, s_seq, s_seq_nx, s_seq_ex, s_seq_rt, s_skip, s_ret, s_exit, s_reg, s_cond, s_cond_t, s_cond_f, s_blk, s_blk_nx, s_blk_rt, s_blk_ex, s_put, s_P, s_R, s_A, s_A_some, s_C_ret, s_C_pan, s_H, s_H_ok, s_H_call, s_H_pan, s_gd, s_gd_bool, s_gd_undef, e_t, e_k, e_mv, e_pick, e_pick_b, e_bin, e_add_i64, e_add_i32, e_sub_i64, e_sub_u8, e_mul_i64, e_addU, e_mulU, e_addU32, e_mulU32, e_eql, e_neq, e_lss, e_leq, e_gtr, e_geq, e_str_eql, e_str_neq, e_iaddr, e_iaddr_int, e_lens, e_ld, e_extract, e_ex0, e_ex1, e_ex2, e_lenS, e_lenS_str, e_cii, e_cii_int, e_slsl_hm, e_sl2, e_slsl_h, e_sl1, e_slis, e_evL_nil, e_evL_cons, e_cons, e_call, e_callk, e_app, e_appk, e_store, e_stk, e_next, e_nextk, e_range, e_rangek, e_bs1, e_bs1i, e_bs0, e_mksl, e_mkslk, e_AK_sl, e_AK_it, e_AK_ptr, e_not, e_notb, e_xori, e_idxs, s_Hn, s_Hnk, s_Nx, s_Rt, s_NR_nx, s_NR_rt, s_NXT_nx, s_NXT_ex, s_NXT_rt, e_lenV_sl, e_lenV_nils, get_pk, k_bind, true_and, and_true, if_true, if_false, Bool.true_eq, beq_self_eq_true, reduceIte, Bool.false_eq_true, reduceCtorEq, bne_self_eq_false, Nat.reduceAdd, Nat.reduceLeDiff, Nat.reduceEqDiff, Nat.reduceSub, Nat.reduceBEq, Int.reduceBEq, Int.reduceNeg, Int.reduceLT, Int.reduceLE, Nat.succ_ne_self, Bool.not_true, Bool.not_false, Bool.true_beq, Bool.false_beq, decide_true, decide_false, exists_eq_left', Option.some.injEq, g8, d1, g6, g7]
        refine ⟨?_, hK, rfl⟩
        rw [hg]; rfl
      | succ j =>
        have ej : (((j + 1 : Nat) : Int) - 1) = (j : Int) := by omega
        rw [ej] at g8
        have hj : j < A.length := by omega
        have d1 : decide ((0 : Int) ≤ (j : Int)) = true := by simp
        have ha' := ha.keep hw hK
        obtain ⟨q, q1, q2⟩ := ha'.elem hj
        have hlt := sg_lt hd.1 (A.drop (j + 1))
        have hx : A.getD j 0 < WW := hA j
        have dv := hd.2.2 m σ' _ _ hlt hx
        rw [← hcf] at dv
        have wj : IntKind.i64.wrap ((j : Int) - 1) = (j : Int) - 1 := wrap_i64 (by omega)
        have el : elemAt 1 (.sl σ.nx 0 0 A.length (some A.length) 0) (j : Nat) = some (.ptr σ.nx 0 j) := by
          simp only [elemAt]; rw [if_pos ⟨Int.natCast_nonneg _, by omega⟩]; simp
        have e2 : sg d (A.drop j) = (((sg d (A.drop (j + 1))).2 * WW + A.getD j 0) / d :: (sg d (A.drop (j + 1))).1, ((sg d (A.drop (j + 1))).2 * WW + A.getD j 0) % d) := by
          rw [drop_getD hj]; rfl
        rw [repl_end, List.append_assoc] at hg
        have st1 := st_at (σ := σ') (x := σ.nx) (o := j) (k := .u64) (n := (((sg d (A.drop (j + 1))).2 * WW + A.getD j 0) / d : Nat)) hg (by simp [repl_len])
        have hset := set_mid (repl [V.int .u64 0] j) (V.int .u64 0) (.int .u64 (((sg d (A.drop (j + 1))).2 * WW + A.getD j 0) / d : Nat)) ((sg d (A.drop (j + 1))).1.map wd)
        rw [repl_len] at hset
        rw [List.singleton_append] at st1
        rw [hset] at st1
        simp only [b27_0, QU, oP, oR, oA, oH, oPn, oRn, oAn, oHn, bi, ld, ki, kt, kf, s_ops_nil, s_ops_cons, s_ops_nx, s_ops_pn, s_seq, s_seq_nx, s_seq_ex, s_seq_rt, s_skip, s_ret, s_exit, s_reg, s_cond, s_cond_t, s_cond_f, s_blk, s_blk_nx, s_blk_rt, s_blk_ex, s_put, s_P, s_R, s_A, s_A_some, s_C_ret, s_C_pan, s_H, s_H_ok, s_H_call, s_H_pan, s_gd, s_gd_bool, s_gd_undef, e_t, e_k, e_mv, e_pick, e_pick_b, e_bin, e_add_i64, e_add_i32, e_sub_i64, e_sub_u8, e_mul_i64, e_addU, e_mulU, e_addU32, e_mulU32, e_eql, e_neq, e_lss, e_leq, e_gtr, e_geq, e_str_eql, e_str_neq, e_iaddr, e_iaddr_int, e_lens, e_ld, e_extract, e_ex0, e_ex1, e_ex2, e_lenS, e_lenS_str, e_cii, e_cii_int, e_slsl_hm, e_sl2, e_slsl_h, e_sl1, e_slis, e_evL_nil, e_evL_cons, e_cons, e_call, e_callk, e_app, e_appk, e_store, e_stk, e_next, e_nextk, e_range, e_rangek, e_bs1, e_bs1i, e_bs0, e_mksl, e_mkslk, e_AK_sl, e_AK_it, e_AK_ptr, e_not, e_notb, e_xori, e_idxs, s_Hn, s_Hnk, s_Nx, s_Rt, s_NR_nx, s_NR_rt, s_NXT_nx, s_NXT_ex, s_NXT_rt, e_lenV_sl, e_lenV_nils, get_pk, k_bind, true_and, and_true, if_true, if_false, Bool.true_eq, beq_self_eq_true, reduceIte, Bool.false_eq_true, reduceCtorEq, bne_self_eq_false, Nat.reduceAdd, Nat.reduceLeDiff, Nat.reduceEqDiff, Nat.reduceSub, Nat.reduceBEq, Int.reduceBEq, Int.reduceNeg, Int.reduceLT, Int.reduceLE, Nat.succ_ne_self, Bool.not_true, Bool.not_false, Bool.true_beq, Bool.false_beq, decide_true, decide_false, exists_eq_left', Option.some.injEq, g0, g1, g6, g7, g8, d1, q1, q2, wd, dv, el, st1, wj]
        refine ⟨j, Nat.lt_succ_self j, by omega, ?_, hK.put (Nat.le_refl _) hnx _, by rw [nx_put]; exact hnx, ?_⟩
        · rw [H.get_put, if_pos rfl, e2]; rfl
        · rw [e2]; exact ⟨rfl, rfl⟩
    · refine ⟨Nat.le_refl _, ?_⟩
      rw [List.drop_length]
      simp only [QU, oP, oR, oA, oH, oPn, oRn, oAn, oHn, bi, ld, ki, kt, kf, s_ops_nil, s_ops_cons, s_ops_nx, s_ops_pn, s_seq, s_seq_nx, s_seq_ex, s_seq_rt, s_skip, s_ret, s_exit, s_reg, s_cond, s_cond_t, s_cond_f, s_blk, s_blk_nx, s_blk_rt, s_blk_ex, s_put, s_P, s_R, s_A, s_A_some, s_C_ret, s_C_pan, s_H, s_H_ok, s_H_call, s_H_pan, s_gd, s_gd_bool, s_gd_undef, e_t, e_k, e_mv, e_pick, e_pick_b, e_bin, e_add_i64, e_add_i32, e_sub_i64, e_sub_u8, e_mul_i64, e_addU, e_mulU, e_addU32, e_mulU32, e_eql, e_neq, e_lss, e_leq, e_gtr, e_geq, e_str_eql, e_str_neq, e_iaddr, e_iaddr_int, e_lens, e_ld, e_extract, e_ex0, e_ex1, e_ex2, e_lenS, e_lenS_str, e_cii, e_cii_int, e_slsl_hm, e_sl2, e_slsl_h, e_sl1, e_slis, e_evL_nil, e_evL_cons, e_cons, e_call, e_callk, e_app, e_appk, e_store, e_stk, e_next, e_nextk, e_range, e_rangek, e_bs1, e_bs1i, e_bs0, e_mksl, e_mkslk, e_AK_sl, e_AK_it, e_AK_ptr, e_not, e_notb, e_xori, e_idxs, s_Hn, s_Hnk, s_Nx, s_Rt, s_NR_nx, s_NR_rt, s_NXT_nx, s_NXT_ex, s_NXT_rt, e_lenV_sl, e_lenV_nils, get_pk, k_bind, true_and, and_true, if_true, if_false, Bool.true_eq, beq_self_eq_true, reduceIte, Bool.false_eq_true, reduceCtorEq, bne_self_eq_false, Nat.reduceAdd, Nat.reduceLeDiff, Nat.reduceEqDiff, Nat.reduceSub, Nat.reduceBEq, Int.reduceBEq, Int.reduceNeg, Int.reduceLT, Int.reduceLE, Nat.succ_ne_self, Bool.not_true, Bool.not_false, Bool.true_beq, Bool.false_beq, decide_true, decide_false, exists_eq_left', Option.some.injEq, h0, h1]
      refine ⟨by rw [H.get_new, if_pos rfl]; simp [sg], Keep.new _ _, by rw [nx_new]; omega, ?_⟩
      simp [sg]
    · rintro τ σ' ⟨hg, hK, g6, g7⟩
      have hu : U σ' (.sl σ.nx 0 0 A.length (some A.length) 0) (sg d A).1 := by
        refine ⟨Nat.le_refl _, by simp [slLen, sg_len], ?_⟩
        simp only [slCells, blkCells, hg, visib, if_true, cut]
        rw [if_pos (by simp)]
        simp only [List.drop_zero, Nat.mul_one]
        rw [List.take_of_length_le (by simp)]
      obtain ⟨a', k1, k2⟩ := trim_call (lf := lf) (m := m + 2) hu (by rw [sg_len]; omega) (by rw [sg_len]; omega)
      rw [← hcf] at k1
      simp only [QU, oP, oR, oA, oH, oPn, oRn, oAn, oHn, bi, ld, ki, kt, kf, s_ops_nil, s_ops_cons, s_ops_nx, s_ops_pn, s_seq, s_seq_nx, s_seq_ex, s_seq_rt, s_skip, s_ret, s_exit, s_reg, s_cond, s_cond_t, s_cond_f, s_blk, s_blk_nx, s_blk_rt, s_blk_ex, s_put, s_P, s_R, s_A, s_A_some, s_C_ret, s_C_pan, s_H, s_H_ok, s_H_call, s_H_pan, s_gd, s_gd_bool, s_gd_undef, e_t, e_k, e_mv, e_pick, e_pick_b, e_bin, e_add_i64, e_add_i32, e_sub_i64, e_sub_u8, e_mul_i64, e_addU, e_mulU, e_addU32, e_mulU32, e_eql, e_neq, e_lss, e_leq, e_gtr, e_geq, e_str_eql, e_str_neq, e_iaddr, e_iaddr_int, e_lens, e_ld, e_extract, e_ex0, e_ex1, e_ex2, e_lenS, e_lenS_str, e_cii, e_cii_int, e_slsl_hm, e_sl2, e_slsl_h, e_sl1, e_slis, e_evL_nil, e_evL_cons, e_cons, e_call, e_callk, e_app, e_appk, e_store, e_stk, e_next, e_nextk, e_range, e_rangek, e_bs1, e_bs1i, e_bs0, e_mksl, e_mkslk, e_AK_sl, e_AK_it, e_AK_ptr, e_not, e_notb, e_xori, e_idxs, s_Hn, s_Hnk, s_Nx, s_Rt, s_NR_nx, s_NR_rt, s_NXT_nx, s_NXT_ex, s_NXT_rt, e_lenV_sl, e_lenV_nils, get_pk, k_bind, true_and, and_true, if_true, if_false, Bool.true_eq, beq_self_eq_true, reduceIte, Bool.false_eq_true, reduceCtorEq, bne_self_eq_false, Nat.reduceAdd, Nat.reduceLeDiff, Nat.reduceEqDiff, Nat.reduceSub, Nat.reduceBEq, Int.reduceBEq, Int.reduceNeg, Int.reduceLT, Int.reduceLE, Nat.succ_ne_self, Bool.not_true, Bool.not_false, Bool.true_beq, Bool.false_beq, decide_true, decide_false, exists_eq_left', Option.some.injEq, g6, g7, k1]
      exact ⟨_, _, rfl, rfl, rfl, k2, hK⟩
  obtain ⟨v, u, σ', h1, rfl, h2⟩ := key
  exact ⟨v, σ', h1, h2⟩
end Go.Proofs.YtplaefbblpiehaaEng

namespace Go.Proofs.YtplaefbblpiehaaEng
open Go
set_option maxRecDepth 100000
set_option linter.unusedSimpArgs false

/-- the first i and the last i exchanged -/
def rv (L : List Nat) (i : Nat) : List Nat := (List.range L.length).map fun p => if p < i ∨ L.length - i ≤ p then L.getD (L.length - 1 - p) 0 else L.getD p 0
theorem rv_len (L : List Nat) (i : Nat) : (rv L i).length = L.length := by simp [rv]
theorem rv_get (L : List Nat) (i p : Nat) (h : p < L.length) : (rv L i).getD p 0 = if p < i ∨ L.length - i ≤ p then L.getD (L.length - 1 - p) 0 else L.getD p 0 := by
  rw [List.getD_eq_getElem?_getD, List.getElem?_eq_getElem (by rw [rv_len]; exact h)]
  simp [rv]
theorem ext_getD {A B : List Nat} (hl : A.length = B.length) (h : ∀ p, p < A.length → A.getD p 0 = B.getD p 0) : A = B := by
  refine List.ext_getElem hl fun p h1 h2 => ?_
  have := h p h1
  rw [List.getD_eq_getElem?_getD, List.getD_eq_getElem?_getD, List.getElem?_eq_getElem h1, List.getElem?_eq_getElem h2] at this
  exact this
theorem getD_set (L : List Nat) (i p x : Nat) (h : p < L.length) : (L.set i x).getD p 0 = if i = p then x else L.getD p 0 := by
  rw [List.getD_eq_getElem?_getD, List.getElem?_set, List.getD_eq_getElem?_getD]
  split
  · rename_i e; subst e; rw [if_pos h]; rfl
  · rfl
theorem rv_zero (L : List Nat) : rv L 0 = L := by
  refine ext_getD (rv_len L 0) fun p h => ?_
  rw [rv_len] at h
  rw [rv_get L 0 p h, if_neg (by omega)]
theorem rv_step (L : List Nat) (i : Nat) (h : i < L.length - 1 - i) : ((rv L i).set i (L.getD (L.length - 1 - i) 0)).set (L.length - 1 - i) (L.getD i 0) = rv L (i + 1) := by
  refine ext_getD (by rw [List.length_set, List.length_set, rv_len, rv_len]) fun p hp => ?_
  rw [List.length_set, List.length_set, rv_len] at hp
  rw [getD_set _ _ _ _ (by rw [List.length_set, rv_len]; exact hp), getD_set _ _ _ _ (by rw [rv_len]; exact hp), rv_get L i p hp, rv_get L (i + 1) p hp]
  by_cases h1 : L.length - 1 - i = p
  · rw [if_pos h1, if_pos (by omega)]; congr 1; omega
  · rw [if_neg h1]
    by_cases h2 : i = p
    · rw [if_pos h2, if_pos (by omega)]; congr 1; omega
    · rw [if_neg h2]
      by_cases h3 : p < i ∨ L.length - i ≤ p
      · rw [if_pos h3, if_pos (by omega)]
      · rw [if_neg h3, if_neg (by omega)]
theorem rv_end (L : List Nat) (i : Nat) (h : L.length - 1 - i ≤ i) : rv L i = L.reverse := by
  refine ext_getD (by rw [rv_len, List.length_reverse]) fun p hp => ?_
  rw [rv_len] at hp
  rw [rv_get L i p hp]
  have e : L.reverse.getD p 0 = L.getD (L.length - 1 - p) 0 := by
    rw [List.getD_eq_getElem?_getD, List.getElem?_reverse hp, ← List.getD_eq_getElem?_getD]
  rw [e]
  by_cases h3 : p < i ∨ L.length - i ≤ p
  · rw [if_pos h3]
  · rw [if_neg h3]; congr 1; omega
/-- one digit -/
theorem dig_in {base c N0 n N R j : Nat} (hb : 2 ≤ base) (hN : N = N0 / base ^ n) (hj : j < c) (hR : R = N % base ^ c) :
    R / base ^ j % base = N0 / base ^ (n + j) % base ∧ (R / base ^ j ≠ 0 ∨ N / base ^ c ≠ 0 → 0 < N0 / base ^ (n + j)) := by
  have h := dig_round hb hN (Nat.le_of_lt hj) hR
  have hp : 0 < base ^ (c - j) := Nat.pow_pos (by omega)
  have e : base ^ (c - j) = base * base ^ (c - j - 1) := by rw [Nat.mul_comm, ← Nat.pow_succ]; congr 1; omega
  constructor
  · rw [← h, e, Nat.mul_left_comm, Nat.mul_add_mod]
  · intro h2
    rw [← h]
    clear h hR hN
    generalize R / base ^ j = r at *
    generalize N / base ^ c = V at *
    rcases h2 with h2 | h2
    · omega
    · have : 0 < V * base ^ (c - j) := Nat.mul_pos (by omega) hp
      omega
/-- the last one -/
theorem dig_out {base c N0 n N R j : Nat} (hb : 2 ≤ base) (hN : N = N0 / base ^ n) (hj : j ≤ c) (hR : R = N % base ^ c) (h : j = c ∨ (R / base ^ j = 0 ∧ N / base ^ c = 0)) : N0 / base ^ (n + j) = N / base ^ c := by
  have h1 := dig_round hb hN hj hR
  rw [← h1]
  rcases h with h | ⟨h2, h3⟩
  · subst h
    rw [Nat.sub_self, Nat.pow_zero, Nat.mul_one, hR, Nat.div_eq_of_lt (Nat.mod_lt _ (Nat.pow_pos (by omega)))]; rfl
  · rw [h2, h3, Nat.zero_mul]
theorem pos_lt {base N0 k q : Nat} (hb : 2 ≤ base) (h : 0 < N0 / base ^ k) (hN : N0 < bigOf q) : k < 64 * q := by
  apply Nat.lt_of_not_le
  intro hle
  have h1 : 2 ^ (64 * q) ≤ base ^ k := Nat.le_trans (Nat.pow_le_pow_left hb _) (Nat.pow_le_pow_right (by omega) hle)
  rw [Nat.pow_mul] at h1
  have h2 : N0 < base ^ k := Nat.lt_of_lt_of_le hN h1
  rw [Nat.div_eq_of_lt h2] at h
  exact absurd h (Nat.lt_irrefl 0)

theorem c29_at : T1.code 29 = some c29 := by kernel_rfl
def wy (n : Nat) : V := .int .u8 n
theorem wy_one (n : Nat) : (wy n).one = true := rfl
theorem wd_wy (n m : Nat) : wd n ≠ wy m := by simp [wd, wy]

theorem Acc.keep {f : Nat → V} {ty : Nat} {σ0 σ σ' : H} {v : V} {D : List Nat} (h : Acc f ty σ0 σ v D) (k : Keep σ σ') : Acc f ty σ0 σ' v D := by
  rcases h with h | ⟨x, ver, minv, ex, rfl, hg, h1, h2⟩
  · exact .inl h
  · exact .inr ⟨x, ver, minv, ex, rfl, by rw [k.get h2]; exact hg, h1, Nat.lt_of_lt_of_le h2 k.1⟩
theorem visib_mem {c : List V} {ver minv : Nat} {ex : List Nat} {v : Nat} {c' : List V} (h : visib c ver minv ex v = some c') : ∀ z ∈ c', z ∈ c := by
  unfold visib at h
  intro z hz
  split at h
  · obtain rfl := Option.some.inj h; exact hz
  · split at h
    · split at h
      · obtain rfl := Option.some.inj h; exact List.mem_of_mem_take hz
      · cases h
    · cases h
/-- a write to a block of other things -/
theorem UG.put_other {f g : Nat → V} (hfg : ∀ n m, f n ≠ g m) {σ : H} {a : V} {L : List Nat} {x : Pos} {ty : Nat} {D : List Nat} {ver minv : Nat} {fz : Option Nat} {ex : List Nat} {b : Blk} (h : UG f σ a L) (hL : L ≠ []) (hx : σ.get x = some (.cells ty (D.map g) ver minv fz ex)) : UG f (σ.put x b) a L := by
  obtain ⟨h1, h2, h3⟩ := h
  refine ⟨h1, h2, ?_⟩
  cases a with
  | sl y v o len cap es =>
    simp only [slCells, blkCells] at h3 ⊢
    by_cases e : y = x
    · subst e
      exfalso
      rw [hx] at h3
      simp only at h3
      split at h3
      · rename_i c hv
        obtain ⟨_, l2⟩ := cut_some h3
        obtain ⟨n, L', rfl⟩ := List.exists_cons_of_ne_nil hL
        have m1 : f n ∈ (c.drop o).take ((n :: L').length * 1) := by rw [← l2]; simp
        have m2 := visib_mem hv _ (List.mem_of_mem_drop (List.mem_of_mem_take m1))
        obtain ⟨m, _, hm⟩ := List.mem_map.1 m2
        exact hfg n m hm.symm
      · cases h3
    · rw [H.get_put, if_neg e]; exact h3
  | nils => exact h3
  | ros => exact h3
  | _ => simp [okSl] at h1
theorem Acc.app2 {f : Nat → V} (hf : ∀ n, (f n).one = true) {ty eb : Nat} {σ0 σ : H} {v : V} {D : List Nat} {w : Nat} (hw : WfH σ) (h : Acc f ty σ0 σ v D) (hK : Keep σ0 σ) (hb : (D.length + 1) * eb ≤ mostBytes) (hb2 : D.length + 1 ≤ mostBytes) :
    ∃ v' σ', appV (σ.new (.cells ty [f w] 0 0 (some 0) [])) ty 1 eb v (.sl σ.nx 0 0 1 (some 1) 0) = .ok v' σ' ∧ Acc f ty σ0 σ' v' (D ++ [w]) ∧ Keep σ0 σ' ∧ ∀ (g : Nat → V) a L, (∀ n m, g n ≠ f m) → L ≠ [] → Go.Proofs.YtplaefbblpiehaaEng.UG g σ a L → Go.Proofs.YtplaefbblpiehaaEng.UG g σ' a L := by
  have hy : Go.Proofs.YtplaefbblpiehaaEng.UG f (σ.new (.cells ty [f w] 0 0 (some 0) [])) (.sl σ.nx 0 0 1 (some 1) 0) [w] := UG.one (by rw [H.get_new, if_pos rfl])
  have hK0 := Keep.new σ (.cells ty [f w] 0 0 (some 0) [])
  have hK1 := hK.trans hK0
  rcases h with ⟨rfl, rfl⟩ | ⟨x, ver, minv, ex, rfl, hg, h1, h2⟩
  · refine ⟨_, _, app_nil hy (by simp) (by simpa using hb) (by simpa using hb2), ?_, hK1.trans (Keep.new _ _), fun g a L _ _ hu => hu.keep hw (hK0.trans (Keep.new _ _))⟩
    refine .inr ⟨_, 0, 0, [], rfl, by rw [H.get_new, if_pos rfl]; rfl, hK1.1, by simp only [nx_new]; omega⟩
  · have hx : (σ.new (.cells ty [f w] 0 0 (some 0) [])).get x = some (.cells ty (D.map f) ver minv (some 0) ex) := by
      rw [H.get_new, if_neg (fun e => by rw [e] at h2; omega)]; exact hg
    refine ⟨_, _, app_end hf hy hx hb hb2, ?_, hK1.put h1 (by rw [nx_new]; omega) _, fun g a L hne hL hu => (hu.keep hw hK0).put_other hne hL hx⟩
    refine .inr ⟨x, ver + 1, minv, _, by simp, by rw [H.get_put, if_pos rfl], h1, by rw [nx_put, nx_new]; omega⟩

theorem call_nx0 {T : Tab} {f : Nat} {c : CFun} {lf m : Nat} {args : List V} {σ : H} {Post : H → Prop} (hi : T.intr f = none) (hc : T.code f = some c) (hl : args.length ≤ c.n) (hr : c.res = [])
    (h : ∀ cf, cf = call T lf m → Nx (exec cf lf c.n c.body (bindArgs args .h .lf) σ []) fun _ σ' => Post σ') : ∃ σ', call T lf (m + 1) f args σ = .ret (.tup []) σ' ∧ Post σ' := by
  obtain ⟨τ, σ', h1, h2⟩ := (h _ rfl).elim
  refine ⟨σ', ?_, h2⟩
  rw [call_def hi hc lf m args σ hl, h1, hr]
  rfl
theorem st_wy {σ : H} {x : Pos} {ver minv k n : Nat} {L : List Nat} {ex : List Nat} (hg : σ.get x = some (.cells 5 (L.map wy) ver minv (some 0) ex)) (hk : k < L.length) :
    stV σ 1 (.ptr x ver k) (.int .u8 (n : Nat)) = .ok undefV (σ.put x (.cells 5 ((L.set k n).map wy) ver ver (some 0) ex)) := by
  have h := st_at (k := .u8) (n := (n : Nat)) (o := k) hg (by simpa using hk)
  rw [h, List.map_set]; rfl

/-- slices.Reverse of bytes -/
theorem rev_call {lf m : Nat} {σ : H} {x : Pos} {ver minv : Nat} {ex : List Nat} {D : List Nat} (hg : σ.get x = some (.cells 5 (D.map wy) ver minv (some 0) ex)) (hlf : D.length < lf) (hl : D.length < 4611686018427387904) :
    ∃ σ', call T1 lf (m + 1) 29 [.sl x ver 0 D.length none 1] σ = .ret (.tup []) σ' ∧ (∃ minv', σ'.get x = some (.cells 5 (D.reverse.map wy) ver minv' (some 0) ex)) ∧ (∀ y, y ≠ x → σ'.m.get y = σ.m.get y) ∧ σ'.nx = σ.nx := by
  refine call_nx0 rfl c29_at (by simp [c29]) rfl fun cf hcf => ?_
  clear hcf
  generalize hτ : bindArgs [.sl x ver 0 D.length none 1] .h .lf = τ0
  have h0 : τ0.get (pk 0) = some (.sl x ver 0 D.length none 1) := by rw [← hτ]; rfl
  clear hτ
  have w1 : IntKind.i64.wrap ((D.length : Int) - 1) = (D.length : Int) - 1 := wrap_i64 (by omega)
  simp only [c29, QU, oP, oR, oA, oH, oPn, oRn, oAn, oHn, bi, ld, ki, kt, kf, s_ops_nil, s_ops_cons, s_ops_nx, s_ops_pn, s_seq, s_seq_nx, s_seq_ex, s_seq_rt, s_skip, s_ret, s_exit, s_reg, s_cond, s_cond_t, s_cond_f, s_blk, s_blk_nx, s_blk_rt, s_blk_ex, s_put, s_P, s_R, s_A, s_A_some, s_C_ret, s_C_pan, s_H, s_H_ok, s_H_call, s_H_pan, s_gd, s_gd_bool, s_gd_undef, e_t, e_k, e_mv, e_pick, e_pick_b, e_bin, e_add_i64, e_add_i32, e_sub_i64, e_sub_u8, e_mul_i64, e_addU, e_mulU, e_addU32, e_mulU32, e_eql, e_neq, e_lss, e_leq, e_gtr, e_geq, e_str_eql, e_str_neq, e_iaddr, e_iaddr_int, e_lens, e_ld, e_extract, e_ex0, e_ex1, e_ex2, e_lenS, e_lenS_str, e_cii, e_cii_int, e_slsl_hm, e_sl2, e_slsl_h, e_sl1, e_slis, e_evL_nil, e_evL_cons, e_cons, e_call, e_callk, e_app, e_appk, e_store, e_stk, e_next, e_nextk, e_range, e_rangek, e_bs1, e_bs1i, e_bs0, e_mksl, e_mkslk, e_AK_sl, e_AK_it, e_AK_ptr, e_not, e_notb, e_xori, e_idxs, s_Hn, s_Hnk, s_Nx, s_Rt, s_NR_nx, s_NR_rt, s_NXT_nx, s_NXT_ex, s_NXT_rt, e_lenV_sl, e_lenV_nils, get_pk, k_bind, true_and, and_true, if_true, if_false, Bool.true_eq, beq_self_eq_true, reduceIte, Bool.false_eq_true, reduceCtorEq, bne_self_eq_false, Nat.reduceAdd, Nat.reduceLeDiff, Nat.reduceEqDiff, Nat.reduceSub, Nat.reduceBEq, Int.reduceBEq, Int.reduceNeg, Int.reduceLT, Int.reduceLE, Nat.succ_ne_self, Bool.not_true, Bool.not_false, Bool.true_beq, Bool.false_beq, decide_true, decide_false, exists_eq_left', Option.some.injEq, h0, w1]
  refine loop_rule_x (fun k τ σ' => ∃ i minv', i ≤ D.length ∧ k = D.length - i ∧ σ'.get x = some (.cells 5 ((rv D i).map wy) ver minv' (some 0) ex) ∧ (∀ y, y ≠ x → σ'.m.get y = σ.m.get y) ∧ σ'.nx = σ.nx ∧
      τ.get (pk 0) = some (.sl x ver 0 D.length none 1) ∧ τ.get (pk 2) = some (.int .i64 i) ∧ τ.get (pk 3) = some (.int .i64 ((D.length : Int) - 1 - i)))
    _ ?_ (k := D.length) hlf ?_
  · rintro k τ σ' ⟨i, minv', hi, rfl, hg', hy, hnx, g0, g2, g3⟩
    by_cases hlt : i < D.length - 1 - i
    · have ej : ((D.length : Int) - 1 - i) = ((D.length - 1 - i : Nat) : Int) := by omega
      rw [ej] at g3
      have d1 := lt_true hlt
      have el : ∀ j, j < D.length → elemAt 1 (.sl x ver 0 D.length none 1) (j : Nat) = some (.ptr x ver j) := fun j hj => by
        simp only [elemAt]; rw [if_pos ⟨Int.natCast_nonneg _, by omega⟩]; simp
      have e1 := el i (by omega)
      have e2 := el (D.length - 1 - i) (by omega)
      have ldj : ∀ j, i ≤ j → j < D.length - i → ldv σ' (.ptr x ver j) = some (.int .u8 (D.getD j 0 : Nat)) := fun j h1 h2 => by
        have h3 := rv_get D i j (by omega)
        rw [if_neg (by omega)] at h3
        simp only [ldv, blkCells, hg', visib, if_true]
        rw [List.getElem?_map, List.getElem?_eq_getElem (by rw [rv_len]; omega)]
        rw [List.getD_eq_getElem?_getD, List.getElem?_eq_getElem (by rw [rv_len]; omega)] at h3
        rw [← h3]; rfl
      have l1 := ldj i (Nat.le_refl _) (by omega)
      have l2 := ldj (D.length - 1 - i) (by omega) (by omega)
      have st1 := st_wy (k := i) (n := D.getD (D.length - 1 - i) 0) hg' (by rw [rv_len]; omega)
      generalize hσ2 : σ'.put x (.cells 5 (((rv D i).set i (D.getD (D.length - 1 - i) 0)).map wy) ver ver (some 0) ex) = σ2 at st1
      have hg2 : σ2.get x = some (.cells 5 (((rv D i).set i (D.getD (D.length - 1 - i) 0)).map wy) ver ver (some 0) ex) := by rw [← hσ2, H.get_put, if_pos rfl]
      have st2 := st_wy (k := D.length - 1 - i) (n := D.getD i 0) hg2 (by rw [List.length_set, rv_len]; omega)
      rw [rv_step D i hlt] at st2
      have wi : IntKind.i64.wrap ((i : Int) + 1) = ((i + 1 : Nat) : Int) := wrap_add1 (by omega)
      have wj : IntKind.i64.wrap (((D.length - 1 - i : Nat) : Int) - 1) = (D.length : Int) - 1 - (i + 1 : Nat) := by rw [wrap_i64 (by omega)]; omega
      simp only [b29_0, QU, oP, oR, oA, oH, oPn, oRn, oAn, oHn, bi, ld, ki, kt, kf, s_ops_nil, s_ops_cons, s_ops_nx, s_ops_pn, s_seq, s_seq_nx, s_seq_ex, s_seq_rt, s_skip, s_ret, s_exit, s_reg, s_cond, s_cond_t, s_cond_f, s_blk, s_blk_nx, s_blk_rt, s_blk_ex, s_put, s_P, s_R, s_A, s_A_some, s_C_ret, s_C_pan, s_H, s_H_ok, s_H_call, s_H_pan, s_gd, s_gd_bool, s_gd_undef, e_t, e_k, e_mv, e_pick, e_pick_b, e_bin, e_add_i64, e_add_i32, e_sub_i64, e_sub_u8, e_mul_i64, e_addU, e_mulU, e_addU32, e_mulU32, e_eql, e_neq, e_lss, e_leq, e_gtr, e_geq, e_str_eql, e_str_neq, e_iaddr, e_iaddr_int, e_lens, e_ld, e_extract, e_ex0, e_ex1, e_ex2, e_lenS, e_lenS_str, e_cii, e_cii_int, e_slsl_hm, e_sl2, e_slsl_h, e_sl1, e_slis, e_evL_nil, e_evL_cons, e_cons, e_call, e_callk, e_app, e_appk, e_store, e_stk, e_next, e_nextk, e_range, e_rangek, e_bs1, e_bs1i, e_bs0, e_mksl, e_mkslk, e_AK_sl, e_AK_it, e_AK_ptr, e_not, e_notb, e_xori, e_idxs, s_Hn, s_Hnk, s_Nx, s_Rt, s_NR_nx, s_NR_rt, s_NXT_nx, s_NXT_ex, s_NXT_rt, e_lenV_sl, e_lenV_nils, get_pk, k_bind, true_and, and_true, if_true, if_false, Bool.true_eq, beq_self_eq_true, reduceIte, Bool.false_eq_true, reduceCtorEq, bne_self_eq_false, Nat.reduceAdd, Nat.reduceLeDiff, Nat.reduceEqDiff, Nat.reduceSub, Nat.reduceBEq, Int.reduceBEq, Int.reduceNeg, Int.reduceLT, Int.reduceLE, Nat.succ_ne_self, Bool.not_true, Bool.not_false, Bool.true_beq, Bool.false_beq, decide_true, decide_false, exists_eq_left', Option.some.injEq, w_drw, w_nil, w_0, w_3, w_0nx, w_1s, w_1nx, w_1lk, w_1ls, w_2, w_2nx, g0, g2, g3, d1, e1, e2, l1, l2, st1, st2, wi, wj, List.all_nil]
      refine ⟨D.length - (i + 1), by omega, i + 1, ver, by omega, rfl, by rw [H.get_put, if_pos rfl], fun y hyx => ?_, ?_, rfl, rfl⟩
      · rw [H.m_put, if_neg hyx, ← hσ2, H.m_put, if_neg hyx]; exact hy y hyx
      · rw [nx_put, ← hσ2, nx_put]; exact hnx
    · have d1 : decide ((i : Int) < (D.length : Int) - 1 - (i : Int)) = false := by simp; omega
      simp only [b29_0, QU, oP, oR, oA, oH, oPn, oRn, oAn, oHn, bi, ld, ki, kt, kf, s_ops_nil, s_ops_cons, s_ops_nx, s_ops_pn, s_seq, s_seq_nx, s_seq_ex, s_seq_rt, s_skip, s_ret, s_exit, s_reg, s_cond, s_cond_t, s_cond_f, s_blk, s_blk_nx, s_blk_rt, s_blk_ex, s_put, s_P, s_R, s_A, s_A_some, s_C_ret, s_C_pan, s_H, s_H_ok, s_H_call, s_H_pan, s_gd, s_gd_bool, s_gd_undef, e_t, e_k, e_mv, e_pick, e_pick_b, e_bin, e_add_i64, e_add_i32, e_sub_i64, e_sub_u8, e_mul_i64, e_addU, e_mulU, e_addU32, e_mulU32, e_eql, e_neq, e_lss, e_leq, e_gtr, e_geq, e_str_eql, e_str_neq, e_iaddr, e_iaddr_int, e_lens, e_ld, e_extract, e_ex0, e_ex1, e_ex2, e_lenS, e_lenS_str, e_cii, e_cii_int, e_slsl_hm, e_sl2, e_slsl_h, e_sl1, e_slis, e_evL_nil, e_evL_cons, e_cons, e_call, e_callk, e_app, e_appk, e_store, e_stk, e_next, e_nextk, e_range, e_rangek, e_bs1, e_bs1i, e_bs0, e_mksl, e_mkslk, e_AK_sl, e_AK_it, e_AK_ptr, e_not, e_notb, e_xori, e_idxs, s_Hn, s_Hnk, s_Nx, s_Rt, s_NR_nx, s_NR_rt, s_NXT_nx, s_NXT_ex, s_NXT_rt, e_lenV_sl, e_lenV_nils, get_pk, k_bind, true_and, and_true, if_true, if_false, Bool.true_eq, beq_self_eq_true, reduceIte, Bool.false_eq_true, reduceCtorEq, bne_self_eq_false, Nat.reduceAdd, Nat.reduceLeDiff, Nat.reduceEqDiff, Nat.reduceSub, Nat.reduceBEq, Int.reduceBEq, Int.reduceNeg, Int.reduceLT, Int.reduceLE, Nat.succ_ne_self, Bool.not_true, Bool.not_false, Bool.true_beq, Bool.false_beq, decide_true, decide_false, exists_eq_left', Option.some.injEq, g2, g3, d1]
      refine ⟨⟨minv', ?_⟩, hy, hnx⟩
      rw [hg', rv_end D i (by omega)]
  · exact ⟨0, minv, Nat.zero_le _, rfl, by rw [rv_zero]; exact hg, fun _ _ => rfl, rfl, by simp only [QU, oP, oR, oA, oH, oPn, oRn, oAn, oHn, bi, ld, ki, kt, kf, s_ops_nil, s_ops_cons, s_ops_nx, s_ops_pn, s_seq, s_seq_nx, s_seq_ex, s_seq_rt, s_skip, s_ret, s_exit, s_reg, s_cond, s_cond_t, s_cond_f, s_blk, s_blk_nx, s_blk_rt, s_blk_ex, s_put, s_P, s_R, s_A, s_A_some, s_C_ret, s_C_pan, s_H, s_H_ok, s_H_call, s_H_pan, s_gd, s_gd_bool, s_gd_undef, e_t, e_k, e_mv, e_pick, e_pick_b, e_bin, e_add_i64, e_add_i32, e_sub_i64, e_sub_u8, e_mul_i64, e_addU, e_mulU, e_addU32, e_mulU32, e_eql, e_neq, e_lss, e_leq, e_gtr, e_geq, e_str_eql, e_str_neq, e_iaddr, e_iaddr_int, e_lens, e_ld, e_extract, e_ex0, e_ex1, e_ex2, e_lenS, e_lenS_str, e_cii, e_cii_int, e_slsl_hm, e_sl2, e_slsl_h, e_sl1, e_slis, e_evL_nil, e_evL_cons, e_cons, e_call, e_callk, e_app, e_appk, e_store, e_stk, e_next, e_nextk, e_range, e_rangek, e_bs1, e_bs1i, e_bs0, e_mksl, e_mkslk, e_AK_sl, e_AK_it, e_AK_ptr, e_not, e_notb, e_xori, e_idxs, s_Hn, s_Hnk, s_Nx, s_Rt, s_NR_nx, s_NR_rt, s_NXT_nx, s_NXT_ex, s_NXT_rt, e_lenV_sl, e_lenV_nils, get_pk, k_bind, true_and, and_true, if_true, if_false, Bool.true_eq, beq_self_eq_true, reduceIte, Bool.false_eq_true, reduceCtorEq, bne_self_eq_false, Nat.reduceAdd, Nat.reduceLeDiff, Nat.reduceEqDiff, Nat.reduceSub, Nat.reduceBEq, Int.reduceBEq, Int.reduceNeg, Int.reduceLT, Int.reduceLE, Nat.succ_ne_self, Bool.not_true, Bool.not_false, Bool.true_beq, Bool.false_beq, decide_true, decide_false, exists_eq_left', Option.some.injEq, h0], by simp only [QU, oP, oR, oA, oH, oPn, oRn, oAn, oHn, bi, ld, ki, kt, kf, s_ops_nil, s_ops_cons, s_ops_nx, s_ops_pn, s_seq, s_seq_nx, s_seq_ex, s_seq_rt, s_skip, s_ret, s_exit, s_reg, s_cond, s_cond_t, s_cond_f, s_blk, s_blk_nx, s_blk_rt, s_blk_ex, s_put, s_P, s_R, s_A, s_A_some, s_C_ret, s_C_pan, s_H, s_H_ok, s_H_call, s_H_pan, s_gd, s_gd_bool, s_gd_undef, e_t, e_k, e_mv, e_pick, e_pick_b, e_bin, e_add_i64, e_add_i32, e_sub_i64, e_sub_u8, e_mul_i64, e_addU, e_mulU, e_addU32, e_mulU32, e_eql, e_neq, e_lss, e_leq, e_gtr, e_geq, e_str_eql, e_str_neq, e_iaddr, e_iaddr_int, e_lens, e_ld, e_extract, e_ex0, e_ex1, e_ex2, e_lenS, e_lenS_str, e_cii, e_cii_int, e_slsl_hm, e_sl2, e_slsl_h, e_sl1, e_slis, e_evL_nil, e_evL_cons, e_cons, e_call, e_callk, e_app, e_appk, e_store, e_stk, e_next, e_nextk, e_range, e_rangek, e_bs1, e_bs1i, e_bs0, e_mksl, e_mkslk, e_AK_sl, e_AK_it, e_AK_ptr, e_not, e_notb, e_xori, e_idxs, s_Hn, s_Hnk, s_Nx, s_Rt, s_NR_nx, s_NR_rt, s_NXT_nx, s_NXT_ex, s_NXT_rt, e_lenV_sl, e_lenV_nils, get_pk, k_bind, true_and, and_true, if_true, if_false, Bool.true_eq, beq_self_eq_true, reduceIte, Bool.false_eq_true, reduceCtorEq, bne_self_eq_false, Nat.reduceAdd, Nat.reduceLeDiff, Nat.reduceEqDiff, Nat.reduceSub, Nat.reduceBEq, Int.reduceBEq, Int.reduceNeg, Int.reduceLT, Int.reduceLE, Nat.succ_ne_self, Bool.not_true, Bool.not_false, Bool.true_beq, Bool.false_beq, decide_true, decide_false, exists_eq_left', Option.some.injEq]; rfl, by simp only [QU, oP, oR, oA, oH, oPn, oRn, oAn, oHn, bi, ld, ki, kt, kf, s_ops_nil, s_ops_cons, s_ops_nx, s_ops_pn, s_seq, s_seq_nx, s_seq_ex, s_seq_rt, s_skip, s_ret, s_exit, s_reg, s_cond, s_cond_t, s_cond_f, s_blk, s_blk_nx, s_blk_rt, s_blk_ex, s_put, s_P, s_R, s_A, s_A_some, s_C_ret, s_C_pan, s_H, s_H_ok, s_H_call, s_H_pan, s_gd, s_gd_bool, s_gd_undef, e_t, e_k, e_mv, e_pick, e_pick_b, e_bin, e_add_i64, e_add_i32, e_sub_i64, e_sub_u8, e_mul_i64, e_addU, e_mulU, e_addU32, e_mulU32, e_eql, e_neq, e_lss, e_leq, e_gtr, e_geq, e_str_eql, e_str_neq, e_iaddr, e_iaddr_int, e_lens, e_ld, e_extract, e_ex0, e_ex1, e_ex2, e_lenS, e_lenS_str, e_cii, e_cii_int, e_slsl_hm, e_sl2, e_slsl_h, e_sl1, e_slis, e_evL_nil, e_evL_cons, e_cons, e_call, e_callk, e_app, e_appk, e_store, e_stk, e_next, e_nextk, e_range, e_rangek, e_bs1, e_bs1i, e_bs0, e_mksl, e_mkslk, e_AK_sl, e_AK_it, e_AK_ptr, e_not, e_notb, e_xori, e_idxs, s_Hn, s_Hnk, s_Nx, s_Rt, s_NR_nx, s_NR_rt, s_NXT_nx, s_NXT_ex, s_NXT_rt, e_lenV_sl, e_lenV_nils, get_pk, k_bind, true_and, and_true, if_true, if_false, Bool.true_eq, beq_self_eq_true, reduceIte, Bool.false_eq_true, reduceCtorEq, bne_self_eq_false, Nat.reduceAdd, Nat.reduceLeDiff, Nat.reduceEqDiff, Nat.reduceSub, Nat.reduceBEq, Int.reduceBEq, Int.reduceNeg, Int.reduceLT, Int.reduceLE, Nat.succ_ne_self, Bool.not_true, Bool.not_false, Bool.true_beq, Bool.false_beq, decide_true, decide_false, exists_eq_left', Option.some.injEq]; simp⟩
end Go.Proofs.YtplaefbblpiehaaEng

