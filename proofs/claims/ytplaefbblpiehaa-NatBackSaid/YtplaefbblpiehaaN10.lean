/- Layer 1's reference run on symbols: limb, trim, Long; a list that grows. -/
import Derived.Test.YtplaefbblpiehaaN9
namespace Go.Proofs.YtplaefbblpiehaaEng
open Go
set_option maxRecDepth 100000
set_option linter.unusedSimpArgs false

abbrev UH := UG wh

/-- limb -/
theorem limb_call {lf m : Nat} {σ : H} {a : V} {L : List Nat} {i : Nat} (ha : UH σ a L) : call T1 lf (m + 1) 34 [a, .int .i64 i] σ = .ret (wh (L.getD i 0)) σ := by
  have key : ∃ v σ', call T1 lf (m + 1) 34 [a, .int .i64 i] σ = .ret v σ' ∧ (v = wh (L.getD i 0) ∧ σ' = σ) := by
    refine call_rt1 (p := pk 4) rfl c34_at (by simp [c34]) rfl fun cf hcf => ?_
    clear hcf
    generalize hτ : bindArgs [a, .int .i64 (i : Int)] .h .lf = τ0
    have h0 : τ0.get (pk 0) = some a := by rw [← hτ]; rfl
    have h1 : τ0.get (pk 1) = some (.int .i64 i) := by rw [← hτ]; rfl
    clear hτ
    by_cases hlt : i < L.length
    · have d1 := lt_true hlt
      obtain ⟨q, q1, q2⟩ := ha.elem hlt
      simp only [c34, QU, oP, oR, oA, oH, oPn, oRn, oAn, oHn, bi, ld, ki, kt, kf, s_ops_nil, s_ops_cons, s_ops_nx, s_ops_pn, s_seq, s_seq_nx, s_seq_ex, s_seq_rt, s_skip, s_ret, s_exit, s_reg, s_cond, s_cond_t, s_cond_f, s_blk, s_blk_nx, s_blk_rt, s_blk_ex, s_put, s_P, s_R, s_A, s_A_some, s_C_ret, s_C_pan, s_H, s_H_ok, s_H_call, s_H_pan, s_gd, s_gd_bool, s_gd_undef, e_t, e_k, e_mv, e_pick, e_pick_b, e_bin, e_add_i64, e_add_i32, e_sub_i64, e_sub_u8, e_mul_i64, e_addU, e_mulU, e_addU32, e_mulU32, e_eql, e_neq, e_lss, e_leq, e_gtr, e_geq, e_str_eql, e_str_neq, e_iaddr, e_iaddr_int, e_lens, e_ld, e_extract, e_ex0, e_ex1, e_ex2, e_lenS, e_lenS_str, e_cii, e_cii_int, e_slsl_hm, e_sl2, e_slsl_h, e_sl1, e_slis, e_evL_nil, e_evL_cons, e_cons, e_call, e_callk, e_app, e_appk, e_store, e_stk, e_next, e_nextk, e_range, e_rangek, e_bs1, e_bs1i, e_bs0, e_mksl, e_mkslk, e_AK_sl, e_AK_it, e_AK_ptr, e_not, e_notb, e_xori, e_idxs, s_Hn, s_Hnk, s_Nx, s_Rt, s_NR_nx, s_NR_rt, s_NXT_nx, s_NXT_ex, s_NXT_rt, e_lenV_sl, e_lenV_nils, get_pk, k_bind, true_and, and_true, if_true, if_false, Bool.true_eq, beq_self_eq_true, reduceIte, Bool.false_eq_true, reduceCtorEq, bne_self_eq_false, Nat.reduceAdd, Nat.reduceLeDiff, Nat.reduceEqDiff, Nat.reduceSub, Nat.reduceBEq, Int.reduceBEq, Int.reduceNeg, Int.reduceLT, Int.reduceLE, Nat.succ_ne_self, Bool.not_true, Bool.not_false, Bool.true_beq, Bool.false_beq, decide_true, decide_false, exists_eq_left', Option.some.injEq, h0, h1, ha.len, d1, q1, q2]
    · have d1 := lt_false hlt
      simp only [c34, QU, oP, oR, oA, oH, oPn, oRn, oAn, oHn, bi, ld, ki, kt, kf, s_ops_nil, s_ops_cons, s_ops_nx, s_ops_pn, s_seq, s_seq_nx, s_seq_ex, s_seq_rt, s_skip, s_ret, s_exit, s_reg, s_cond, s_cond_t, s_cond_f, s_blk, s_blk_nx, s_blk_rt, s_blk_ex, s_put, s_P, s_R, s_A, s_A_some, s_C_ret, s_C_pan, s_H, s_H_ok, s_H_call, s_H_pan, s_gd, s_gd_bool, s_gd_undef, e_t, e_k, e_mv, e_pick, e_pick_b, e_bin, e_add_i64, e_add_i32, e_sub_i64, e_sub_u8, e_mul_i64, e_addU, e_mulU, e_addU32, e_mulU32, e_eql, e_neq, e_lss, e_leq, e_gtr, e_geq, e_str_eql, e_str_neq, e_iaddr, e_iaddr_int, e_lens, e_ld, e_extract, e_ex0, e_ex1, e_ex2, e_lenS, e_lenS_str, e_cii, e_cii_int, e_slsl_hm, e_sl2, e_slsl_h, e_sl1, e_slis, e_evL_nil, e_evL_cons, e_cons, e_call, e_callk, e_app, e_appk, e_store, e_stk, e_next, e_nextk, e_range, e_rangek, e_bs1, e_bs1i, e_bs0, e_mksl, e_mkslk, e_AK_sl, e_AK_it, e_AK_ptr, e_not, e_notb, e_xori, e_idxs, s_Hn, s_Hnk, s_Nx, s_Rt, s_NR_nx, s_NR_rt, s_NXT_nx, s_NXT_ex, s_NXT_rt, e_lenV_sl, e_lenV_nils, get_pk, k_bind, true_and, and_true, if_true, if_false, Bool.true_eq, beq_self_eq_true, reduceIte, Bool.false_eq_true, reduceCtorEq, bne_self_eq_false, Nat.reduceAdd, Nat.reduceLeDiff, Nat.reduceEqDiff, Nat.reduceSub, Nat.reduceBEq, Int.reduceBEq, Int.reduceNeg, Int.reduceLT, Int.reduceLE, Nat.succ_ne_self, Bool.not_true, Bool.not_false, Bool.true_beq, Bool.false_beq, decide_true, decide_false, exists_eq_left', Option.some.injEq, h0, h1, ha.len, d1, getD_ge hlt, wh]
      rfl
  obtain ⟨v, _, h1, rfl, rfl⟩ := key
  exact h1

/-- the reference's trim -/
theorem trimh_call {lf m : Nat} {σ : H} {a : V} {L : List Nat} (ha : UH σ a L) (hlf : L.length < lf) (hL : L.length < 4611686018427387904) :
    ∃ a', call T1 lf (m + 1) 35 [a] σ = .ret a' σ ∧ UH σ a' (trimL L) := by
  have key : ∃ v σ', call T1 lf (m + 1) 35 [a] σ = .ret v σ' ∧ (UH σ v (trimL L) ∧ σ' = σ) := by
    refine call_rt1 (p := pk 2) rfl c35_at (by simp [c35]) rfl fun cf hcf => ?_
    clear hcf
    generalize hτ : bindArgs [a] .h .lf = τ0
    have h0 : τ0.get (pk 0) = some a := by rw [← hτ]; rfl
    clear hτ
    simp only [c35, QU, oP, oR, oA, oH, oPn, oRn, oAn, oHn, bi, ld, ki, kt, kf, s_ops_nil, s_ops_cons, s_ops_nx, s_ops_pn, s_seq, s_seq_nx, s_seq_ex, s_seq_rt, s_skip, s_ret, s_exit, s_reg, s_cond, s_cond_t, s_cond_f, s_blk, s_blk_nx, s_blk_rt, s_blk_ex, s_put, s_P, s_R, s_A, s_A_some, s_C_ret, s_C_pan, s_H, s_H_ok, s_H_call, s_H_pan, s_gd, s_gd_bool, s_gd_undef, e_t, e_k, e_mv, e_pick, e_pick_b, e_bin, e_add_i64, e_add_i32, e_sub_i64, e_sub_u8, e_mul_i64, e_addU, e_mulU, e_addU32, e_mulU32, e_eql, e_neq, e_lss, e_leq, e_gtr, e_geq, e_str_eql, e_str_neq, e_iaddr, e_iaddr_int, e_lens, e_ld, e_extract, e_ex0, e_ex1, e_ex2, e_lenS, e_lenS_str, e_cii, e_cii_int, e_slsl_hm, e_sl2, e_slsl_h, e_sl1, e_slis, e_evL_nil, e_evL_cons, e_cons, e_call, e_callk, e_app, e_appk, e_store, e_stk, e_next, e_nextk, e_range, e_rangek, e_bs1, e_bs1i, e_bs0, e_mksl, e_mkslk, e_AK_sl, e_AK_it, e_AK_ptr, e_not, e_notb, e_xori, e_idxs, s_Hn, s_Hnk, s_Nx, s_Rt, s_NR_nx, s_NR_rt, s_NXT_nx, s_NXT_ex, s_NXT_rt, e_lenV_sl, e_lenV_nils, get_pk, k_bind, true_and, and_true, if_true, if_false, Bool.true_eq, beq_self_eq_true, reduceIte, Bool.false_eq_true, reduceCtorEq, bne_self_eq_false, Nat.reduceAdd, Nat.reduceLeDiff, Nat.reduceEqDiff, Nat.reduceSub, Nat.reduceBEq, Int.reduceBEq, Int.reduceNeg, Int.reduceLT, Int.reduceLE, Nat.succ_ne_self, Bool.not_true, Bool.not_false, Bool.true_beq, Bool.false_beq, decide_true, decide_false, exists_eq_left', Option.some.injEq, h0]
    refine Rt_seq (loop_rule_x (fun k τ σ' => σ' = σ ∧ k ≤ L.length ∧ tl L k = tl L L.length ∧ ∃ v, τ.get (pk 0) = some v ∧ UH σ v (L.take k))
      (fun τ σ' => σ' = σ ∧ ∃ v, τ.get (pk 0) = some v ∧ UH σ v (trimL L)) ?_ (k := L.length) hlf ?_) ?_
    · rintro k τ _ ⟨rfl, hk, ht, v, g0, hv⟩
      have hlen : (L.take k).length = k := by simp; omega
      have hvl := hv.len
      rw [hlen] at hvl
      cases k with
      | zero =>
        have e2 : decide (0 < ((0 : Nat) : Int)) = false := by simp
        simp only [b35_0, QU, oP, oR, oA, oH, oPn, oRn, oAn, oHn, bi, ld, ki, kt, kf, s_ops_nil, s_ops_cons, s_ops_nx, s_ops_pn, s_seq, s_seq_nx, s_seq_ex, s_seq_rt, s_skip, s_ret, s_exit, s_reg, s_cond, s_cond_t, s_cond_f, s_blk, s_blk_nx, s_blk_rt, s_blk_ex, s_put, s_P, s_R, s_A, s_A_some, s_C_ret, s_C_pan, s_H, s_H_ok, s_H_call, s_H_pan, s_gd, s_gd_bool, s_gd_undef, e_t, e_k, e_mv, e_pick, e_pick_b, e_bin, e_add_i64, e_add_i32, e_sub_i64, e_sub_u8, e_mul_i64, e_addU, e_mulU, e_addU32, e_mulU32, e_eql, e_neq, e_lss, e_leq, e_gtr, e_geq, e_str_eql, e_str_neq, e_iaddr, e_iaddr_int, e_lens, e_ld, e_extract, e_ex0, e_ex1, e_ex2, e_lenS, e_lenS_str, e_cii, e_cii_int, e_slsl_hm, e_sl2, e_slsl_h, e_sl1, e_slis, e_evL_nil, e_evL_cons, e_cons, e_call, e_callk, e_app, e_appk, e_store, e_stk, e_next, e_nextk, e_range, e_rangek, e_bs1, e_bs1i, e_bs0, e_mksl, e_mkslk, e_AK_sl, e_AK_it, e_AK_ptr, e_not, e_notb, e_xori, e_idxs, s_Hn, s_Hnk, s_Nx, s_Rt, s_NR_nx, s_NR_rt, s_NXT_nx, s_NXT_ex, s_NXT_rt, e_lenV_sl, e_lenV_nils, get_pk, k_bind, true_and, and_true, if_true, if_false, Bool.true_eq, beq_self_eq_true, reduceIte, Bool.false_eq_true, reduceCtorEq, bne_self_eq_false, Nat.reduceAdd, Nat.reduceLeDiff, Nat.reduceEqDiff, Nat.reduceSub, Nat.reduceBEq, Int.reduceBEq, Int.reduceNeg, Int.reduceLT, Int.reduceLE, Nat.succ_ne_self, Bool.not_true, Bool.not_false, Bool.true_beq, Bool.false_beq, decide_true, decide_false, exists_eq_left', Option.some.injEq, g0, hvl, e2]
        have : trimL L = [] := by rw [trimL, ← ht]; rfl
        rw [this]; simpa using hv
      | succ n =>
        obtain ⟨q, hq1, hq2⟩ := hv.elem (i := n) (by rw [hlen]; omega)
        rw [getD_take (by omega)] at hq2
        have e1 : IntKind.i64.wrap (((n + 1 : Nat) : Int) - 1) = (n : Int) := by rw [wrap_sub (by omega) (by omega)]; simp
        have e2 : decide (0 < ((n + 1 : Nat) : Int)) = true := by simp
        obtain ⟨v', hs1, hs2⟩ := hv.take1 (n := n) (by rw [hlen]; omega)
        rw [List.take_take, Nat.min_eq_left (by omega)] at hs2
        by_cases hz : L.getD n 0 = 0
        · have e3 : (((L.getD n 0 : Nat) : Int) == 0) = true := by rw [hz]; rfl
          simp only [b35_0, QU, oP, oR, oA, oH, oPn, oRn, oAn, oHn, bi, ld, ki, kt, kf, s_ops_nil, s_ops_cons, s_ops_nx, s_ops_pn, s_seq, s_seq_nx, s_seq_ex, s_seq_rt, s_skip, s_ret, s_exit, s_reg, s_cond, s_cond_t, s_cond_f, s_blk, s_blk_nx, s_blk_rt, s_blk_ex, s_put, s_P, s_R, s_A, s_A_some, s_C_ret, s_C_pan, s_H, s_H_ok, s_H_call, s_H_pan, s_gd, s_gd_bool, s_gd_undef, e_t, e_k, e_mv, e_pick, e_pick_b, e_bin, e_add_i64, e_add_i32, e_sub_i64, e_sub_u8, e_mul_i64, e_addU, e_mulU, e_addU32, e_mulU32, e_eql, e_neq, e_lss, e_leq, e_gtr, e_geq, e_str_eql, e_str_neq, e_iaddr, e_iaddr_int, e_lens, e_ld, e_extract, e_ex0, e_ex1, e_ex2, e_lenS, e_lenS_str, e_cii, e_cii_int, e_slsl_hm, e_sl2, e_slsl_h, e_sl1, e_slis, e_evL_nil, e_evL_cons, e_cons, e_call, e_callk, e_app, e_appk, e_store, e_stk, e_next, e_nextk, e_range, e_rangek, e_bs1, e_bs1i, e_bs0, e_mksl, e_mkslk, e_AK_sl, e_AK_it, e_AK_ptr, e_not, e_notb, e_xori, e_idxs, s_Hn, s_Hnk, s_Nx, s_Rt, s_NR_nx, s_NR_rt, s_NXT_nx, s_NXT_ex, s_NXT_rt, e_lenV_sl, e_lenV_nils, get_pk, k_bind, true_and, and_true, if_true, if_false, Bool.true_eq, beq_self_eq_true, reduceIte, Bool.false_eq_true, reduceCtorEq, bne_self_eq_false, Nat.reduceAdd, Nat.reduceLeDiff, Nat.reduceEqDiff, Nat.reduceSub, Nat.reduceBEq, Int.reduceBEq, Int.reduceNeg, Int.reduceLT, Int.reduceLE, Nat.succ_ne_self, Bool.not_true, Bool.not_false, Bool.true_beq, Bool.false_beq, decide_true, decide_false, exists_eq_left', Option.some.injEq, g0, hvl, e1, e2, e3, hq1, hq2, wh, hs1]
          exact ⟨n, by omega, by omega, by rw [← ht]; simp only [tl]; rw [if_pos hz], hs2⟩
        · have e3 : (((L.getD n 0 : Nat) : Int) == 0) = false := by simp; exact hz
          simp only [b35_0, QU, oP, oR, oA, oH, oPn, oRn, oAn, oHn, bi, ld, ki, kt, kf, s_ops_nil, s_ops_cons, s_ops_nx, s_ops_pn, s_seq, s_seq_nx, s_seq_ex, s_seq_rt, s_skip, s_ret, s_exit, s_reg, s_cond, s_cond_t, s_cond_f, s_blk, s_blk_nx, s_blk_rt, s_blk_ex, s_put, s_P, s_R, s_A, s_A_some, s_C_ret, s_C_pan, s_H, s_H_ok, s_H_call, s_H_pan, s_gd, s_gd_bool, s_gd_undef, e_t, e_k, e_mv, e_pick, e_pick_b, e_bin, e_add_i64, e_add_i32, e_sub_i64, e_sub_u8, e_mul_i64, e_addU, e_mulU, e_addU32, e_mulU32, e_eql, e_neq, e_lss, e_leq, e_gtr, e_geq, e_str_eql, e_str_neq, e_iaddr, e_iaddr_int, e_lens, e_ld, e_extract, e_ex0, e_ex1, e_ex2, e_lenS, e_lenS_str, e_cii, e_cii_int, e_slsl_hm, e_sl2, e_slsl_h, e_sl1, e_slis, e_evL_nil, e_evL_cons, e_cons, e_call, e_callk, e_app, e_appk, e_store, e_stk, e_next, e_nextk, e_range, e_rangek, e_bs1, e_bs1i, e_bs0, e_mksl, e_mkslk, e_AK_sl, e_AK_it, e_AK_ptr, e_not, e_notb, e_xori, e_idxs, s_Hn, s_Hnk, s_Nx, s_Rt, s_NR_nx, s_NR_rt, s_NXT_nx, s_NXT_ex, s_NXT_rt, e_lenV_sl, e_lenV_nils, get_pk, k_bind, true_and, and_true, if_true, if_false, Bool.true_eq, beq_self_eq_true, reduceIte, Bool.false_eq_true, reduceCtorEq, bne_self_eq_false, Nat.reduceAdd, Nat.reduceLeDiff, Nat.reduceEqDiff, Nat.reduceSub, Nat.reduceBEq, Int.reduceBEq, Int.reduceNeg, Int.reduceLT, Int.reduceLE, Nat.succ_ne_self, Bool.not_true, Bool.not_false, Bool.true_beq, Bool.false_beq, decide_true, decide_false, exists_eq_left', Option.some.injEq, g0, hvl, e1, e2, e3, hq1, hq2, wh]
          have : trimL L = L.take (n + 1) := by rw [trimL, ← ht]; simp only [tl]; rw [if_neg hz]
          rw [this]; exact hv
    · exact ⟨rfl, Nat.le_refl _, rfl, a, by simp only [QU, oP, oR, oA, oH, oPn, oRn, oAn, oHn, bi, ld, ki, kt, kf, s_ops_nil, s_ops_cons, s_ops_nx, s_ops_pn, s_seq, s_seq_nx, s_seq_ex, s_seq_rt, s_skip, s_ret, s_exit, s_reg, s_cond, s_cond_t, s_cond_f, s_blk, s_blk_nx, s_blk_rt, s_blk_ex, s_put, s_P, s_R, s_A, s_A_some, s_C_ret, s_C_pan, s_H, s_H_ok, s_H_call, s_H_pan, s_gd, s_gd_bool, s_gd_undef, e_t, e_k, e_mv, e_pick, e_pick_b, e_bin, e_add_i64, e_add_i32, e_sub_i64, e_sub_u8, e_mul_i64, e_addU, e_mulU, e_addU32, e_mulU32, e_eql, e_neq, e_lss, e_leq, e_gtr, e_geq, e_str_eql, e_str_neq, e_iaddr, e_iaddr_int, e_lens, e_ld, e_extract, e_ex0, e_ex1, e_ex2, e_lenS, e_lenS_str, e_cii, e_cii_int, e_slsl_hm, e_sl2, e_slsl_h, e_sl1, e_slis, e_evL_nil, e_evL_cons, e_cons, e_call, e_callk, e_app, e_appk, e_store, e_stk, e_next, e_nextk, e_range, e_rangek, e_bs1, e_bs1i, e_bs0, e_mksl, e_mkslk, e_AK_sl, e_AK_it, e_AK_ptr, e_not, e_notb, e_xori, e_idxs, s_Hn, s_Hnk, s_Nx, s_Rt, s_NR_nx, s_NR_rt, s_NXT_nx, s_NXT_ex, s_NXT_rt, e_lenV_sl, e_lenV_nils, get_pk, k_bind, true_and, and_true, if_true, if_false, Bool.true_eq, beq_self_eq_true, reduceIte, Bool.false_eq_true, reduceCtorEq, bne_self_eq_false, Nat.reduceAdd, Nat.reduceLeDiff, Nat.reduceEqDiff, Nat.reduceSub, Nat.reduceBEq, Int.reduceBEq, Int.reduceNeg, Int.reduceLT, Int.reduceLE, Nat.succ_ne_self, Bool.not_true, Bool.not_false, Bool.true_beq, Bool.false_beq, decide_true, decide_false, exists_eq_left', Option.some.injEq, h0], by rw [List.take_of_length_le (Nat.le_refl _)]; exact ha⟩
    · rintro τ _ ⟨rfl, v, g0, hv⟩
      simp only [QU, oP, oR, oA, oH, oPn, oRn, oAn, oHn, bi, ld, ki, kt, kf, s_ops_nil, s_ops_cons, s_ops_nx, s_ops_pn, s_seq, s_seq_nx, s_seq_ex, s_seq_rt, s_skip, s_ret, s_exit, s_reg, s_cond, s_cond_t, s_cond_f, s_blk, s_blk_nx, s_blk_rt, s_blk_ex, s_put, s_P, s_R, s_A, s_A_some, s_C_ret, s_C_pan, s_H, s_H_ok, s_H_call, s_H_pan, s_gd, s_gd_bool, s_gd_undef, e_t, e_k, e_mv, e_pick, e_pick_b, e_bin, e_add_i64, e_add_i32, e_sub_i64, e_sub_u8, e_mul_i64, e_addU, e_mulU, e_addU32, e_mulU32, e_eql, e_neq, e_lss, e_leq, e_gtr, e_geq, e_str_eql, e_str_neq, e_iaddr, e_iaddr_int, e_lens, e_ld, e_extract, e_ex0, e_ex1, e_ex2, e_lenS, e_lenS_str, e_cii, e_cii_int, e_slsl_hm, e_sl2, e_slsl_h, e_sl1, e_slis, e_evL_nil, e_evL_cons, e_cons, e_call, e_callk, e_app, e_appk, e_store, e_stk, e_next, e_nextk, e_range, e_rangek, e_bs1, e_bs1i, e_bs0, e_mksl, e_mkslk, e_AK_sl, e_AK_it, e_AK_ptr, e_not, e_notb, e_xori, e_idxs, s_Hn, s_Hnk, s_Nx, s_Rt, s_NR_nx, s_NR_rt, s_NXT_nx, s_NXT_ex, s_NXT_rt, e_lenV_sl, e_lenV_nils, get_pk, k_bind, true_and, and_true, if_true, if_false, Bool.true_eq, beq_self_eq_true, reduceIte, Bool.false_eq_true, reduceCtorEq, bne_self_eq_false, Nat.reduceAdd, Nat.reduceLeDiff, Nat.reduceEqDiff, Nat.reduceSub, Nat.reduceBEq, Int.reduceBEq, Int.reduceNeg, Int.reduceLT, Int.reduceLE, Nat.succ_ne_self, Bool.not_true, Bool.not_false, Bool.true_beq, Bool.false_beq, decide_true, decide_false, exists_eq_left', Option.some.injEq, g0]
      exact hv
  obtain ⟨v, _, h1, h2, rfl⟩ := key
  exact ⟨v, h1, h2⟩

/-- Long -/
theorem longh_call {lf m : Nat} {σ : H} {a : V} {L : List Nat} (ha : UH σ a L) : call T1 lf (m + 1) 21 [a] σ = .ret (.bool (decide (16384 < L.length))) σ := by
  have key : ∃ v σ', call T1 lf (m + 1) 21 [a] σ = .ret v σ' ∧ (v = .bool (decide (16384 < L.length)) ∧ σ' = σ) := by
    refine call_rt1 (p := pk 2) rfl c21_at (by simp [c21]) rfl fun cf hcf => ?_
    clear hcf
    generalize hτ : bindArgs [a] .h .lf = τ0
    have h0 : τ0.get (pk 0) = some a := by rw [← hτ]; rfl
    clear hτ
    have d : decide ((16384 : Int) < ((L.length : Nat) : Int)) = decide (16384 < L.length) := by
      by_cases h : 16384 < L.length
      · simp [h]; omega
      · simp [h]; omega
    simp only [c21, QU, oP, oR, oA, oH, oPn, oRn, oAn, oHn, bi, ld, ki, kt, kf, s_ops_nil, s_ops_cons, s_ops_nx, s_ops_pn, s_seq, s_seq_nx, s_seq_ex, s_seq_rt, s_skip, s_ret, s_exit, s_reg, s_cond, s_cond_t, s_cond_f, s_blk, s_blk_nx, s_blk_rt, s_blk_ex, s_put, s_P, s_R, s_A, s_A_some, s_C_ret, s_C_pan, s_H, s_H_ok, s_H_call, s_H_pan, s_gd, s_gd_bool, s_gd_undef, e_t, e_k, e_mv, e_pick, e_pick_b, e_bin, e_add_i64, e_add_i32, e_sub_i64, e_sub_u8, e_mul_i64, e_addU, e_mulU, e_addU32, e_mulU32, e_eql, e_neq, e_lss, e_leq, e_gtr, e_geq, e_str_eql, e_str_neq, e_iaddr, e_iaddr_int, e_lens, e_ld, e_extract, e_ex0, e_ex1, e_ex2, e_lenS, e_lenS_str, e_cii, e_cii_int, e_slsl_hm, e_sl2, e_slsl_h, e_sl1, e_slis, e_evL_nil, e_evL_cons, e_cons, e_call, e_callk, e_app, e_appk, e_store, e_stk, e_next, e_nextk, e_range, e_rangek, e_bs1, e_bs1i, e_bs0, e_mksl, e_mkslk, e_AK_sl, e_AK_it, e_AK_ptr, e_not, e_notb, e_xori, e_idxs, s_Hn, s_Hnk, s_Nx, s_Rt, s_NR_nx, s_NR_rt, s_NXT_nx, s_NXT_ex, s_NXT_rt, e_lenV_sl, e_lenV_nils, get_pk, k_bind, true_and, and_true, if_true, if_false, Bool.true_eq, beq_self_eq_true, reduceIte, Bool.false_eq_true, reduceCtorEq, bne_self_eq_false, Nat.reduceAdd, Nat.reduceLeDiff, Nat.reduceEqDiff, Nat.reduceSub, Nat.reduceBEq, Int.reduceBEq, Int.reduceNeg, Int.reduceLT, Int.reduceLE, Nat.succ_ne_self, Bool.not_true, Bool.not_false, Bool.true_beq, Bool.false_beq, decide_true, decide_false, exists_eq_left', Option.some.injEq, h0, ha.len, d]
  obtain ⟨v, _, h1, rfl, rfl⟩ := key
  exact h1

/-- A list that grows: nothing yet, or a slice of new memory, to its end. -/
def Acc (f : Nat → V) (ty : Nat) (σ0 σ : H) (v : V) (D : List Nat) : Prop :=
  (D = [] ∧ v = .nils) ∨ ∃ x ver minv ex, v = .sl x ver 0 D.length none 1 ∧ σ.get x = some (.cells ty (D.map f) ver minv (some 0) ex) ∧ σ0.nx.toNat ≤ x.toNat ∧ x.toNat < σ.nx.toNat
theorem Acc.UG {f : Nat → V} {ty : Nat} {σ0 σ : H} {v : V} {D : List Nat} (h : Acc f ty σ0 σ v D) : UG f σ v D := by
  rcases h with ⟨rfl, rfl⟩ | ⟨x, ver, minv, ex, rfl, hg, _, _⟩
  · exact UG.nils f σ
  · refine ⟨rfl, rfl, ?_⟩
    simp only [slCells, blkCells, hg, visib, if_true, cut, Nat.zero_add, Nat.mul_one, List.length_map]
    rw [if_pos (Nat.le_refl _), List.drop_zero, List.take_of_length_le (by simp)]
theorem Acc.app {f : Nat → V} (hf : ∀ n, (f n).one = true) {ty eb : Nat} {σ0 σ : H} {v : V} {D : List Nat} {w : Nat} (_hw : WfH σ) (h : Acc f ty σ0 σ v D) (hK : Keep σ0 σ) (hb : (D.length + 1) * eb ≤ mostBytes) (hb2 : D.length + 1 ≤ mostBytes) :
    ∃ v' σ', appV (σ.new (.cells ty [f w] 0 0 (some 0) [])) ty 1 eb v (.sl σ.nx 0 0 1 (some 1) 0) = .ok v' σ' ∧ Acc f ty σ0 σ' v' (D ++ [w]) ∧ Keep σ0 σ' := by
  have hy : Go.Proofs.YtplaefbblpiehaaEng.UG f (σ.new (.cells ty [f w] 0 0 (some 0) [])) (.sl σ.nx 0 0 1 (some 1) 0) [w] := UG.one (by rw [H.get_new, if_pos rfl])
  have hK1 := hK.trans (Keep.new σ (.cells ty [f w] 0 0 (some 0) []))
  rcases h with ⟨rfl, rfl⟩ | ⟨x, ver, minv, ex, rfl, hg, h1, h2⟩
  · refine ⟨_, _, app_nil hy (by simp) (by simpa using hb) (by simpa using hb2), ?_, hK1.trans (Keep.new _ _)⟩
    refine .inr ⟨_, 0, 0, [], rfl, by rw [H.get_new, if_pos rfl]; rfl, hK1.1, by simp only [nx_new]; omega⟩
  · have hx : (σ.new (.cells ty [f w] 0 0 (some 0) [])).get x = some (.cells ty (D.map f) ver minv (some 0) ex) := by
      rw [H.get_new, if_neg (fun e => by rw [e] at h2; omega)]; exact hg
    refine ⟨_, _, app_end hf hy hx hb hb2, ?_, hK1.put h1 (by rw [nx_new]; omega) _⟩
    refine .inr ⟨x, ver + 1, minv, _, by simp, by rw [H.get_put, if_pos rfl], h1, by rw [nx_put, nx_new]; omega⟩
end Go.Proofs.YtplaefbblpiehaaEng
