/- Layer 2 run on symbols: trimmed, null, long, signed, of, out, told, Norm. (Numbers of seat r2.) -/
/- Layer 2 run on symbols: Clone, out, told, Norm. (Numbers of seat r2.) -/
/- Layer 2 run on symbols: amount.minus. (Numbers of seat r2.) -/
/- Layer 2 run on symbols: amount.cmp of a smaller and a greater, opposite, one. (Numbers of seat r2.) -/
/- Layer 2 run on symbols: plus where the signs differ and the first is smaller, minus, Sub. (Numbers of seat r2.) -/
/- Layer 2 run on symbols: number.minus, Sub. (Numbers of seat r2.) -/
/- Layer 2 run on symbols: quo of a smaller number by a greater, cut, pair. (Numbers of seat r2.) -/
/- Layer 2 run on symbols: pair. (Numbers of seat r2.) -/
/- Layer 2 run on symbols: DivMod of a number whose amount is below a power. (Numbers of seat r2.) -/
import Derived.Test.YtahgfodccndcjaaGreatK1
namespace Go.Proofs.YtahgfodccndcjaaGreatEng
open Go
set_option maxRecDepth 100000
set_option linter.unusedSimpArgs false

theorem c141_at : T1.code 141 = some c141 := by kernel_rfl
theorem c135_at : T1.code 135 = some c135 := by kernel_rfl
theorem c147_at : T1.code 147 = some c147 := by kernel_rfl
theorem c138_at : T1.code 138 = some c138 := by kernel_rfl
theorem c79_at : T1.code 79 = some c79 := by kernel_rfl
theorem c86_at : T1.code 86 = some c86 := by kernel_rfl
theorem c88_at : T1.code 88 = some c88 := by kernel_rfl
theorem c51_at : T1.code 51 = some c51 := by kernel_rfl

theorem UG.one_v {f : Nat → V} {σ : H} {a : V} {L : List Nat} (h : UG f σ a L) : a.one = true := by
  obtain ⟨h1, _, _⟩ := h
  cases a <;> first | rfl | simp [okSl] at h1
/-- what was read before memory was made -/
theorem owe_keepR {σ : H} {lo hi : Nat} {os : List Owe} {x : Pos} {v o : Nat} {es : List H} {b : Blk} (hb : σ.get x = some b) (hw : WfH σ) (he : ∀ σ' ∈ (es.drop lo).take (hi + 1 - lo), Keep σ σ') : (owe1 σ lo hi os (.ptr x v o)).all (oweOk es) = os.all (oweOk es) := by
  simp only [owe1, List.all_cons]
  have : oweOk es ⟨x, lo, hi, σ.stamp x⟩ = true := by
    simp only [oweOk, List.all_eq_true]
    intro σ' h'
    rw [(he σ' h').stamp (hw x b hb)]
    obtain ⟨n, hn⟩ := get_some_m hb
    have : σ.stamp x = some n := by simp [H.stamp, hn]
    rw [this]
    simp
  rw [this, Bool.true_and]

/-- trimmed -/
theorem trimmed_call {lf m : Nat} {σ : H} {a : V} {L : List Nat} (ha : U σ a L) (hlf : L.length < lf) (hL : L.length < 4611686018427387904) :
    ∃ a', call T1 lf (m + 1) 141 [a] σ = .ret a' σ ∧ U σ a' (trimL L) := by
  have key : ∃ v σ', call T1 lf (m + 1) 141 [a] σ = .ret v σ' ∧ (σ' = σ ∧ U σ v (trimL L)) := by
    refine call_rt1 (p := pk 2) rfl c141_at (by simp [c141]) rfl fun cf hcf => ?_
    clear hcf
    obtain ⟨a', hs, hu⟩ := ha.take1 (n := tl L L.length) (tl_le _ _)
    generalize hτ : bindArgs [a] .h .lf = τ0
    have h0 : τ0.get (pk 0) = some a := by rw [← hτ]; rfl
    clear hτ
    simp only [c141, QU, oP, oR, oA, oH, oPn, oRn, oAn, oHn, bi, ld, ki, kt, kf, s_ops_nil, s_ops_cons, s_ops_nx, s_ops_pn, s_seq, s_seq_nx, s_seq_ex, s_seq_rt, s_skip, s_ret, s_exit, s_reg, s_cond, s_cond_t, s_cond_f, s_blk, s_blk_nx, s_blk_rt, s_blk_ex, s_put, s_P, s_R, s_A, s_A_some, s_C_ret, s_C_pan, s_H, s_H_ok, s_H_call, s_H_pan, s_gd, s_gd_bool, s_gd_undef, e_t, e_k, e_mv, e_pick, e_pick_b, e_bin, e_add_i64, e_add_i32, e_sub_i64, e_sub_u8, e_mul_i64, e_addU, e_mulU, e_addU32, e_mulU32, e_eql, e_neq, e_lss, e_leq, e_gtr, e_geq, e_str_eql, e_str_neq, e_iaddr, e_iaddr_int, e_lens, e_ld, e_extract, e_ex0, e_ex1, e_ex2, e_lenS, e_lenS_str, e_cii, e_cii_int, e_slsl_hm, e_sl2, e_slsl_h, e_sl1, e_slis, e_evL_nil, e_evL_cons, e_cons, e_call, e_callk, e_app, e_appk, e_store, e_stk, e_next, e_nextk, e_range, e_rangek, e_bs1, e_bs1i, e_bs0, e_mksl, e_mkslk, e_AK_sl, e_AK_it, e_AK_ptr, e_not, e_notb, e_xori, e_idxs, s_Hn, s_Hnk, s_Nx, s_Rt, s_NR_nx, s_NR_rt, s_NXT_nx, s_NXT_ex, s_NXT_rt, e_lenV_sl, e_lenV_nils, get_pk, k_bind, true_and, and_true, if_true, if_false, Bool.true_eq, beq_self_eq_true, reduceIte, Bool.false_eq_true, reduceCtorEq, bne_self_eq_false, Nat.reduceAdd, Nat.reduceLeDiff, Nat.reduceEqDiff, Nat.reduceSub, Nat.reduceBEq, Int.reduceBEq, Int.reduceNeg, Int.reduceLT, Int.reduceLE, Nat.succ_ne_self, Bool.not_true, Bool.not_false, Bool.true_beq, Bool.false_beq, decide_true, decide_false, exists_eq_left', Option.some.injEq, h0, ha.len]
    refine Rt_seq (loop_rule_x (fun k τ σ' => σ' = σ ∧ τ.get (pk 0) = some a ∧ k ≤ L.length ∧ τ.get (pk 3) = some (.int .i64 k) ∧ tl L k = tl L L.length)
      (fun τ σ' => σ' = σ ∧ τ.get (pk 0) = some a ∧ τ.get (pk 3) = some (.int .i64 (tl L L.length : Nat))) ?_ (k := L.length) hlf ?_) ?_
    · rintro k τ _ ⟨rfl, g0, hk, g3, ht⟩
      cases k with
      | zero =>
        have e2 : decide (0 < ((0 : Nat) : Int)) = false := by simp
        simp only [b141_0, QU, oP, oR, oA, oH, oPn, oRn, oAn, oHn, bi, ld, ki, kt, kf, s_ops_nil, s_ops_cons, s_ops_nx, s_ops_pn, s_seq, s_seq_nx, s_seq_ex, s_seq_rt, s_skip, s_ret, s_exit, s_reg, s_cond, s_cond_t, s_cond_f, s_blk, s_blk_nx, s_blk_rt, s_blk_ex, s_put, s_P, s_R, s_A, s_A_some, s_C_ret, s_C_pan, s_H, s_H_ok, s_H_call, s_H_pan, s_gd, s_gd_bool, s_gd_undef, e_t, e_k, e_mv, e_pick, e_pick_b, e_bin, e_add_i64, e_add_i32, e_sub_i64, e_sub_u8, e_mul_i64, e_addU, e_mulU, e_addU32, e_mulU32, e_eql, e_neq, e_lss, e_leq, e_gtr, e_geq, e_str_eql, e_str_neq, e_iaddr, e_iaddr_int, e_lens, e_ld, e_extract, e_ex0, e_ex1, e_ex2, e_lenS, e_lenS_str, e_cii, e_cii_int, e_slsl_hm, e_sl2, e_slsl_h, e_sl1, e_slis, e_evL_nil, e_evL_cons, e_cons, e_call, e_callk, e_app, e_appk, e_store, e_stk, e_next, e_nextk, e_range, e_rangek, e_bs1, e_bs1i, e_bs0, e_mksl, e_mkslk, e_AK_sl, e_AK_it, e_AK_ptr, e_not, e_notb, e_xori, e_idxs, s_Hn, s_Hnk, s_Nx, s_Rt, s_NR_nx, s_NR_rt, s_NXT_nx, s_NXT_ex, s_NXT_rt, e_lenV_sl, e_lenV_nils, get_pk, k_bind, true_and, and_true, if_true, if_false, Bool.true_eq, beq_self_eq_true, reduceIte, Bool.false_eq_true, reduceCtorEq, bne_self_eq_false, Nat.reduceAdd, Nat.reduceLeDiff, Nat.reduceEqDiff, Nat.reduceSub, Nat.reduceBEq, Int.reduceBEq, Int.reduceNeg, Int.reduceLT, Int.reduceLE, Nat.succ_ne_self, Bool.not_true, Bool.not_false, Bool.true_beq, Bool.false_beq, decide_true, decide_false, exists_eq_left', Option.some.injEq, g0, g3, e2, ← ht, tl]
      | succ n =>
        obtain ⟨q, hq1, hq2⟩ := ha.elem (i := n) (by omega)
        have e1 : IntKind.i64.wrap (((n + 1 : Nat) : Int) - 1) = (n : Int) := by rw [wrap_sub (by omega) (by omega)]; simp
        have e2 : decide (0 < ((n + 1 : Nat) : Int)) = true := by simp
        by_cases hz : L.getD n 0 = 0
        · have e3 : (((L.getD n 0 : Nat) : Int) == 0) = true := by rw [hz]; rfl
          simp only [b141_0, QU, oP, oR, oA, oH, oPn, oRn, oAn, oHn, bi, ld, ki, kt, kf, s_ops_nil, s_ops_cons, s_ops_nx, s_ops_pn, s_seq, s_seq_nx, s_seq_ex, s_seq_rt, s_skip, s_ret, s_exit, s_reg, s_cond, s_cond_t, s_cond_f, s_blk, s_blk_nx, s_blk_rt, s_blk_ex, s_put, s_P, s_R, s_A, s_A_some, s_C_ret, s_C_pan, s_H, s_H_ok, s_H_call, s_H_pan, s_gd, s_gd_bool, s_gd_undef, e_t, e_k, e_mv, e_pick, e_pick_b, e_bin, e_add_i64, e_add_i32, e_sub_i64, e_sub_u8, e_mul_i64, e_addU, e_mulU, e_addU32, e_mulU32, e_eql, e_neq, e_lss, e_leq, e_gtr, e_geq, e_str_eql, e_str_neq, e_iaddr, e_iaddr_int, e_lens, e_ld, e_extract, e_ex0, e_ex1, e_ex2, e_lenS, e_lenS_str, e_cii, e_cii_int, e_slsl_hm, e_sl2, e_slsl_h, e_sl1, e_slis, e_evL_nil, e_evL_cons, e_cons, e_call, e_callk, e_app, e_appk, e_store, e_stk, e_next, e_nextk, e_range, e_rangek, e_bs1, e_bs1i, e_bs0, e_mksl, e_mkslk, e_AK_sl, e_AK_it, e_AK_ptr, e_not, e_notb, e_xori, e_idxs, s_Hn, s_Hnk, s_Nx, s_Rt, s_NR_nx, s_NR_rt, s_NXT_nx, s_NXT_ex, s_NXT_rt, e_lenV_sl, e_lenV_nils, get_pk, k_bind, true_and, and_true, if_true, if_false, Bool.true_eq, beq_self_eq_true, reduceIte, Bool.false_eq_true, reduceCtorEq, bne_self_eq_false, Nat.reduceAdd, Nat.reduceLeDiff, Nat.reduceEqDiff, Nat.reduceSub, Nat.reduceBEq, Int.reduceBEq, Int.reduceNeg, Int.reduceLT, Int.reduceLE, Nat.succ_ne_self, Bool.not_true, Bool.not_false, Bool.true_beq, Bool.false_beq, decide_true, decide_false, exists_eq_left', Option.some.injEq, g0, g3, e1, e2, e3, hq1, hq2, wd]
          exact ⟨n, by omega, by omega, rfl, by rw [← ht]; simp only [tl]; rw [if_pos hz]⟩
        · have e3 : (((L.getD n 0 : Nat) : Int) == 0) = false := by simp; exact hz
          simp only [b141_0, QU, oP, oR, oA, oH, oPn, oRn, oAn, oHn, bi, ld, ki, kt, kf, s_ops_nil, s_ops_cons, s_ops_nx, s_ops_pn, s_seq, s_seq_nx, s_seq_ex, s_seq_rt, s_skip, s_ret, s_exit, s_reg, s_cond, s_cond_t, s_cond_f, s_blk, s_blk_nx, s_blk_rt, s_blk_ex, s_put, s_P, s_R, s_A, s_A_some, s_C_ret, s_C_pan, s_H, s_H_ok, s_H_call, s_H_pan, s_gd, s_gd_bool, s_gd_undef, e_t, e_k, e_mv, e_pick, e_pick_b, e_bin, e_add_i64, e_add_i32, e_sub_i64, e_sub_u8, e_mul_i64, e_addU, e_mulU, e_addU32, e_mulU32, e_eql, e_neq, e_lss, e_leq, e_gtr, e_geq, e_str_eql, e_str_neq, e_iaddr, e_iaddr_int, e_lens, e_ld, e_extract, e_ex0, e_ex1, e_ex2, e_lenS, e_lenS_str, e_cii, e_cii_int, e_slsl_hm, e_sl2, e_slsl_h, e_sl1, e_slis, e_evL_nil, e_evL_cons, e_cons, e_call, e_callk, e_app, e_appk, e_store, e_stk, e_next, e_nextk, e_range, e_rangek, e_bs1, e_bs1i, e_bs0, e_mksl, e_mkslk, e_AK_sl, e_AK_it, e_AK_ptr, e_not, e_notb, e_xori, e_idxs, s_Hn, s_Hnk, s_Nx, s_Rt, s_NR_nx, s_NR_rt, s_NXT_nx, s_NXT_ex, s_NXT_rt, e_lenV_sl, e_lenV_nils, get_pk, k_bind, true_and, and_true, if_true, if_false, Bool.true_eq, beq_self_eq_true, reduceIte, Bool.false_eq_true, reduceCtorEq, bne_self_eq_false, Nat.reduceAdd, Nat.reduceLeDiff, Nat.reduceEqDiff, Nat.reduceSub, Nat.reduceBEq, Int.reduceBEq, Int.reduceNeg, Int.reduceLT, Int.reduceLE, Nat.succ_ne_self, Bool.not_true, Bool.not_false, Bool.true_beq, Bool.false_beq, decide_true, decide_false, exists_eq_left', Option.some.injEq, g0, g3, e1, e2, e3, hq1, hq2, wd, ← ht, tl, hz]
    · exact ⟨rfl, by simp only [QU, oP, oR, oA, oH, oPn, oRn, oAn, oHn, bi, ld, ki, kt, kf, s_ops_nil, s_ops_cons, s_ops_nx, s_ops_pn, s_seq, s_seq_nx, s_seq_ex, s_seq_rt, s_skip, s_ret, s_exit, s_reg, s_cond, s_cond_t, s_cond_f, s_blk, s_blk_nx, s_blk_rt, s_blk_ex, s_put, s_P, s_R, s_A, s_A_some, s_C_ret, s_C_pan, s_H, s_H_ok, s_H_call, s_H_pan, s_gd, s_gd_bool, s_gd_undef, e_t, e_k, e_mv, e_pick, e_pick_b, e_bin, e_add_i64, e_add_i32, e_sub_i64, e_sub_u8, e_mul_i64, e_addU, e_mulU, e_addU32, e_mulU32, e_eql, e_neq, e_lss, e_leq, e_gtr, e_geq, e_str_eql, e_str_neq, e_iaddr, e_iaddr_int, e_lens, e_ld, e_extract, e_ex0, e_ex1, e_ex2, e_lenS, e_lenS_str, e_cii, e_cii_int, e_slsl_hm, e_sl2, e_slsl_h, e_sl1, e_slis, e_evL_nil, e_evL_cons, e_cons, e_call, e_callk, e_app, e_appk, e_store, e_stk, e_next, e_nextk, e_range, e_rangek, e_bs1, e_bs1i, e_bs0, e_mksl, e_mkslk, e_AK_sl, e_AK_it, e_AK_ptr, e_not, e_notb, e_xori, e_idxs, s_Hn, s_Hnk, s_Nx, s_Rt, s_NR_nx, s_NR_rt, s_NXT_nx, s_NXT_ex, s_NXT_rt, e_lenV_sl, e_lenV_nils, get_pk, k_bind, true_and, and_true, if_true, if_false, Bool.true_eq, beq_self_eq_true, reduceIte, Bool.false_eq_true, reduceCtorEq, bne_self_eq_false, Nat.reduceAdd, Nat.reduceLeDiff, Nat.reduceEqDiff, Nat.reduceSub, Nat.reduceBEq, Int.reduceBEq, Int.reduceNeg, Int.reduceLT, Int.reduceLE, Nat.succ_ne_self, Bool.not_true, Bool.not_false, Bool.true_beq, Bool.false_beq, decide_true, decide_false, exists_eq_left', Option.some.injEq, h0], Nat.le_refl _, by simp only [QU, oP, oR, oA, oH, oPn, oRn, oAn, oHn, bi, ld, ki, kt, kf, s_ops_nil, s_ops_cons, s_ops_nx, s_ops_pn, s_seq, s_seq_nx, s_seq_ex, s_seq_rt, s_skip, s_ret, s_exit, s_reg, s_cond, s_cond_t, s_cond_f, s_blk, s_blk_nx, s_blk_rt, s_blk_ex, s_put, s_P, s_R, s_A, s_A_some, s_C_ret, s_C_pan, s_H, s_H_ok, s_H_call, s_H_pan, s_gd, s_gd_bool, s_gd_undef, e_t, e_k, e_mv, e_pick, e_pick_b, e_bin, e_add_i64, e_add_i32, e_sub_i64, e_sub_u8, e_mul_i64, e_addU, e_mulU, e_addU32, e_mulU32, e_eql, e_neq, e_lss, e_leq, e_gtr, e_geq, e_str_eql, e_str_neq, e_iaddr, e_iaddr_int, e_lens, e_ld, e_extract, e_ex0, e_ex1, e_ex2, e_lenS, e_lenS_str, e_cii, e_cii_int, e_slsl_hm, e_sl2, e_slsl_h, e_sl1, e_slis, e_evL_nil, e_evL_cons, e_cons, e_call, e_callk, e_app, e_appk, e_store, e_stk, e_next, e_nextk, e_range, e_rangek, e_bs1, e_bs1i, e_bs0, e_mksl, e_mkslk, e_AK_sl, e_AK_it, e_AK_ptr, e_not, e_notb, e_xori, e_idxs, s_Hn, s_Hnk, s_Nx, s_Rt, s_NR_nx, s_NR_rt, s_NXT_nx, s_NXT_ex, s_NXT_rt, e_lenV_sl, e_lenV_nils, get_pk, k_bind, true_and, and_true, if_true, if_false, Bool.true_eq, beq_self_eq_true, reduceIte, Bool.false_eq_true, reduceCtorEq, bne_self_eq_false, Nat.reduceAdd, Nat.reduceLeDiff, Nat.reduceEqDiff, Nat.reduceSub, Nat.reduceBEq, Int.reduceBEq, Int.reduceNeg, Int.reduceLT, Int.reduceLE, Nat.succ_ne_self, Bool.not_true, Bool.not_false, Bool.true_beq, Bool.false_beq, decide_true, decide_false, exists_eq_left', Option.some.injEq], rfl⟩
    · rintro τ _ ⟨rfl, g0, g3⟩
      simp only [QU, oP, oR, oA, oH, oPn, oRn, oAn, oHn, bi, ld, ki, kt, kf, s_ops_nil, s_ops_cons, s_ops_nx, s_ops_pn, s_seq, s_seq_nx, s_seq_ex, s_seq_rt, s_skip, s_ret, s_exit, s_reg, s_cond, s_cond_t, s_cond_f, s_blk, s_blk_nx, s_blk_rt, s_blk_ex, s_put, s_P, s_R, s_A, s_A_some, s_C_ret, s_C_pan, s_H, s_H_ok, s_H_call, s_H_pan, s_gd, s_gd_bool, s_gd_undef, e_t, e_k, e_mv, e_pick, e_pick_b, e_bin, e_add_i64, e_add_i32, e_sub_i64, e_sub_u8, e_mul_i64, e_addU, e_mulU, e_addU32, e_mulU32, e_eql, e_neq, e_lss, e_leq, e_gtr, e_geq, e_str_eql, e_str_neq, e_iaddr, e_iaddr_int, e_lens, e_ld, e_extract, e_ex0, e_ex1, e_ex2, e_lenS, e_lenS_str, e_cii, e_cii_int, e_slsl_hm, e_sl2, e_slsl_h, e_sl1, e_slis, e_evL_nil, e_evL_cons, e_cons, e_call, e_callk, e_app, e_appk, e_store, e_stk, e_next, e_nextk, e_range, e_rangek, e_bs1, e_bs1i, e_bs0, e_mksl, e_mkslk, e_AK_sl, e_AK_it, e_AK_ptr, e_not, e_notb, e_xori, e_idxs, s_Hn, s_Hnk, s_Nx, s_Rt, s_NR_nx, s_NR_rt, s_NXT_nx, s_NXT_ex, s_NXT_rt, e_lenV_sl, e_lenV_nils, get_pk, k_bind, true_and, and_true, if_true, if_false, Bool.true_eq, beq_self_eq_true, reduceIte, Bool.false_eq_true, reduceCtorEq, bne_self_eq_false, Nat.reduceAdd, Nat.reduceLeDiff, Nat.reduceEqDiff, Nat.reduceSub, Nat.reduceBEq, Int.reduceBEq, Int.reduceNeg, Int.reduceLT, Int.reduceLE, Nat.succ_ne_self, Bool.not_true, Bool.not_false, Bool.true_beq, Bool.false_beq, decide_true, decide_false, exists_eq_left', Option.some.injEq, g0, g3, hs, hu, trimL]
  obtain ⟨v, _, h1, rfl, h2⟩ := key
  exact ⟨v, h1, h2⟩

/-- null -/
theorem null_call {lf m : Nat} {σ : H} {a : V} {L : List Nat} (ha : U σ a L) : call T1 lf (m + 1) 135 [a] σ = .ret (.bool ((L.length : Int) == 0)) σ := by
  have key : ∃ v σ', call T1 lf (m + 1) 135 [a] σ = .ret v σ' ∧ (v = .bool ((L.length : Int) == 0) ∧ σ' = σ) := by
    refine call_rt1 (p := pk 2) rfl c135_at (by simp [c135]) rfl fun cf hcf => ?_
    clear hcf
    generalize hτ : bindArgs [a] .h .lf = τ0
    have h0 : τ0.get (pk 0) = some a := by rw [← hτ]; rfl
    clear hτ
    simp only [c135, QU, oP, oR, oA, oH, oPn, oRn, oAn, oHn, bi, ld, ki, kt, kf, s_ops_nil, s_ops_cons, s_ops_nx, s_ops_pn, s_seq, s_seq_nx, s_seq_ex, s_seq_rt, s_skip, s_ret, s_exit, s_reg, s_cond, s_cond_t, s_cond_f, s_blk, s_blk_nx, s_blk_rt, s_blk_ex, s_put, s_P, s_R, s_A, s_A_some, s_C_ret, s_C_pan, s_H, s_H_ok, s_H_call, s_H_pan, s_gd, s_gd_bool, s_gd_undef, e_t, e_k, e_mv, e_pick, e_pick_b, e_bin, e_add_i64, e_add_i32, e_sub_i64, e_sub_u8, e_mul_i64, e_addU, e_mulU, e_addU32, e_mulU32, e_eql, e_neq, e_lss, e_leq, e_gtr, e_geq, e_str_eql, e_str_neq, e_iaddr, e_iaddr_int, e_lens, e_ld, e_extract, e_ex0, e_ex1, e_ex2, e_lenS, e_lenS_str, e_cii, e_cii_int, e_slsl_hm, e_sl2, e_slsl_h, e_sl1, e_slis, e_evL_nil, e_evL_cons, e_cons, e_call, e_callk, e_app, e_appk, e_store, e_stk, e_next, e_nextk, e_range, e_rangek, e_bs1, e_bs1i, e_bs0, e_mksl, e_mkslk, e_AK_sl, e_AK_it, e_AK_ptr, e_not, e_notb, e_xori, e_idxs, s_Hn, s_Hnk, s_Nx, s_Rt, s_NR_nx, s_NR_rt, s_NXT_nx, s_NXT_ex, s_NXT_rt, e_lenV_sl, e_lenV_nils, get_pk, k_bind, true_and, and_true, if_true, if_false, Bool.true_eq, beq_self_eq_true, reduceIte, Bool.false_eq_true, reduceCtorEq, bne_self_eq_false, Nat.reduceAdd, Nat.reduceLeDiff, Nat.reduceEqDiff, Nat.reduceSub, Nat.reduceBEq, Int.reduceBEq, Int.reduceNeg, Int.reduceLT, Int.reduceLE, Nat.succ_ne_self, Bool.not_true, Bool.not_false, Bool.true_beq, Bool.false_beq, decide_true, decide_false, exists_eq_left', Option.some.injEq, h0, ha.len]
  obtain ⟨v, _, h1, rfl, rfl⟩ := key
  exact h1

/-- long -/
theorem wlong_call {lf m : Nat} {σ : H} (hw : WfH σ) {a : V} {L : List Nat} {b : Bool} (ha : U σ a L) : ∃ σ', call T1 lf (m + 1) 147 [.agg [a, .bool b]] σ = .ret (.bool (decide ((4096 : Int) < (L.length : Int)))) σ' ∧ Keep σ σ' := by
  have key : ∃ v σ', call T1 lf (m + 1) 147 [.agg [a, .bool b]] σ = .ret v σ' ∧ (v = .bool (decide ((4096 : Int) < (L.length : Int))) ∧ Keep σ σ') := by
    refine call_rt1 (p := pk 2) rfl c147_at (by simp [c147]) rfl fun cf hcf => ?_
    clear hcf
    generalize hτ : bindArgs [.agg [a, .bool b]] .h .lf = τ0
    have h0 : τ0.get (pk 0) = some (.agg [a, .bool b]) := by rw [← hτ]; rfl
    clear hτ
    have hK := Keep.new σ (.cells 123 [a, .bool b] 0 0 (some 0) [])
    have g0 := (Keep.refl (σ.new (.cells 123 [a, .bool b] 0 0 (some 0) []))).at
    have l0 := ld20 g0
    simp only [c147, QU, oP, oR, oA, oH, oPn, oRn, oAn, oHn, bi, ld, ki, kt, kf, s_ops_nil, s_ops_cons, s_ops_nx, s_ops_pn, s_seq, s_seq_nx, s_seq_ex, s_seq_rt, s_skip, s_ret, s_exit, s_reg, s_cond, s_cond_t, s_cond_f, s_blk, s_blk_nx, s_blk_rt, s_blk_ex, s_put, s_P, s_R, s_A, s_A_some, s_C_ret, s_C_pan, s_H, s_H_ok, s_H_call, s_H_pan, s_gd, s_gd_bool, s_gd_undef, e_t, e_k, e_mv, e_pick, e_pick_b, e_bin, e_add_i64, e_add_i32, e_sub_i64, e_sub_u8, e_mul_i64, e_addU, e_mulU, e_addU32, e_mulU32, e_eql, e_neq, e_lss, e_leq, e_gtr, e_geq, e_str_eql, e_str_neq, e_iaddr, e_iaddr_int, e_lens, e_ld, e_extract, e_ex0, e_ex1, e_ex2, e_lenS, e_lenS_str, e_cii, e_cii_int, e_slsl_hm, e_sl2, e_slsl_h, e_sl1, e_slis, e_evL_nil, e_evL_cons, e_cons, e_call, e_callk, e_app, e_appk, e_store, e_stk, e_next, e_nextk, e_range, e_rangek, e_bs1, e_bs1i, e_bs0, e_mksl, e_mkslk, e_AK_sl, e_AK_it, e_AK_ptr, e_not, e_notb, e_xori, e_idxs, s_Hn, s_Hnk, s_Nx, s_Rt, s_NR_nx, s_NR_rt, s_NXT_nx, s_NXT_ex, s_NXT_rt, e_lenV_sl, e_lenV_nils, get_pk, k_bind, true_and, and_true, if_true, if_false, Bool.true_eq, beq_self_eq_true, reduceIte, Bool.false_eq_true, reduceCtorEq, bne_self_eq_false, Nat.reduceAdd, Nat.reduceLeDiff, Nat.reduceEqDiff, Nat.reduceSub, Nat.reduceBEq, Int.reduceBEq, Int.reduceNeg, Int.reduceLT, Int.reduceLE, Nat.succ_ne_self, Bool.not_true, Bool.not_false, Bool.true_beq, Bool.false_beq, decide_true, decide_false, exists_eq_left', Option.some.injEq, e_box, e_box2, e_faddr, e_fadp, h0, l0, (ha.keep hw hK).len]
    exact hK
  obtain ⟨v, σ', h1, rfl, h2⟩ := key
  exact ⟨σ', h1, h2⟩

/-- a sign, none of nothing -/
def sgn (b : Bool) (L : List Nat) : Bool := b && !((L.length : Int) == 0)
/-- signed -/
theorem signed_call {lf m : Nat} {σ : H} (hw : WfH σ) {a : V} {L : List Nat} {b : Bool} (ha : U σ a L) : ∃ σ', call T1 lf (m + 2) 138 [a, .bool b] σ = .ret (.agg [a, .bool (sgn b L)]) σ' ∧ Keep σ σ' := by
  have key : ∃ v w σ', call T1 lf (m + 2) 138 [a, .bool b] σ = .ret (.agg [v, w]) σ' ∧ (v = a ∧ w = .bool (sgn b L) ∧ Keep σ σ') := by
    refine call_rc (p := pk 4) rfl c138_at (by simp [c138]) rfl fun cf hcf => ?_
    generalize hτ : bindArgs [a, .bool b] .h .lf = τ0
    have h0 : τ0.get (pk 0) = some a := by rw [← hτ]; rfl
    have h1 : τ0.get (pk 1) = some (.bool b) := by rw [← hτ]; rfl
    clear hτ
    have hK := Keep.new σ (.cells 123 [.nils, .bool false] 0 0 (some 0) [])
    have hn := null_call (lf := lf) (m := m) (ha.keep hw hK)
    rw [← hcf] at hn
    obtain ⟨σf, f1, f2, f3, _⟩ := fin_cell (σ := σ) (f := wd) (ty := 123) (a := .nils) (b := .bool false) (v := a) (w := .bool (sgn b L)) wd_neN (fun n => wd_neB n false) (Keep.refl _) ha.one_v rfl
    cases b with
    | false =>
      have e : sgn false L = false := rfl
      rw [e] at f1 f2
      simp only [c138, QU, oP, oR, oA, oH, oPn, oRn, oAn, oHn, bi, ld, ki, kt, kf, s_ops_nil, s_ops_cons, s_ops_nx, s_ops_pn, s_seq, s_seq_nx, s_seq_ex, s_seq_rt, s_skip, s_ret, s_exit, s_reg, s_cond, s_cond_t, s_cond_f, s_blk, s_blk_nx, s_blk_rt, s_blk_ex, s_put, s_P, s_R, s_A, s_A_some, s_C_ret, s_C_pan, s_H, s_H_ok, s_H_call, s_H_pan, s_gd, s_gd_bool, s_gd_undef, e_t, e_k, e_mv, e_pick, e_pick_b, e_bin, e_add_i64, e_add_i32, e_sub_i64, e_sub_u8, e_mul_i64, e_addU, e_mulU, e_addU32, e_mulU32, e_eql, e_neq, e_lss, e_leq, e_gtr, e_geq, e_str_eql, e_str_neq, e_iaddr, e_iaddr_int, e_lens, e_ld, e_extract, e_ex0, e_ex1, e_ex2, e_lenS, e_lenS_str, e_cii, e_cii_int, e_slsl_hm, e_sl2, e_slsl_h, e_sl1, e_slis, e_evL_nil, e_evL_cons, e_cons, e_call, e_callk, e_app, e_appk, e_store, e_stk, e_next, e_nextk, e_range, e_rangek, e_bs1, e_bs1i, e_bs0, e_mksl, e_mkslk, e_AK_sl, e_AK_it, e_AK_ptr, e_not, e_notb, e_xori, e_idxs, s_Hn, s_Hnk, s_Nx, s_Rt, s_NR_nx, s_NR_rt, s_NXT_nx, s_NXT_ex, s_NXT_rt, e_lenV_sl, e_lenV_nils, get_pk, k_bind, true_and, and_true, if_true, if_false, Bool.true_eq, beq_self_eq_true, reduceIte, Bool.false_eq_true, reduceCtorEq, bne_self_eq_false, Nat.reduceAdd, Nat.reduceLeDiff, Nat.reduceEqDiff, Nat.reduceSub, Nat.reduceBEq, Int.reduceBEq, Int.reduceNeg, Int.reduceLT, Int.reduceLE, Nat.succ_ne_self, Bool.not_true, Bool.not_false, Bool.true_beq, Bool.false_beq, decide_true, decide_false, exists_eq_left', Option.some.injEq, e_alloc, e_build2, h0, h1, kB2_one ha.cells1 (show (V.bool false).cells = [V.bool false] from rfl), f1]
      exact ⟨σ.nx, _, _, rfl, f2, rfl, rfl, f3⟩
    | true =>
      have e : sgn true L = !((L.length : Int) == 0) := Bool.true_and _
      rw [e] at f1 f2
      simp only [c138, QU, oP, oR, oA, oH, oPn, oRn, oAn, oHn, bi, ld, ki, kt, kf, s_ops_nil, s_ops_cons, s_ops_nx, s_ops_pn, s_seq, s_seq_nx, s_seq_ex, s_seq_rt, s_skip, s_ret, s_exit, s_reg, s_cond, s_cond_t, s_cond_f, s_blk, s_blk_nx, s_blk_rt, s_blk_ex, s_put, s_P, s_R, s_A, s_A_some, s_C_ret, s_C_pan, s_H, s_H_ok, s_H_call, s_H_pan, s_gd, s_gd_bool, s_gd_undef, e_t, e_k, e_mv, e_pick, e_pick_b, e_bin, e_add_i64, e_add_i32, e_sub_i64, e_sub_u8, e_mul_i64, e_addU, e_mulU, e_addU32, e_mulU32, e_eql, e_neq, e_lss, e_leq, e_gtr, e_geq, e_str_eql, e_str_neq, e_iaddr, e_iaddr_int, e_lens, e_ld, e_extract, e_ex0, e_ex1, e_ex2, e_lenS, e_lenS_str, e_cii, e_cii_int, e_slsl_hm, e_sl2, e_slsl_h, e_sl1, e_slis, e_evL_nil, e_evL_cons, e_cons, e_call, e_callk, e_app, e_appk, e_store, e_stk, e_next, e_nextk, e_range, e_rangek, e_bs1, e_bs1i, e_bs0, e_mksl, e_mkslk, e_AK_sl, e_AK_it, e_AK_ptr, e_not, e_notb, e_xori, e_idxs, s_Hn, s_Hnk, s_Nx, s_Rt, s_NR_nx, s_NR_rt, s_NXT_nx, s_NXT_ex, s_NXT_rt, e_lenV_sl, e_lenV_nils, get_pk, k_bind, true_and, and_true, if_true, if_false, Bool.true_eq, beq_self_eq_true, reduceIte, Bool.false_eq_true, reduceCtorEq, bne_self_eq_false, Nat.reduceAdd, Nat.reduceLeDiff, Nat.reduceEqDiff, Nat.reduceSub, Nat.reduceBEq, Int.reduceBEq, Int.reduceNeg, Int.reduceLT, Int.reduceLE, Nat.succ_ne_self, Bool.not_true, Bool.not_false, Bool.true_beq, Bool.false_beq, decide_true, decide_false, exists_eq_left', Option.some.injEq, e_alloc, e_build2, h0, h1, hn, kB2_one ha.cells1 (show (V.bool (!((L.length : Int) == 0))).cells = [V.bool (!((L.length : Int) == 0))] from rfl), f1]
      exact ⟨σ.nx, _, _, rfl, f2, rfl, by rw [e], f3⟩
  obtain ⟨v, w, σ', h1, rfl, rfl, h2⟩ := key
  exact ⟨σ', h1, h2⟩

/-- of -/
theorem of_call {lf m : Nat} {σ : H} (hw : WfH σ) {a : V} {L : List Nat} {b : Bool} (ha : U σ a L) (hlf : L.length < lf) (hL : L.length < 4611686018427387904) :
    ∃ v σ', call T1 lf (m + 2) 79 [.agg [.bool b, a]] σ = .ret (.agg [v, .bool (sgn b (trimL L))]) σ' ∧ Keep σ σ' ∧ U σ' v (trimL L) := by
  have key : ∃ v w σ', call T1 lf (m + 2) 79 [.agg [.bool b, a]] σ = .ret (.agg [v, w]) σ' ∧ (w = .bool (sgn b (trimL L)) ∧ Keep σ σ' ∧ U σ' v (trimL L)) := by
    refine call_rc (p := pk 2) rfl c79_at (by simp [c79]) rfl fun cf hcf => ?_
    generalize hτ : bindArgs [.agg [.bool b, a]] .h .lf = τ0
    have h0 : τ0.get (pk 0) = some (.agg [.bool b, a]) := by rw [← hτ]; rfl
    clear hτ
    have hKa := Keep.new σ (.cells 38 [.bool b, a] 0 0 (some 0) [])
    have hKb := Keep.new (σ.new (.cells 38 [.bool b, a] 0 0 (some 0) [])) (.cells 123 [.nils, .bool false] 0 0 (some 0) [])
    have ga := hKb.at
    have l0 := ld20 ga
    have l1 := ld21 ga
    have ha2 := ha.keep hw (hKa.trans hKb)
    obtain ⟨a', t1, t2⟩ := trimmed_call (lf := lf) (m := m) ha2 hlf hL
    have hn := null_call (lf := lf) (m := m) t2
    rw [← hcf] at t1 hn
    obtain ⟨σf, f1, f2, f3, f4⟩ := fin_cell (σ := σ.new (.cells 38 [.bool b, a] 0 0 (some 0) [])) (f := wd) (ty := 123) (a := .nils) (b := .bool false) (v := a') (w := .bool (sgn b (trimL L))) wd_neN (fun n => wd_neB n false) (Keep.refl _) t2.one_v rfl
    cases b with
    | false =>
      have e : sgn false (trimL L) = false := rfl
      rw [e] at f1 f2
      simp only [c79, QU, oP, oR, oA, oH, oPn, oRn, oAn, oHn, bi, ld, ki, kt, kf, s_ops_nil, s_ops_cons, s_ops_nx, s_ops_pn, s_seq, s_seq_nx, s_seq_ex, s_seq_rt, s_skip, s_ret, s_exit, s_reg, s_cond, s_cond_t, s_cond_f, s_blk, s_blk_nx, s_blk_rt, s_blk_ex, s_put, s_P, s_R, s_A, s_A_some, s_C_ret, s_C_pan, s_H, s_H_ok, s_H_call, s_H_pan, s_gd, s_gd_bool, s_gd_undef, e_t, e_k, e_mv, e_pick, e_pick_b, e_bin, e_add_i64, e_add_i32, e_sub_i64, e_sub_u8, e_mul_i64, e_addU, e_mulU, e_addU32, e_mulU32, e_eql, e_neq, e_lss, e_leq, e_gtr, e_geq, e_str_eql, e_str_neq, e_iaddr, e_iaddr_int, e_lens, e_ld, e_extract, e_ex0, e_ex1, e_ex2, e_lenS, e_lenS_str, e_cii, e_cii_int, e_slsl_hm, e_sl2, e_slsl_h, e_sl1, e_slis, e_evL_nil, e_evL_cons, e_cons, e_call, e_callk, e_app, e_appk, e_store, e_stk, e_next, e_nextk, e_range, e_rangek, e_bs1, e_bs1i, e_bs0, e_mksl, e_mkslk, e_AK_sl, e_AK_it, e_AK_ptr, e_not, e_notb, e_xori, e_idxs, s_Hn, s_Hnk, s_Nx, s_Rt, s_NR_nx, s_NR_rt, s_NXT_nx, s_NXT_ex, s_NXT_rt, e_lenV_sl, e_lenV_nils, get_pk, k_bind, true_and, and_true, if_true, if_false, Bool.true_eq, beq_self_eq_true, reduceIte, Bool.false_eq_true, reduceCtorEq, bne_self_eq_false, Nat.reduceAdd, Nat.reduceLeDiff, Nat.reduceEqDiff, Nat.reduceSub, Nat.reduceBEq, Int.reduceBEq, Int.reduceNeg, Int.reduceLT, Int.reduceLE, Nat.succ_ne_self, Bool.not_true, Bool.not_false, Bool.true_beq, Bool.false_beq, decide_true, decide_false, exists_eq_left', Option.some.injEq, e_box, e_box2, e_alloc, e_faddr, e_fadp, e_build2, h0, l0, l1, t1, kB2_one t2.cells1 (show (V.bool false).cells = [V.bool false] from rfl), f1]
      exact ⟨_, _, _, rfl, f2, rfl, hKa.trans f3, f4 _ _ t2⟩
    | true =>
      have e : sgn true (trimL L) = !(((trimL L).length : Int) == 0) := Bool.true_and _
      rw [e] at f1 f2
      simp only [c79, QU, oP, oR, oA, oH, oPn, oRn, oAn, oHn, bi, ld, ki, kt, kf, s_ops_nil, s_ops_cons, s_ops_nx, s_ops_pn, s_seq, s_seq_nx, s_seq_ex, s_seq_rt, s_skip, s_ret, s_exit, s_reg, s_cond, s_cond_t, s_cond_f, s_blk, s_blk_nx, s_blk_rt, s_blk_ex, s_put, s_P, s_R, s_A, s_A_some, s_C_ret, s_C_pan, s_H, s_H_ok, s_H_call, s_H_pan, s_gd, s_gd_bool, s_gd_undef, e_t, e_k, e_mv, e_pick, e_pick_b, e_bin, e_add_i64, e_add_i32, e_sub_i64, e_sub_u8, e_mul_i64, e_addU, e_mulU, e_addU32, e_mulU32, e_eql, e_neq, e_lss, e_leq, e_gtr, e_geq, e_str_eql, e_str_neq, e_iaddr, e_iaddr_int, e_lens, e_ld, e_extract, e_ex0, e_ex1, e_ex2, e_lenS, e_lenS_str, e_cii, e_cii_int, e_slsl_hm, e_sl2, e_slsl_h, e_sl1, e_slis, e_evL_nil, e_evL_cons, e_cons, e_call, e_callk, e_app, e_appk, e_store, e_stk, e_next, e_nextk, e_range, e_rangek, e_bs1, e_bs1i, e_bs0, e_mksl, e_mkslk, e_AK_sl, e_AK_it, e_AK_ptr, e_not, e_notb, e_xori, e_idxs, s_Hn, s_Hnk, s_Nx, s_Rt, s_NR_nx, s_NR_rt, s_NXT_nx, s_NXT_ex, s_NXT_rt, e_lenV_sl, e_lenV_nils, get_pk, k_bind, true_and, and_true, if_true, if_false, Bool.true_eq, beq_self_eq_true, reduceIte, Bool.false_eq_true, reduceCtorEq, bne_self_eq_false, Nat.reduceAdd, Nat.reduceLeDiff, Nat.reduceEqDiff, Nat.reduceSub, Nat.reduceBEq, Int.reduceBEq, Int.reduceNeg, Int.reduceLT, Int.reduceLE, Nat.succ_ne_self, Bool.not_true, Bool.not_false, Bool.true_beq, Bool.false_beq, decide_true, decide_false, exists_eq_left', Option.some.injEq, e_box, e_box2, e_alloc, e_faddr, e_fadp, e_build2, h0, l0, l1, t1, hn, kB2_one t2.cells1 (show (V.bool (!(((trimL L).length : Int) == 0))).cells = [V.bool (!(((trimL L).length : Int) == 0))] from rfl), f1]
      exact ⟨_, _, _, rfl, f2, by rw [e], hKa.trans f3, f4 _ _ t2⟩
  obtain ⟨v, w, σ', h1, rfl, h2⟩ := key
  exact ⟨v, σ', h1, h2⟩
end Go.Proofs.YtahgfodccndcjaaGreatEng

namespace Go.Proofs.YtahgfodccndcjaaGreatEng
open Go
set_option maxRecDepth 100000
set_option linter.unusedSimpArgs false

/-- slices.Clone -/
theorem clonex_call {lf m : Nat} {σ : H} {a : V} {L : List Nat} (ha : U σ a L) (hw : WfH σ) (hL : L.length < 17592186048512) :
    ∃ v σ', call T1 lf (m + 1) 55 [a] σ = .ret v σ' ∧ U σ' v L ∧ Keep σ σ' := by
  by_cases hL0 : L = []
  · subst hL0
    refine call_rt1 (p := pk 2) rfl c55_at (by simp [c55]) rfl fun cf hcf => ?_
    clear hcf
    generalize hτ : bindArgs [a] .h .lf = τ0
    have h0 : τ0.get (pk 0) = some a := by rw [← hτ]; rfl
    clear hτ
    by_cases hn : a = .nils
    · subst hn
      have e : kBin .eql (.sc .slice) (some V.nils) (some .nils) = some (.bool true) := rfl
      simp only [c55, QU, oP, oR, oA, oH, oPn, oRn, oAn, oHn, bi, ld, ki, kt, kf, s_ops_nil, s_ops_cons, s_ops_nx, s_ops_pn, s_seq, s_seq_nx, s_seq_ex, s_seq_rt, s_skip, s_ret, s_exit, s_reg, s_cond, s_cond_t, s_cond_f, s_blk, s_blk_nx, s_blk_rt, s_blk_ex, s_put, s_P, s_R, s_A, s_A_some, s_C_ret, s_C_pan, s_H, s_H_ok, s_H_call, s_H_pan, s_gd, s_gd_bool, s_gd_undef, e_t, e_k, e_mv, e_pick, e_pick_b, e_bin, e_add_i64, e_add_i32, e_sub_i64, e_sub_u8, e_mul_i64, e_addU, e_mulU, e_addU32, e_mulU32, e_eql, e_neq, e_lss, e_leq, e_gtr, e_geq, e_str_eql, e_str_neq, e_iaddr, e_iaddr_int, e_lens, e_ld, e_extract, e_ex0, e_ex1, e_ex2, e_lenS, e_lenS_str, e_cii, e_cii_int, e_slsl_hm, e_sl2, e_slsl_h, e_sl1, e_slis, e_evL_nil, e_evL_cons, e_cons, e_call, e_callk, e_app, e_appk, e_store, e_stk, e_next, e_nextk, e_range, e_rangek, e_bs1, e_bs1i, e_bs0, e_mksl, e_mkslk, e_AK_sl, e_AK_it, e_AK_ptr, e_not, e_notb, e_xori, e_idxs, s_Hn, s_Hnk, s_Nx, s_Rt, s_NR_nx, s_NR_rt, s_NXT_nx, s_NXT_ex, s_NXT_rt, e_lenV_sl, e_lenV_nils, get_pk, k_bind, true_and, and_true, if_true, if_false, Bool.true_eq, beq_self_eq_true, reduceIte, Bool.false_eq_true, reduceCtorEq, bne_self_eq_false, Nat.reduceAdd, Nat.reduceLeDiff, Nat.reduceEqDiff, Nat.reduceSub, Nat.reduceBEq, Int.reduceBEq, Int.reduceNeg, Int.reduceLT, Int.reduceLE, Nat.succ_ne_self, Bool.not_true, Bool.not_false, Bool.true_beq, Bool.false_beq, decide_true, decide_false, exists_eq_left', Option.some.injEq, h0, e]
      exact ⟨U.nils _, Keep.refl _⟩
    · have e : kBin .eql (.sc .slice) (some a) (some .nils) = some (.bool false) := by
        obtain ⟨h1, h2, _⟩ := ha
        cases a with
        | nils => exact absurd rfl hn
        | sl => rfl
        | ros => rfl
        | _ => simp [okSl] at h1
      have hK := Keep.new σ (.cells 49 [] 0 0 (some 0) [])
      have ha2 := ha.keep hw hK
      have e1 : appV (σ.new (.cells 49 [] 0 0 (some 0) [])) 49 1 8 (.sl σ.nx 0 0 0 (some 0) 0) a = .ok (.sl σ.nx 0 0 0 (some 0) 0) (σ.new (.cells 49 [] 0 0 (some 0) [])) := by
        unfold appV
        have h3 := ha2.2.2
        simp only [List.length_nil, List.map_nil] at h3
        rw [if_pos ha2.slice, ha2.2.1]
        simp only [List.length_nil, h3, vapp, if_true]
        rfl
      simp only [c55, QU, oP, oR, oA, oH, oPn, oRn, oAn, oHn, bi, ld, ki, kt, kf, s_ops_nil, s_ops_cons, s_ops_nx, s_ops_pn, s_seq, s_seq_nx, s_seq_ex, s_seq_rt, s_skip, s_ret, s_exit, s_reg, s_cond, s_cond_t, s_cond_f, s_blk, s_blk_nx, s_blk_rt, s_blk_ex, s_put, s_P, s_R, s_A, s_A_some, s_C_ret, s_C_pan, s_H, s_H_ok, s_H_call, s_H_pan, s_gd, s_gd_bool, s_gd_undef, e_t, e_k, e_mv, e_pick, e_pick_b, e_bin, e_add_i64, e_add_i32, e_sub_i64, e_sub_u8, e_mul_i64, e_addU, e_mulU, e_addU32, e_mulU32, e_eql, e_neq, e_lss, e_leq, e_gtr, e_geq, e_str_eql, e_str_neq, e_iaddr, e_iaddr_int, e_lens, e_ld, e_extract, e_ex0, e_ex1, e_ex2, e_lenS, e_lenS_str, e_cii, e_cii_int, e_slsl_hm, e_sl2, e_slsl_h, e_sl1, e_slis, e_evL_nil, e_evL_cons, e_cons, e_call, e_callk, e_app, e_appk, e_store, e_stk, e_next, e_nextk, e_range, e_rangek, e_bs1, e_bs1i, e_bs0, e_mksl, e_mkslk, e_AK_sl, e_AK_it, e_AK_ptr, e_not, e_notb, e_xori, e_idxs, s_Hn, s_Hnk, s_Nx, s_Rt, s_NR_nx, s_NR_rt, s_NXT_nx, s_NXT_ex, s_NXT_rt, e_lenV_sl, e_lenV_nils, get_pk, k_bind, true_and, and_true, if_true, if_false, Bool.true_eq, beq_self_eq_true, reduceIte, Bool.false_eq_true, reduceCtorEq, bne_self_eq_false, Nat.reduceAdd, Nat.reduceLeDiff, Nat.reduceEqDiff, Nat.reduceSub, Nat.reduceBEq, Int.reduceBEq, Int.reduceNeg, Int.reduceLT, Int.reduceLE, Nat.succ_ne_self, Bool.not_true, Bool.not_false, Bool.true_beq, Bool.false_beq, decide_true, decide_false, exists_eq_left', Option.some.injEq, h0, e, e1]
      refine ⟨⟨Nat.le_refl _, rfl, ?_⟩, hK⟩
      simp only [slCells, blkCells, H.get_new, if_true, visib]
      rfl
  · exact clone_call ha hw hL0 hL

/-- out -/
theorem wout_call {lf m : Nat} {σ : H} (hw : WfH σ) {a : V} {L : List Nat} {b : Bool} (ha : U σ a L) (hL : L.length < 17592186048512) :
    ∃ v σ', call T1 lf (m + 2) 86 [.agg [a, .bool b]] σ = .ret (.agg [.bool b, v]) σ' ∧ Keep σ σ' ∧ U σ' v L := by
  have key : ∃ u v σ', call T1 lf (m + 2) 86 [.agg [a, .bool b]] σ = .ret (.agg [u, v]) σ' ∧ (u = .bool b ∧ Keep σ σ' ∧ U σ' v L) := by
    refine call_rc (p := pk 2) rfl c86_at (by simp [c86]) rfl fun cf hcf => ?_
    generalize hτ : bindArgs [.agg [a, .bool b]] .h .lf = τ0
    have h0 : τ0.get (pk 0) = some (.agg [a, .bool b]) := by rw [← hτ]; rfl
    clear hτ
    have hKa := Keep.new σ (.cells 123 [a, .bool b] 0 0 (some 0) [])
    have hKb := Keep.new (σ.new (.cells 123 [a, .bool b] 0 0 (some 0) [])) (.cells 38 [.bool false, .nils] 0 0 (some 0) [])
    have ga := hKb.at
    have l0 := ld20 ga
    have l1 := ld21 ga
    have hw2 := (hKa.trans hKb).2.2 hw
    obtain ⟨v, σ3, k1, k2, k3⟩ := clonex_call (lf := lf) (m := m) (ha.keep hw (hKa.trans hKb)) hw2 hL
    rw [← hcf] at k1
    obtain ⟨σf, f1, f2, f3, f4⟩ := fin_cell (σ := σ.new (.cells 123 [a, .bool b] 0 0 (some 0) [])) (f := wd) (ty := 38) (a := .bool false) (b := .nils) (v := .bool b) (w := v) (fun n => wd_neB n false) wd_neN k3 rfl k2.one_v
    generalize hσ2 : (σ.new (.cells 123 [a, .bool b] 0 0 (some 0) [])).new (.cells 38 [.bool false, .nils] 0 0 (some 0) []) = σ2 at *
    have hos : ((owe1 σ2 0 1 [] (.ptr σ.nx 0 1)).all (oweOk (σf :: [σ3, σ2]).reverse)) = true := by
      rw [owe_keepR ga hw2 (fun s h => by
        simp only [List.reverse_cons, List.reverse_nil, List.nil_append, List.cons_append, List.drop_zero, List.take_succ_cons, List.take_zero, List.mem_cons, List.not_mem_nil, or_false] at h
        rcases h with rfl | rfl
        · exact Keep.refl _
        · exact k3)]
      rfl
    simp only [c86, QU, oP, oR, oA, oH, oPn, oRn, oAn, oHn, bi, ld, ki, kt, kf, s_ops_nil, s_ops_cons, s_ops_nx, s_ops_pn, s_seq, s_seq_nx, s_seq_ex, s_seq_rt, s_skip, s_ret, s_exit, s_reg, s_cond, s_cond_t, s_cond_f, s_blk, s_blk_nx, s_blk_rt, s_blk_ex, s_put, s_P, s_R, s_A, s_A_some, s_C_ret, s_C_pan, s_H, s_H_ok, s_H_call, s_H_pan, s_gd, s_gd_bool, s_gd_undef, e_t, e_k, e_mv, e_pick, e_pick_b, e_bin, e_add_i64, e_add_i32, e_sub_i64, e_sub_u8, e_mul_i64, e_addU, e_mulU, e_addU32, e_mulU32, e_eql, e_neq, e_lss, e_leq, e_gtr, e_geq, e_str_eql, e_str_neq, e_iaddr, e_iaddr_int, e_lens, e_ld, e_extract, e_ex0, e_ex1, e_ex2, e_lenS, e_lenS_str, e_cii, e_cii_int, e_slsl_hm, e_sl2, e_slsl_h, e_sl1, e_slis, e_evL_nil, e_evL_cons, e_cons, e_call, e_callk, e_app, e_appk, e_store, e_stk, e_next, e_nextk, e_range, e_rangek, e_bs1, e_bs1i, e_bs0, e_mksl, e_mkslk, e_AK_sl, e_AK_it, e_AK_ptr, e_not, e_notb, e_xori, e_idxs, s_Hn, s_Hnk, s_Nx, s_Rt, s_NR_nx, s_NR_rt, s_NXT_nx, s_NXT_ex, s_NXT_rt, e_lenV_sl, e_lenV_nils, get_pk, k_bind, true_and, and_true, if_true, if_false, Bool.true_eq, beq_self_eq_true, reduceIte, Bool.false_eq_true, reduceCtorEq, bne_self_eq_false, Nat.reduceAdd, Nat.reduceLeDiff, Nat.reduceEqDiff, Nat.reduceSub, Nat.reduceBEq, Int.reduceBEq, Int.reduceNeg, Int.reduceLT, Int.reduceLE, Nat.succ_ne_self, Bool.not_true, Bool.not_false, Bool.true_beq, Bool.false_beq, decide_true, decide_false, exists_eq_left', Option.some.injEq, w_drw, w_nil, w_0, w_3, w_0nx, w_1s, w_1nx, w_1lk, w_1ls, w_2, w_2nx, w_1l, e_box, e_box2, e_alloc, e_faddr, e_fadp, e_build2, h0, hσ2, l0, l1, k1, kB2_one (show (V.bool b).cells = [V.bool b] from rfl) k2.cells1, f1, hos, ne_eq, not_false_eq_true, Nat.zero_ne_one]
    exact ⟨_, _, _, rfl, f2, rfl, hKa.trans f3, f4 _ _ k2⟩
  obtain ⟨u, v, σ', h1, rfl, h2⟩ := key
  exact ⟨v, σ', h1, h2⟩

/-- told -/
theorem told_call {lf m : Nat} {σ : H} (hw : WfH σ) {a : V} {L : List Nat} {b : Bool} (ha : U σ a L) (hL : L.length ≤ 4096) :
    ∃ v σ', call T1 lf (m + 3) 88 [.agg [a, .bool b]] σ = .ret (.tup [.agg [.bool b, v], .int .i64 0]) σ' ∧ Keep σ σ' ∧ U σ' v L := by
  have key : ∃ u v w σ', call T1 lf (m + 3) 88 [.agg [a, .bool b]] σ = .ret (.tup [.agg [u, v], w]) σ' ∧ (u = .bool b ∧ w = .int .i64 0 ∧ Keep σ σ' ∧ U σ' v L) := by
    refine call_rtc (p := pk 2) (q := pk 3) rfl c88_at (by simp [c88]) rfl fun cf hcf => ?_
    generalize hτ : bindArgs [.agg [a, .bool b]] .h .lf = τ0
    have h0 : τ0.get (pk 0) = some (.agg [a, .bool b]) := by rw [← hτ]; rfl
    clear hτ
    have hKa := Keep.new σ (.cells 123 [a, .bool b] 0 0 (some 0) [])
    have hKb := Keep.new (σ.new (.cells 123 [a, .bool b] 0 0 (some 0) [])) (.cells 38 [.bool false, .nils] 0 0 (some 0) [])
    have hw2 := (hKa.trans hKb).2.2 hw
    have ha2 := ha.keep hw (hKa.trans hKb)
    have g1 := ldg2 hKb.at
    obtain ⟨σ3, k1, k2⟩ := wlong_call (lf := lf) (m := m + 1) (b := b) hw2 ha2
    have g2 := ldg2 (hKb.trans k2).at
    obtain ⟨v, σ4, k3, k4, k5⟩ := wout_call (lf := lf) (m := m) (b := b) (k2.2.2 hw2) (ha2.keep hw2 k2) (by omega)
    rw [show decide ((4096 : Int) < (L.length : Int)) = false by simp; omega] at k1
    rw [← hcf] at k1 k3
    obtain ⟨σf, f1, f2, f3, f4⟩ := fin_cell (σ := σ.new (.cells 123 [a, .bool b] 0 0 (some 0) [])) (f := wd) (ty := 38) (a := .bool false) (b := .nils) (v := .bool b) (w := v) (fun n => wd_neB n false) wd_neN (k2.trans k4) rfl k5.one_v
    simp only [c88, QU, oP, oR, oA, oH, oPn, oRn, oAn, oHn, bi, ld, ki, kt, kf, s_ops_nil, s_ops_cons, s_ops_nx, s_ops_pn, s_seq, s_seq_nx, s_seq_ex, s_seq_rt, s_skip, s_ret, s_exit, s_reg, s_cond, s_cond_t, s_cond_f, s_blk, s_blk_nx, s_blk_rt, s_blk_ex, s_put, s_P, s_R, s_A, s_A_some, s_C_ret, s_C_pan, s_H, s_H_ok, s_H_call, s_H_pan, s_gd, s_gd_bool, s_gd_undef, e_t, e_k, e_mv, e_pick, e_pick_b, e_bin, e_add_i64, e_add_i32, e_sub_i64, e_sub_u8, e_mul_i64, e_addU, e_mulU, e_addU32, e_mulU32, e_eql, e_neq, e_lss, e_leq, e_gtr, e_geq, e_str_eql, e_str_neq, e_iaddr, e_iaddr_int, e_lens, e_ld, e_extract, e_ex0, e_ex1, e_ex2, e_lenS, e_lenS_str, e_cii, e_cii_int, e_slsl_hm, e_sl2, e_slsl_h, e_sl1, e_slis, e_evL_nil, e_evL_cons, e_cons, e_call, e_callk, e_app, e_appk, e_store, e_stk, e_next, e_nextk, e_range, e_rangek, e_bs1, e_bs1i, e_bs0, e_mksl, e_mkslk, e_AK_sl, e_AK_it, e_AK_ptr, e_not, e_notb, e_xori, e_idxs, s_Hn, s_Hnk, s_Nx, s_Rt, s_NR_nx, s_NR_rt, s_NXT_nx, s_NXT_ex, s_NXT_rt, e_lenV_sl, e_lenV_nils, get_pk, k_bind, true_and, and_true, if_true, if_false, Bool.true_eq, beq_self_eq_true, reduceIte, Bool.false_eq_true, reduceCtorEq, bne_self_eq_false, Nat.reduceAdd, Nat.reduceLeDiff, Nat.reduceEqDiff, Nat.reduceSub, Nat.reduceBEq, Int.reduceBEq, Int.reduceNeg, Int.reduceLT, Int.reduceLE, Nat.succ_ne_self, Bool.not_true, Bool.not_false, Bool.true_beq, Bool.false_beq, decide_true, decide_false, exists_eq_left', Option.some.injEq, e_box, e_box2, e_alloc, lg, e_lg, h0, g1, k1, g2, k3, f1]
    exact ⟨_, _, _, _, rfl, f2, rfl, rfl, rfl, hKa.trans f3, f4 _ _ k5⟩
  obtain ⟨u, v, w, σ', h1, rfl, rfl, h2⟩ := key
  exact ⟨v, σ', h1, h2⟩

/-- Norm -/
theorem wnorm_call {lf m : Nat} {σ : H} (hw : WfH σ) {a : V} {L : List Nat} {b : Bool} (ha : U σ a L) (hlf : L.length < lf) (hL : L.length < 4611686018427387904) (hL2 : (trimL L).length < 17592186048512) :
    ∃ v σ', call T1 lf (m + 3) 51 [.agg [.bool b, a]] σ = .ret (.agg [.bool (sgn b (trimL L)), v]) σ' ∧ Keep σ σ' ∧ U σ' v (trimL L) := by
  have key : ∃ u v σ', call T1 lf (m + 3) 51 [.agg [.bool b, a]] σ = .ret (.agg [u, v]) σ' ∧ (u = .bool (sgn b (trimL L)) ∧ Keep σ σ' ∧ U σ' v (trimL L)) := by
    refine call_rc (p := pk 2) rfl c51_at (by simp [c51]) rfl fun cf hcf => ?_
    generalize hτ : bindArgs [.agg [.bool b, a]] .h .lf = τ0
    have h0 : τ0.get (pk 0) = some (.agg [.bool b, a]) := by rw [← hτ]; rfl
    clear hτ
    have hKa := Keep.new σ (.cells 38 [.bool b, a] 0 0 (some 0) [])
    have hKb := Keep.new (σ.new (.cells 38 [.bool b, a] 0 0 (some 0) [])) (.cells 38 [.bool false, .nils] 0 0 (some 0) [])
    have hw2 := (hKa.trans hKb).2.2 hw
    have ha2 := ha.keep hw (hKa.trans hKb)
    have g1 := ldg2 hKb.at
    obtain ⟨v, σ3, k1, k2, k3⟩ := of_call (lf := lf) (m := m) (b := b) hw2 ha2 hlf hL
    obtain ⟨u, σ4, k4, k5, k6⟩ := wout_call (lf := lf) (m := m) (b := sgn b (trimL L)) (k2.2.2 hw2) k3 hL2
    rw [← hcf] at k1 k4
    obtain ⟨σf, f1, f2, f3, f4⟩ := fin_cell (σ := σ.new (.cells 38 [.bool b, a] 0 0 (some 0) [])) (f := wd) (ty := 38) (a := .bool false) (b := .nils) (v := .bool (sgn b (trimL L))) (w := u) (fun n => wd_neB n false) wd_neN (k2.trans k5) rfl k6.one_v
    simp only [c51, QU, oP, oR, oA, oH, oPn, oRn, oAn, oHn, bi, ld, ki, kt, kf, s_ops_nil, s_ops_cons, s_ops_nx, s_ops_pn, s_seq, s_seq_nx, s_seq_ex, s_seq_rt, s_skip, s_ret, s_exit, s_reg, s_cond, s_cond_t, s_cond_f, s_blk, s_blk_nx, s_blk_rt, s_blk_ex, s_put, s_P, s_R, s_A, s_A_some, s_C_ret, s_C_pan, s_H, s_H_ok, s_H_call, s_H_pan, s_gd, s_gd_bool, s_gd_undef, e_t, e_k, e_mv, e_pick, e_pick_b, e_bin, e_add_i64, e_add_i32, e_sub_i64, e_sub_u8, e_mul_i64, e_addU, e_mulU, e_addU32, e_mulU32, e_eql, e_neq, e_lss, e_leq, e_gtr, e_geq, e_str_eql, e_str_neq, e_iaddr, e_iaddr_int, e_lens, e_ld, e_extract, e_ex0, e_ex1, e_ex2, e_lenS, e_lenS_str, e_cii, e_cii_int, e_slsl_hm, e_sl2, e_slsl_h, e_sl1, e_slis, e_evL_nil, e_evL_cons, e_cons, e_call, e_callk, e_app, e_appk, e_store, e_stk, e_next, e_nextk, e_range, e_rangek, e_bs1, e_bs1i, e_bs0, e_mksl, e_mkslk, e_AK_sl, e_AK_it, e_AK_ptr, e_not, e_notb, e_xori, e_idxs, s_Hn, s_Hnk, s_Nx, s_Rt, s_NR_nx, s_NR_rt, s_NXT_nx, s_NXT_ex, s_NXT_rt, e_lenV_sl, e_lenV_nils, get_pk, k_bind, true_and, and_true, if_true, if_false, Bool.true_eq, beq_self_eq_true, reduceIte, Bool.false_eq_true, reduceCtorEq, bne_self_eq_false, Nat.reduceAdd, Nat.reduceLeDiff, Nat.reduceEqDiff, Nat.reduceSub, Nat.reduceBEq, Int.reduceBEq, Int.reduceNeg, Int.reduceLT, Int.reduceLE, Nat.succ_ne_self, Bool.not_true, Bool.not_false, Bool.true_beq, Bool.false_beq, decide_true, decide_false, exists_eq_left', Option.some.injEq, e_box, e_box2, e_alloc, lg, e_lg, h0, g1, k1, k4, f1]
    exact ⟨_, _, _, rfl, f2, rfl, hKa.trans f3, f4 _ _ k6⟩
  obtain ⟨u, v, σ', h1, rfl, h2⟩ := key
  exact ⟨v, σ', h1, h2⟩
end Go.Proofs.YtahgfodccndcjaaGreatEng

namespace Go.Proofs.YtahgfodccndcjaaGreatEng
open Go
set_option maxRecDepth 100000
set_option linter.unusedSimpArgs false

theorem UG.of_get {f : Nat → V} {σ : H} {x : Pos} {ty ver minv : Nat} {L : List Nat} {fz : Option Nat} {ex : List Nat} {cap : Option Nat} {es : Nat} (hg : σ.get x = some (.cells ty (L.map f) ver minv fz ex)) (hc : okSl (.sl x ver 0 L.length cap es)) : UG f σ (.sl x ver 0 L.length cap es) L := by
  refine ⟨hc, rfl, ?_⟩
  simp only [slCells, blkCells, hg, visib, if_true, cut, Nat.zero_add, Nat.mul_one, List.length_map]
  rw [if_pos (Nat.le_refl _), List.drop_zero, List.take_of_length_le (by simp)]
/-- the first i words of a difference, and what is borrowed -/
def suS (A B : List Nat) : Nat → List Nat × Nat
  | 0 => ([], 0)
  | i + 1 => ((suS A B i).1 ++ [(A.getD i 0 + WW - B.getD i 0 - (suS A B i).2) % WW], if A.getD i 0 < B.getD i 0 + (suS A B i).2 then 1 else 0)
theorem suS_len (A B : List Nat) : ∀ i, (suS A B i).1.length = i
  | 0 => rfl
  | i + 1 => by simp [suS, suS_len A B i]
theorem suS_c (A B : List Nat) : ∀ i, (suS A B i).2 ≤ 1
  | 0 => Nat.zero_le _
  | i + 1 => by simp only [suS]; split <;> decide
/-- the difference -/
def subL (A B : List Nat) : List Nat := (suS A B A.length).1

theorem sub64_call {lf m : Nat} {σ : H} {x y c : Nat} (hy : y < WW) (hc : c ≤ 1) : call T1 lf (m + 1) 162 [.int .u64 x, .int .u64 y, .int .u64 c] σ = .ret (.tup [.int .u64 ((x + WW - y - c) % WW : Nat), .int .u64 (if x < y + c then 1 else 0 : Nat)]) σ := by
  rw [call_intr (g := iSub64) rfl]
  simp only [iSub64]
  rw [if_pos ⟨Int.natCast_nonneg x, Int.natCast_nonneg y, by simp only [WW] at hy; omega, Int.natCast_nonneg c, by omega⟩]
  rfl

theorem c155_at : T1.code 155 = some c155 := by kernel_rfl
/-- minus -/
theorem minus_call {lf m : Nat} {σ : H} {a b : V} {A B : List Nat} (ha : U σ a A) (hb : U σ b B) (hw : WfH σ) (hB : wok B) (hlf : A.length < lf) (hl : A.length < 17592186048512) :
    ∃ v σ', call T1 lf (m + 2) 155 [a, b] σ = .ret v σ' ∧ U σ' v (trimL (subL A B)) ∧ Keep σ σ' := by
  refine call_rt1 (p := pk 4) rfl c155_at (by simp [c155]) rfl fun cf hcf => ?_
  generalize hτ : bindArgs [a, b] .h .lf = τ0
  have h0 : τ0.get (pk 0) = some a := by rw [← hτ]; rfl
  have h1 : τ0.get (pk 1) = some b := by rw [← hτ]; rfl
  clear hτ
  have mk : mkV 49 8 [.int .u64 0] (.int .i64 0) (.int .i64 (A.length : Nat)) = some (.sl 0 A.length, .cells 49 (repl [.int .u64 0] A.length) 0 0 (some 0) []) := by
    simp only [mkV]
    rw [if_pos ⟨Int.le_refl _, Int.natCast_nonneg _, by unfold mostBytes; simp; omega, by omega⟩]
    simp
  simp only [c155, QU, oP, oR, oA, oH, oPn, oRn, oAn, oHn, bi, ld, ki, kt, kf, s_ops_nil, s_ops_cons, s_ops_nx, s_ops_pn, s_seq, s_seq_nx, s_seq_ex, s_seq_rt, s_skip, s_ret, s_exit, s_reg, s_cond, s_cond_t, s_cond_f, s_blk, s_blk_nx, s_blk_rt, s_blk_ex, s_put, s_P, s_R, s_A, s_A_some, s_C_ret, s_C_pan, s_H, s_H_ok, s_H_call, s_H_pan, s_gd, s_gd_bool, s_gd_undef, e_t, e_k, e_mv, e_pick, e_pick_b, e_bin, e_add_i64, e_add_i32, e_sub_i64, e_sub_u8, e_mul_i64, e_addU, e_mulU, e_addU32, e_mulU32, e_eql, e_neq, e_lss, e_leq, e_gtr, e_geq, e_str_eql, e_str_neq, e_iaddr, e_iaddr_int, e_lens, e_ld, e_extract, e_ex0, e_ex1, e_ex2, e_lenS, e_lenS_str, e_cii, e_cii_int, e_slsl_hm, e_sl2, e_slsl_h, e_sl1, e_slis, e_evL_nil, e_evL_cons, e_cons, e_call, e_callk, e_app, e_appk, e_store, e_stk, e_next, e_nextk, e_range, e_rangek, e_bs1, e_bs1i, e_bs0, e_mksl, e_mkslk, e_AK_sl, e_AK_it, e_AK_ptr, e_not, e_notb, e_xori, e_idxs, s_Hn, s_Hnk, s_Nx, s_Rt, s_NR_nx, s_NR_rt, s_NXT_nx, s_NXT_ex, s_NXT_rt, e_lenV_sl, e_lenV_nils, get_pk, k_bind, true_and, and_true, if_true, if_false, Bool.true_eq, beq_self_eq_true, reduceIte, Bool.false_eq_true, reduceCtorEq, bne_self_eq_false, Nat.reduceAdd, Nat.reduceLeDiff, Nat.reduceEqDiff, Nat.reduceSub, Nat.reduceBEq, Int.reduceBEq, Int.reduceNeg, Int.reduceLT, Int.reduceLE, Nat.succ_ne_self, Bool.not_true, Bool.not_false, Bool.true_beq, Bool.false_beq, decide_true, decide_false, exists_eq_left', Option.some.injEq, h0, h1, ha.len, mk]
  have rp : ∀ j, repl [V.int .u64 0] (j + 1) = V.int .u64 0 :: repl [.int .u64 0] j := fun _ => rfl
  refine Rt_seq (loop_rule_x
    (fun k τ σ' => ∃ i, i ≤ A.length ∧ k = A.length - i ∧ σ'.get σ.nx = some (.cells 49 ((suS A B i).1.map wd ++ repl [.int .u64 0] (A.length - i)) 0 0 (some 0) []) ∧ Keep σ σ' ∧ σ.nx.toNat < σ'.nx.toNat ∧
      τ.get (pk 0) = some a ∧ τ.get (pk 1) = some b ∧ τ.get (pk 5) = some (.sl σ.nx 0 0 i (some A.length) 0) ∧ τ.get (pk 6) = some (.int .u64 (suS A B i).2) ∧ τ.get (pk 15) = some (.int .i64 A.length) ∧ τ.get (pk 16) = some (.int .i64 i))
    (fun τ σ' => σ'.get σ.nx = some (.cells 49 ((subL A B).map wd) 0 0 (some 0) []) ∧ Keep σ σ' ∧ σ.nx.toNat < σ'.nx.toNat ∧ τ.get (pk 5) = some (.sl σ.nx 0 0 A.length (some A.length) 0))
    ?_ (k := A.length) hlf ?_) ?_
  · rintro k τ σ' ⟨i, hi, rfl, hg, hK, hnx, g0, g1, g5, g6, g15, g16⟩
    by_cases hlt : i < A.length
    · have d1 := lt_true hlt
      have ha' := ha.keep hw hK
      have hb' := hb.keep hw hK
      obtain ⟨q, hq1, hq2⟩ := ha'.elem hlt
      have wi : IntKind.i64.wrap ((i : Int) + 1) = ((i + 1 : Nat) : Int) := wrap_add1 (by omega)
      have had := sub64_call (lf := lf) (m := m) (σ := σ') (x := A.getD i 0) (y := B.getD i 0) (c := (suS A B i).2) (hB i) (suS_c A B i)
      rw [← hcf] at had
      have hsub : A.length - i = (A.length - (i + 1)) + 1 := by omega
      rw [hsub, rp] at hg
      have key := fun w : Nat => app_in (f := wd) (fun _ => rfl) (σ := σ'.new (.cells 49 [.int .u64 w] 0 0 (some 0) [])) (ty := 49) (eb := 8) (x := σ.nx) (cap := A.length) (C := (suS A B i).1) (y := .sl σ'.nx 0 0 1 (some 1) 0) (w := w) (k := i)
        (UG.one (by rw [H.get_new, if_pos rfl]; rfl)) (by rw [H.get_new, if_neg (fun e => by rw [e] at hnx; omega)]; exact hg) (suS_len A B i).symm (by omega)
      have hfin : ∀ w : Nat, Keep σ ((σ'.new (.cells 49 [.int .u64 w] 0 0 (some 0) [])).put σ.nx (.cells 49 (((suS A B i).1 ++ [w]).map wd ++ repl [.int .u64 0] (A.length - (i + 1))) 0 0 (some 0) [])) := fun w =>
        (hK.trans (Keep.new _ _)).put (Nat.le_refl _) (by rw [nx_new]; omega) _
      by_cases hb2 : i < B.length
      · have d2 := lt_true hb2
        obtain ⟨r, r1, r2⟩ := hb'.elem hb2
        simp only [b155_0, QU, oP, oR, oA, oH, oPn, oRn, oAn, oHn, bi, ld, ki, kt, kf, s_ops_nil, s_ops_cons, s_ops_nx, s_ops_pn, s_seq, s_seq_nx, s_seq_ex, s_seq_rt, s_skip, s_ret, s_exit, s_reg, s_cond, s_cond_t, s_cond_f, s_blk, s_blk_nx, s_blk_rt, s_blk_ex, s_put, s_P, s_R, s_A, s_A_some, s_C_ret, s_C_pan, s_H, s_H_ok, s_H_call, s_H_pan, s_gd, s_gd_bool, s_gd_undef, e_t, e_k, e_mv, e_pick, e_pick_b, e_bin, e_add_i64, e_add_i32, e_sub_i64, e_sub_u8, e_mul_i64, e_addU, e_mulU, e_addU32, e_mulU32, e_eql, e_neq, e_lss, e_leq, e_gtr, e_geq, e_str_eql, e_str_neq, e_iaddr, e_iaddr_int, e_lens, e_ld, e_extract, e_ex0, e_ex1, e_ex2, e_lenS, e_lenS_str, e_cii, e_cii_int, e_slsl_hm, e_sl2, e_slsl_h, e_sl1, e_slis, e_evL_nil, e_evL_cons, e_cons, e_call, e_callk, e_app, e_appk, e_store, e_stk, e_next, e_nextk, e_range, e_rangek, e_bs1, e_bs1i, e_bs0, e_mksl, e_mkslk, e_AK_sl, e_AK_it, e_AK_ptr, e_not, e_notb, e_xori, e_idxs, s_Hn, s_Hnk, s_Nx, s_Rt, s_NR_nx, s_NR_rt, s_NXT_nx, s_NXT_ex, s_NXT_rt, e_lenV_sl, e_lenV_nils, get_pk, k_bind, true_and, and_true, if_true, if_false, Bool.true_eq, beq_self_eq_true, reduceIte, Bool.false_eq_true, reduceCtorEq, bne_self_eq_false, Nat.reduceAdd, Nat.reduceLeDiff, Nat.reduceEqDiff, Nat.reduceSub, Nat.reduceBEq, Int.reduceBEq, Int.reduceNeg, Int.reduceLT, Int.reduceLE, Nat.succ_ne_self, Bool.not_true, Bool.not_false, Bool.true_beq, Bool.false_beq, decide_true, decide_false, exists_eq_left', Option.some.injEq, g0, g1, g5, g6, g15, g16, d1, d2, hq1, hq2, r1, r2, wd, hb'.len, had, wi, key]
        refine ⟨A.length - (i + 1), by omega, i + 1, by omega, rfl, ?_, hfin _, by simp only [nx_put, nx_new]; omega, rfl, rfl, rfl⟩
        rw [H.get_put, if_pos rfl]; rfl
      · have d2 := lt_false hb2
        rw [getD_ge hb2, show (((0 : Nat)) : Int) = 0 from rfl] at had
        simp only [b155_0, QU, oP, oR, oA, oH, oPn, oRn, oAn, oHn, bi, ld, ki, kt, kf, s_ops_nil, s_ops_cons, s_ops_nx, s_ops_pn, s_seq, s_seq_nx, s_seq_ex, s_seq_rt, s_skip, s_ret, s_exit, s_reg, s_cond, s_cond_t, s_cond_f, s_blk, s_blk_nx, s_blk_rt, s_blk_ex, s_put, s_P, s_R, s_A, s_A_some, s_C_ret, s_C_pan, s_H, s_H_ok, s_H_call, s_H_pan, s_gd, s_gd_bool, s_gd_undef, e_t, e_k, e_mv, e_pick, e_pick_b, e_bin, e_add_i64, e_add_i32, e_sub_i64, e_sub_u8, e_mul_i64, e_addU, e_mulU, e_addU32, e_mulU32, e_eql, e_neq, e_lss, e_leq, e_gtr, e_geq, e_str_eql, e_str_neq, e_iaddr, e_iaddr_int, e_lens, e_ld, e_extract, e_ex0, e_ex1, e_ex2, e_lenS, e_lenS_str, e_cii, e_cii_int, e_slsl_hm, e_sl2, e_slsl_h, e_sl1, e_slis, e_evL_nil, e_evL_cons, e_cons, e_call, e_callk, e_app, e_appk, e_store, e_stk, e_next, e_nextk, e_range, e_rangek, e_bs1, e_bs1i, e_bs0, e_mksl, e_mkslk, e_AK_sl, e_AK_it, e_AK_ptr, e_not, e_notb, e_xori, e_idxs, s_Hn, s_Hnk, s_Nx, s_Rt, s_NR_nx, s_NR_rt, s_NXT_nx, s_NXT_ex, s_NXT_rt, e_lenV_sl, e_lenV_nils, get_pk, k_bind, true_and, and_true, if_true, if_false, Bool.true_eq, beq_self_eq_true, reduceIte, Bool.false_eq_true, reduceCtorEq, bne_self_eq_false, Nat.reduceAdd, Nat.reduceLeDiff, Nat.reduceEqDiff, Nat.reduceSub, Nat.reduceBEq, Int.reduceBEq, Int.reduceNeg, Int.reduceLT, Int.reduceLE, Nat.succ_ne_self, Bool.not_true, Bool.not_false, Bool.true_beq, Bool.false_beq, decide_true, decide_false, exists_eq_left', Option.some.injEq, g0, g1, g5, g6, g15, g16, d1, d2, hq1, hq2, wd, hb'.len, had, wi, key]
        refine ⟨A.length - (i + 1), by omega, i + 1, by omega, rfl, ?_, hfin _, by simp only [nx_put, nx_new]; omega, ?_⟩
        · rw [H.get_put, if_pos rfl]; simp only [suS, getD_ge hb2]
        · simp only [suS, getD_ge hb2, true_and]
    · have d1 := lt_false hlt
      have hie : i = A.length := by omega
      subst hie
      simp only [b155_0, QU, oP, oR, oA, oH, oPn, oRn, oAn, oHn, bi, ld, ki, kt, kf, s_ops_nil, s_ops_cons, s_ops_nx, s_ops_pn, s_seq, s_seq_nx, s_seq_ex, s_seq_rt, s_skip, s_ret, s_exit, s_reg, s_cond, s_cond_t, s_cond_f, s_blk, s_blk_nx, s_blk_rt, s_blk_ex, s_put, s_P, s_R, s_A, s_A_some, s_C_ret, s_C_pan, s_H, s_H_ok, s_H_call, s_H_pan, s_gd, s_gd_bool, s_gd_undef, e_t, e_k, e_mv, e_pick, e_pick_b, e_bin, e_add_i64, e_add_i32, e_sub_i64, e_sub_u8, e_mul_i64, e_addU, e_mulU, e_addU32, e_mulU32, e_eql, e_neq, e_lss, e_leq, e_gtr, e_geq, e_str_eql, e_str_neq, e_iaddr, e_iaddr_int, e_lens, e_ld, e_extract, e_ex0, e_ex1, e_ex2, e_lenS, e_lenS_str, e_cii, e_cii_int, e_slsl_hm, e_sl2, e_slsl_h, e_sl1, e_slis, e_evL_nil, e_evL_cons, e_cons, e_call, e_callk, e_app, e_appk, e_store, e_stk, e_next, e_nextk, e_range, e_rangek, e_bs1, e_bs1i, e_bs0, e_mksl, e_mkslk, e_AK_sl, e_AK_it, e_AK_ptr, e_not, e_notb, e_xori, e_idxs, s_Hn, s_Hnk, s_Nx, s_Rt, s_NR_nx, s_NR_rt, s_NXT_nx, s_NXT_ex, s_NXT_rt, e_lenV_sl, e_lenV_nils, get_pk, k_bind, true_and, and_true, if_true, if_false, Bool.true_eq, beq_self_eq_true, reduceIte, Bool.false_eq_true, reduceCtorEq, bne_self_eq_false, Nat.reduceAdd, Nat.reduceLeDiff, Nat.reduceEqDiff, Nat.reduceSub, Nat.reduceBEq, Int.reduceBEq, Int.reduceNeg, Int.reduceLT, Int.reduceLE, Nat.succ_ne_self, Bool.not_true, Bool.not_false, Bool.true_beq, Bool.false_beq, decide_true, decide_false, exists_eq_left', Option.some.injEq, g15, g16, d1, g5, g6]
      refine ⟨?_, hK, hnx⟩
      rw [hg, Nat.sub_self, show repl [V.int .u64 0] 0 = [] from rfl, List.append_nil]; rfl
  · refine ⟨0, Nat.zero_le _, rfl, by rw [H.get_new, if_pos rfl]; rfl, Keep.new _ _, by rw [nx_new]; omega, ?_⟩
    simp only [QU, oP, oR, oA, oH, oPn, oRn, oAn, oHn, bi, ld, ki, kt, kf, s_ops_nil, s_ops_cons, s_ops_nx, s_ops_pn, s_seq, s_seq_nx, s_seq_ex, s_seq_rt, s_skip, s_ret, s_exit, s_reg, s_cond, s_cond_t, s_cond_f, s_blk, s_blk_nx, s_blk_rt, s_blk_ex, s_put, s_P, s_R, s_A, s_A_some, s_C_ret, s_C_pan, s_H, s_H_ok, s_H_call, s_H_pan, s_gd, s_gd_bool, s_gd_undef, e_t, e_k, e_mv, e_pick, e_pick_b, e_bin, e_add_i64, e_add_i32, e_sub_i64, e_sub_u8, e_mul_i64, e_addU, e_mulU, e_addU32, e_mulU32, e_eql, e_neq, e_lss, e_leq, e_gtr, e_geq, e_str_eql, e_str_neq, e_iaddr, e_iaddr_int, e_lens, e_ld, e_extract, e_ex0, e_ex1, e_ex2, e_lenS, e_lenS_str, e_cii, e_cii_int, e_slsl_hm, e_sl2, e_slsl_h, e_sl1, e_slis, e_evL_nil, e_evL_cons, e_cons, e_call, e_callk, e_app, e_appk, e_store, e_stk, e_next, e_nextk, e_range, e_rangek, e_bs1, e_bs1i, e_bs0, e_mksl, e_mkslk, e_AK_sl, e_AK_it, e_AK_ptr, e_not, e_notb, e_xori, e_idxs, s_Hn, s_Hnk, s_Nx, s_Rt, s_NR_nx, s_NR_rt, s_NXT_nx, s_NXT_ex, s_NXT_rt, e_lenV_sl, e_lenV_nils, get_pk, k_bind, true_and, and_true, if_true, if_false, Bool.true_eq, beq_self_eq_true, reduceIte, Bool.false_eq_true, reduceCtorEq, bne_self_eq_false, Nat.reduceAdd, Nat.reduceLeDiff, Nat.reduceEqDiff, Nat.reduceSub, Nat.reduceBEq, Int.reduceBEq, Int.reduceNeg, Int.reduceLT, Int.reduceLE, Nat.succ_ne_self, Bool.not_true, Bool.not_false, Bool.true_beq, Bool.false_beq, decide_true, decide_false, exists_eq_left', Option.some.injEq, h0, h1, suS]
    exact ⟨rfl, rfl⟩
  · rintro τ σ' ⟨hg, hK, hnx, g5⟩
    have hlen : (subL A B).length = A.length := suS_len A B _
    have hu : U σ' (.sl σ.nx 0 0 A.length (some A.length) 0) (subL A B) := by
      rw [← hlen]
      refine UG.of_get hg ?_
      simp [okSl]
    obtain ⟨a', t1, t2⟩ := trimmed_call (lf := lf) (m := m) hu (by omega) (by omega)
    rw [← hcf] at t1
    simp only [QU, oP, oR, oA, oH, oPn, oRn, oAn, oHn, bi, ld, ki, kt, kf, s_ops_nil, s_ops_cons, s_ops_nx, s_ops_pn, s_seq, s_seq_nx, s_seq_ex, s_seq_rt, s_skip, s_ret, s_exit, s_reg, s_cond, s_cond_t, s_cond_f, s_blk, s_blk_nx, s_blk_rt, s_blk_ex, s_put, s_P, s_R, s_A, s_A_some, s_C_ret, s_C_pan, s_H, s_H_ok, s_H_call, s_H_pan, s_gd, s_gd_bool, s_gd_undef, e_t, e_k, e_mv, e_pick, e_pick_b, e_bin, e_add_i64, e_add_i32, e_sub_i64, e_sub_u8, e_mul_i64, e_addU, e_mulU, e_addU32, e_mulU32, e_eql, e_neq, e_lss, e_leq, e_gtr, e_geq, e_str_eql, e_str_neq, e_iaddr, e_iaddr_int, e_lens, e_ld, e_extract, e_ex0, e_ex1, e_ex2, e_lenS, e_lenS_str, e_cii, e_cii_int, e_slsl_hm, e_sl2, e_slsl_h, e_sl1, e_slis, e_evL_nil, e_evL_cons, e_cons, e_call, e_callk, e_app, e_appk, e_store, e_stk, e_next, e_nextk, e_range, e_rangek, e_bs1, e_bs1i, e_bs0, e_mksl, e_mkslk, e_AK_sl, e_AK_it, e_AK_ptr, e_not, e_notb, e_xori, e_idxs, s_Hn, s_Hnk, s_Nx, s_Rt, s_NR_nx, s_NR_rt, s_NXT_nx, s_NXT_ex, s_NXT_rt, e_lenV_sl, e_lenV_nils, get_pk, k_bind, true_and, and_true, if_true, if_false, Bool.true_eq, beq_self_eq_true, reduceIte, Bool.false_eq_true, reduceCtorEq, bne_self_eq_false, Nat.reduceAdd, Nat.reduceLeDiff, Nat.reduceEqDiff, Nat.reduceSub, Nat.reduceBEq, Int.reduceBEq, Int.reduceNeg, Int.reduceLT, Int.reduceLE, Nat.succ_ne_self, Bool.not_true, Bool.not_false, Bool.true_beq, Bool.false_beq, decide_true, decide_false, exists_eq_left', Option.some.injEq, g5, t1]
    exact ⟨t2, hK⟩

/-- what it says -/
theorem suS_val {A B : List Nat} (hA : wok A) (hB : wok B) : ∀ i, val (suS A B i).1 + val (B.take i) = val (A.take i) + WW ^ i * (suS A B i).2
  | 0 => rfl
  | i + 1 => by
    have ih := suS_val hA hB i
    have hc := suS_c A B i
    have hai := hA i
    have hbi := hB i
    simp only [suS]
    rw [val_append, suS_len, val_take_succ, val_take_succ, Nat.pow_succ]
    generalize (suS A B i).2 = c at *
    generalize A.getD i 0 = x at *
    generalize B.getD i 0 = y at *
    generalize val (suS A B i).1 = s at *
    generalize val (B.take i) = vb at *
    generalize val (A.take i) = va at *
    generalize WW ^ i = p at *
    have hd : (x + WW - y - c) % WW + y + c = x + WW * (if x < y + c then 1 else 0) := by
      split
      · rw [Nat.mod_eq_of_lt (by omega)]; omega
      · have : x + WW - y - c = (x - y - c) + WW := by omega
        rw [this, Nat.add_mod_right, Nat.mod_eq_of_lt (by omega)]; omega
    generalize (x + WW - y - c) % WW = d at *
    generalize (if x < y + c then 1 else 0) = e at *
    have h2 : p * d + p * y + p * c = p * x + p * (WW * e) := by
      rw [← Nat.mul_add, ← Nat.mul_add, hd, Nat.mul_add]
    rw [Nat.mul_assoc]
    omega
theorem suS_ok (A B : List Nat) : ∀ i, ∀ x ∈ (suS A B i).1, x < WW
  | 0 => fun x h => by cases h
  | i + 1 => fun x h => by
    simp only [suS, List.mem_append, List.mem_singleton] at h
    rcases h with h | rfl
    · exact suS_ok A B i x h
    · exact Nat.mod_lt _ (by decide)
theorem subL_ok (A B : List Nat) : wok (subL A B) := wok_of (suS_ok A B _)
theorem subL_val {A B : List Nat} (hA : wok A) (hB : wok B) (h : val B ≤ val A) (hl : B.length ≤ A.length) : val (subL A B) = val A - val B := by
  have h1 := suS_val hA hB A.length
  rw [List.take_of_length_le (Nat.le_refl _), List.take_of_length_le hl] at h1
  have h2 : val (subL A B) < WW ^ A.length := by
    have := val_lt (suS_ok A B A.length)
    rwa [suS_len] at this
  have h3 := suS_c A B A.length
  unfold subL at *
  generalize (suS A B A.length).2 = c at *
  have : c = 0 ∨ c = 1 := by omega
  rcases this with rfl | rfl
  · omega
  · have h4 : val A < WW ^ A.length := val_lt (wok_mem hA)
    omega
end Go.Proofs.YtahgfodccndcjaaGreatEng

namespace Go.Proofs.YtahgfodccndcjaaGreatEng
open Go
set_option maxRecDepth 100000
set_option linter.unusedSimpArgs false

theorem wrap_w64 {n : Int} (h : -9223372036854775808 ≤ n ∧ n < 9223372036854775808) : IntKind.i64.wrap n = n := by
  simp [IntKind.wrap, IntKind.bits, IntKind.signed]; omega
theorem val_take_lt {L : List Nat} (h : wok L) (i : Nat) : val (L.take i) < WW ^ i := by
  have h1 : val (L.take i) < WW ^ (L.take i).length := val_lt fun x hx => wok_mem h x (List.mem_of_mem_take hx)
  exact Nat.lt_of_lt_of_le h1 (Nat.pow_le_pow_right (by decide) (by simp; omega))
/-- where two first differ, from above -/
theorem lt_at {A B : List Nat} (hA : wok A) (hB : wok B) {i : Nat} (h : val (A.take (i + 1)) < val (B.take (i + 1))) (hne : A.getD i 0 ≠ B.getD i 0) : A.getD i 0 < B.getD i 0 := by
  refine Nat.lt_of_not_le fun hle => ?_
  have h1 := val_take_succ A i
  have h2 := val_take_succ B i
  have h3 := val_take_lt hB i
  have h4 : WW ^ i * (B.getD i 0 + 1) ≤ WW ^ i * A.getD i 0 := Nat.mul_le_mul_left _ (by omega)
  rw [Nat.mul_add, Nat.mul_one] at h4
  omega
theorem trimd_ge {L : List Nat} (h : trimd L) (hL : L.length ≠ 0) : WW ^ (L.length - 1) ≤ val L := by
  have h0 : L.getD (L.length - 1) 0 ≠ 0 := h.resolve_left hL
  have h1 := val_take_succ L (L.length - 1)
  rw [List.take_of_length_le (by omega)] at h1
  have h2 : WW ^ (L.length - 1) * 1 ≤ WW ^ (L.length - 1) * L.getD (L.length - 1) 0 := Nat.mul_le_mul_left _ (by omega)
  omega
theorem len_le {A B : List Nat} (hA : trimd A) (hB : wok B) (h : val A < val B) : A.length ≤ B.length := by
  refine Nat.le_of_not_lt fun hlt => ?_
  have h1 := trimd_ge hA (by omega)
  have h2 : val B < WW ^ B.length := val_lt (wok_mem hB)
  have h3 : WW ^ B.length ≤ WW ^ (A.length - 1) := Nat.pow_le_pow_right (by decide) (by omega)
  omega

theorem c142_at : T1.code 142 = some c142 := by kernel_rfl
/-- cmp -/
theorem wcmp_call {lf m : Nat} {σ : H} {a b : V} {A B : List Nat} (ha : U σ a A) (hb : U σ b B) (hA : wok A) (hB : wok B) (htA : trimd A) (h : val A < val B) (hlf : A.length < lf) (hl : A.length < 17592186048512) :
    call T1 lf (m + 1) 142 [a, b] σ = .ret (.int .i64 (-1)) σ := by
  have key : ∃ v σ', call T1 lf (m + 1) 142 [a, b] σ = .ret v σ' ∧ (v = .int .i64 (-1) ∧ σ' = σ) := by
    refine call_rt1 (p := pk 4) rfl c142_at (by simp [c142]) rfl fun cf hcf => ?_
    clear hcf
    generalize hτ : bindArgs [a, b] .h .lf = τ0
    have h0 : τ0.get (pk 0) = some a := by rw [← hτ]; rfl
    have h1 : τ0.get (pk 1) = some b := by rw [← hτ]; rfl
    clear hτ
    have hle := len_le htA hB h
    by_cases hne : A.length = B.length
    · have e0 : ((A.length : Int) != (B.length : Int)) = false := by rw [hne]; simp
      have w1 : IntKind.i64.wrap ((A.length : Int) - 1) = (A.length : Int) - 1 := wrap_w64 (by omega)
      simp only [c142, QU, oP, oR, oA, oH, oPn, oRn, oAn, oHn, bi, ld, ki, kt, kf, s_ops_nil, s_ops_cons, s_ops_nx, s_ops_pn, s_seq, s_seq_nx, s_seq_ex, s_seq_rt, s_skip, s_ret, s_exit, s_reg, s_cond, s_cond_t, s_cond_f, s_blk, s_blk_nx, s_blk_rt, s_blk_ex, s_put, s_P, s_R, s_A, s_A_some, s_C_ret, s_C_pan, s_H, s_H_ok, s_H_call, s_H_pan, s_gd, s_gd_bool, s_gd_undef, e_t, e_k, e_mv, e_pick, e_pick_b, e_bin, e_add_i64, e_add_i32, e_sub_i64, e_sub_u8, e_mul_i64, e_addU, e_mulU, e_addU32, e_mulU32, e_eql, e_neq, e_lss, e_leq, e_gtr, e_geq, e_str_eql, e_str_neq, e_iaddr, e_iaddr_int, e_lens, e_ld, e_extract, e_ex0, e_ex1, e_ex2, e_lenS, e_lenS_str, e_cii, e_cii_int, e_slsl_hm, e_sl2, e_slsl_h, e_sl1, e_slis, e_evL_nil, e_evL_cons, e_cons, e_call, e_callk, e_app, e_appk, e_store, e_stk, e_next, e_nextk, e_range, e_rangek, e_bs1, e_bs1i, e_bs0, e_mksl, e_mkslk, e_AK_sl, e_AK_it, e_AK_ptr, e_not, e_notb, e_xori, e_idxs, s_Hn, s_Hnk, s_Nx, s_Rt, s_NR_nx, s_NR_rt, s_NXT_nx, s_NXT_ex, s_NXT_rt, e_lenV_sl, e_lenV_nils, get_pk, k_bind, true_and, and_true, if_true, if_false, Bool.true_eq, beq_self_eq_true, reduceIte, Bool.false_eq_true, reduceCtorEq, bne_self_eq_false, Nat.reduceAdd, Nat.reduceLeDiff, Nat.reduceEqDiff, Nat.reduceSub, Nat.reduceBEq, Int.reduceBEq, Int.reduceNeg, Int.reduceLT, Int.reduceLE, Nat.succ_ne_self, Bool.not_true, Bool.not_false, Bool.true_beq, Bool.false_beq, decide_true, decide_false, exists_eq_left', Option.some.injEq, h0, h1, ha.len, hb.len, e0, w1]
      refine Rt_seqNR (loop_rule (fun k τ σ' => k ≤ A.length ∧ σ' = σ ∧ τ.get (pk 0) = some a ∧ τ.get (pk 1) = some b ∧ τ.get (pk 5) = some (.int .i64 ((k : Int) - 1)) ∧ val (A.take k) < val (B.take k))
        (fun _ _ => False) _ ?_ (k := A.length) (by omega) ?_) ?_
      · rintro k τ σ' ⟨hk, hσ, g0, g1, g5, hv⟩
        subst hσ
        cases k with
        | zero => simp [val] at hv
        | succ j =>
          have ej : (((j + 1 : Nat) : Int) - 1) = (j : Int) := by omega
          rw [ej] at g5
          have d1 : decide ((0 : Int) ≤ (j : Int)) = true := by simp
          obtain ⟨q, hq1, hq2⟩ := ha.elem (i := j) (by omega)
          obtain ⟨r, r1, r2⟩ := hb.elem (i := j) (by omega)
          have wj : IntKind.i64.wrap ((j : Int) - 1) = (j : Int) - 1 := wrap_w64 (by omega)
          by_cases he : A.getD j 0 = B.getD j 0
          · have e1 : (((A.getD j 0 : Nat) : Int) != ((B.getD j 0 : Nat) : Int)) = false := by rw [he]; simp
            simp only [b142_0, QU, oP, oR, oA, oH, oPn, oRn, oAn, oHn, bi, ld, ki, kt, kf, s_ops_nil, s_ops_cons, s_ops_nx, s_ops_pn, s_seq, s_seq_nx, s_seq_ex, s_seq_rt, s_skip, s_ret, s_exit, s_reg, s_cond, s_cond_t, s_cond_f, s_blk, s_blk_nx, s_blk_rt, s_blk_ex, s_put, s_P, s_R, s_A, s_A_some, s_C_ret, s_C_pan, s_H, s_H_ok, s_H_call, s_H_pan, s_gd, s_gd_bool, s_gd_undef, e_t, e_k, e_mv, e_pick, e_pick_b, e_bin, e_add_i64, e_add_i32, e_sub_i64, e_sub_u8, e_mul_i64, e_addU, e_mulU, e_addU32, e_mulU32, e_eql, e_neq, e_lss, e_leq, e_gtr, e_geq, e_str_eql, e_str_neq, e_iaddr, e_iaddr_int, e_lens, e_ld, e_extract, e_ex0, e_ex1, e_ex2, e_lenS, e_lenS_str, e_cii, e_cii_int, e_slsl_hm, e_sl2, e_slsl_h, e_sl1, e_slis, e_evL_nil, e_evL_cons, e_cons, e_call, e_callk, e_app, e_appk, e_store, e_stk, e_next, e_nextk, e_range, e_rangek, e_bs1, e_bs1i, e_bs0, e_mksl, e_mkslk, e_AK_sl, e_AK_it, e_AK_ptr, e_not, e_notb, e_xori, e_idxs, s_Hn, s_Hnk, s_Nx, s_Rt, s_NR_nx, s_NR_rt, s_NXT_nx, s_NXT_ex, s_NXT_rt, e_lenV_sl, e_lenV_nils, get_pk, k_bind, true_and, and_true, if_true, if_false, Bool.true_eq, beq_self_eq_true, reduceIte, Bool.false_eq_true, reduceCtorEq, bne_self_eq_false, Nat.reduceAdd, Nat.reduceLeDiff, Nat.reduceEqDiff, Nat.reduceSub, Nat.reduceBEq, Int.reduceBEq, Int.reduceNeg, Int.reduceLT, Int.reduceLE, Nat.succ_ne_self, Bool.not_true, Bool.not_false, Bool.true_beq, Bool.false_beq, decide_true, decide_false, exists_eq_left', Option.some.injEq, w_drw, w_nil, w_0, w_3, w_0nx, w_1s, w_1nx, w_1lk, w_1ls, w_2, w_2nx, g0, g1, g5, d1, hq1, hq2, r1, r2, wd, e1, wj, List.all_nil]
            refine ⟨j, Nat.lt_succ_self j, by omega, rfl, ?_⟩
            rw [val_take_succ, val_take_succ, he] at hv
            omega
          · have e1 : (((A.getD j 0 : Nat) : Int) != ((B.getD j 0 : Nat) : Int)) = true := by simp only [bne_iff_ne, ne_eq]; omega
            have e2 := lt_true (lt_at hA hB hv he)
            simp only [b142_0, QU, oP, oR, oA, oH, oPn, oRn, oAn, oHn, bi, ld, ki, kt, kf, s_ops_nil, s_ops_cons, s_ops_nx, s_ops_pn, s_seq, s_seq_nx, s_seq_ex, s_seq_rt, s_skip, s_ret, s_exit, s_reg, s_cond, s_cond_t, s_cond_f, s_blk, s_blk_nx, s_blk_rt, s_blk_ex, s_put, s_P, s_R, s_A, s_A_some, s_C_ret, s_C_pan, s_H, s_H_ok, s_H_call, s_H_pan, s_gd, s_gd_bool, s_gd_undef, e_t, e_k, e_mv, e_pick, e_pick_b, e_bin, e_add_i64, e_add_i32, e_sub_i64, e_sub_u8, e_mul_i64, e_addU, e_mulU, e_addU32, e_mulU32, e_eql, e_neq, e_lss, e_leq, e_gtr, e_geq, e_str_eql, e_str_neq, e_iaddr, e_iaddr_int, e_lens, e_ld, e_extract, e_ex0, e_ex1, e_ex2, e_lenS, e_lenS_str, e_cii, e_cii_int, e_slsl_hm, e_sl2, e_slsl_h, e_sl1, e_slis, e_evL_nil, e_evL_cons, e_cons, e_call, e_callk, e_app, e_appk, e_store, e_stk, e_next, e_nextk, e_range, e_rangek, e_bs1, e_bs1i, e_bs0, e_mksl, e_mkslk, e_AK_sl, e_AK_it, e_AK_ptr, e_not, e_notb, e_xori, e_idxs, s_Hn, s_Hnk, s_Nx, s_Rt, s_NR_nx, s_NR_rt, s_NXT_nx, s_NXT_ex, s_NXT_rt, e_lenV_sl, e_lenV_nils, get_pk, k_bind, true_and, and_true, if_true, if_false, Bool.true_eq, beq_self_eq_true, reduceIte, Bool.false_eq_true, reduceCtorEq, bne_self_eq_false, Nat.reduceAdd, Nat.reduceLeDiff, Nat.reduceEqDiff, Nat.reduceSub, Nat.reduceBEq, Int.reduceBEq, Int.reduceNeg, Int.reduceLT, Int.reduceLE, Nat.succ_ne_self, Bool.not_true, Bool.not_false, Bool.true_beq, Bool.false_beq, decide_true, decide_false, exists_eq_left', Option.some.injEq, w_drw, w_nil, w_0, w_3, w_0nx, w_1s, w_1nx, w_1lk, w_1ls, w_2, w_2nx, g0, g1, g5, d1, hq1, hq2, r1, r2, wd, e1, e2, wj, List.all_nil]
      · refine ⟨Nat.le_refl _, rfl, by simp only [QU, oP, oR, oA, oH, oPn, oRn, oAn, oHn, bi, ld, ki, kt, kf, s_ops_nil, s_ops_cons, s_ops_nx, s_ops_pn, s_seq, s_seq_nx, s_seq_ex, s_seq_rt, s_skip, s_ret, s_exit, s_reg, s_cond, s_cond_t, s_cond_f, s_blk, s_blk_nx, s_blk_rt, s_blk_ex, s_put, s_P, s_R, s_A, s_A_some, s_C_ret, s_C_pan, s_H, s_H_ok, s_H_call, s_H_pan, s_gd, s_gd_bool, s_gd_undef, e_t, e_k, e_mv, e_pick, e_pick_b, e_bin, e_add_i64, e_add_i32, e_sub_i64, e_sub_u8, e_mul_i64, e_addU, e_mulU, e_addU32, e_mulU32, e_eql, e_neq, e_lss, e_leq, e_gtr, e_geq, e_str_eql, e_str_neq, e_iaddr, e_iaddr_int, e_lens, e_ld, e_extract, e_ex0, e_ex1, e_ex2, e_lenS, e_lenS_str, e_cii, e_cii_int, e_slsl_hm, e_sl2, e_slsl_h, e_sl1, e_slis, e_evL_nil, e_evL_cons, e_cons, e_call, e_callk, e_app, e_appk, e_store, e_stk, e_next, e_nextk, e_range, e_rangek, e_bs1, e_bs1i, e_bs0, e_mksl, e_mkslk, e_AK_sl, e_AK_it, e_AK_ptr, e_not, e_notb, e_xori, e_idxs, s_Hn, s_Hnk, s_Nx, s_Rt, s_NR_nx, s_NR_rt, s_NXT_nx, s_NXT_ex, s_NXT_rt, e_lenV_sl, e_lenV_nils, get_pk, k_bind, true_and, and_true, if_true, if_false, Bool.true_eq, beq_self_eq_true, reduceIte, Bool.false_eq_true, reduceCtorEq, bne_self_eq_false, Nat.reduceAdd, Nat.reduceLeDiff, Nat.reduceEqDiff, Nat.reduceSub, Nat.reduceBEq, Int.reduceBEq, Int.reduceNeg, Int.reduceLT, Int.reduceLE, Nat.succ_ne_self, Bool.not_true, Bool.not_false, Bool.true_beq, Bool.false_beq, decide_true, decide_false, exists_eq_left', Option.some.injEq, h0], by simp only [QU, oP, oR, oA, oH, oPn, oRn, oAn, oHn, bi, ld, ki, kt, kf, s_ops_nil, s_ops_cons, s_ops_nx, s_ops_pn, s_seq, s_seq_nx, s_seq_ex, s_seq_rt, s_skip, s_ret, s_exit, s_reg, s_cond, s_cond_t, s_cond_f, s_blk, s_blk_nx, s_blk_rt, s_blk_ex, s_put, s_P, s_R, s_A, s_A_some, s_C_ret, s_C_pan, s_H, s_H_ok, s_H_call, s_H_pan, s_gd, s_gd_bool, s_gd_undef, e_t, e_k, e_mv, e_pick, e_pick_b, e_bin, e_add_i64, e_add_i32, e_sub_i64, e_sub_u8, e_mul_i64, e_addU, e_mulU, e_addU32, e_mulU32, e_eql, e_neq, e_lss, e_leq, e_gtr, e_geq, e_str_eql, e_str_neq, e_iaddr, e_iaddr_int, e_lens, e_ld, e_extract, e_ex0, e_ex1, e_ex2, e_lenS, e_lenS_str, e_cii, e_cii_int, e_slsl_hm, e_sl2, e_slsl_h, e_sl1, e_slis, e_evL_nil, e_evL_cons, e_cons, e_call, e_callk, e_app, e_appk, e_store, e_stk, e_next, e_nextk, e_range, e_rangek, e_bs1, e_bs1i, e_bs0, e_mksl, e_mkslk, e_AK_sl, e_AK_it, e_AK_ptr, e_not, e_notb, e_xori, e_idxs, s_Hn, s_Hnk, s_Nx, s_Rt, s_NR_nx, s_NR_rt, s_NXT_nx, s_NXT_ex, s_NXT_rt, e_lenV_sl, e_lenV_nils, get_pk, k_bind, true_and, and_true, if_true, if_false, Bool.true_eq, beq_self_eq_true, reduceIte, Bool.false_eq_true, reduceCtorEq, bne_self_eq_false, Nat.reduceAdd, Nat.reduceLeDiff, Nat.reduceEqDiff, Nat.reduceSub, Nat.reduceBEq, Int.reduceBEq, Int.reduceNeg, Int.reduceLT, Int.reduceLE, Nat.succ_ne_self, Bool.not_true, Bool.not_false, Bool.true_beq, Bool.false_beq, decide_true, decide_false, exists_eq_left', Option.some.injEq, h1], by simp only [QU, oP, oR, oA, oH, oPn, oRn, oAn, oHn, bi, ld, ki, kt, kf, s_ops_nil, s_ops_cons, s_ops_nx, s_ops_pn, s_seq, s_seq_nx, s_seq_ex, s_seq_rt, s_skip, s_ret, s_exit, s_reg, s_cond, s_cond_t, s_cond_f, s_blk, s_blk_nx, s_blk_rt, s_blk_ex, s_put, s_P, s_R, s_A, s_A_some, s_C_ret, s_C_pan, s_H, s_H_ok, s_H_call, s_H_pan, s_gd, s_gd_bool, s_gd_undef, e_t, e_k, e_mv, e_pick, e_pick_b, e_bin, e_add_i64, e_add_i32, e_sub_i64, e_sub_u8, e_mul_i64, e_addU, e_mulU, e_addU32, e_mulU32, e_eql, e_neq, e_lss, e_leq, e_gtr, e_geq, e_str_eql, e_str_neq, e_iaddr, e_iaddr_int, e_lens, e_ld, e_extract, e_ex0, e_ex1, e_ex2, e_lenS, e_lenS_str, e_cii, e_cii_int, e_slsl_hm, e_sl2, e_slsl_h, e_sl1, e_slis, e_evL_nil, e_evL_cons, e_cons, e_call, e_callk, e_app, e_appk, e_store, e_stk, e_next, e_nextk, e_range, e_rangek, e_bs1, e_bs1i, e_bs0, e_mksl, e_mkslk, e_AK_sl, e_AK_it, e_AK_ptr, e_not, e_notb, e_xori, e_idxs, s_Hn, s_Hnk, s_Nx, s_Rt, s_NR_nx, s_NR_rt, s_NXT_nx, s_NXT_ex, s_NXT_rt, e_lenV_sl, e_lenV_nils, get_pk, k_bind, true_and, and_true, if_true, if_false, Bool.true_eq, beq_self_eq_true, reduceIte, Bool.false_eq_true, reduceCtorEq, bne_self_eq_false, Nat.reduceAdd, Nat.reduceLeDiff, Nat.reduceEqDiff, Nat.reduceSub, Nat.reduceBEq, Int.reduceBEq, Int.reduceNeg, Int.reduceLT, Int.reduceLE, Nat.succ_ne_self, Bool.not_true, Bool.not_false, Bool.true_beq, Bool.false_beq, decide_true, decide_false, exists_eq_left', Option.some.injEq], ?_⟩
        rw [List.take_of_length_le (Nat.le_refl _), List.take_of_length_le (by omega)]
        exact h
      · rintro τ σ' h
        exact h.elim
    · have e0 : ((A.length : Int) != (B.length : Int)) = true := by simp only [bne_iff_ne, ne_eq]; omega
      have e1 := lt_true (show A.length < B.length by omega)
      simp only [c142, QU, oP, oR, oA, oH, oPn, oRn, oAn, oHn, bi, ld, ki, kt, kf, s_ops_nil, s_ops_cons, s_ops_nx, s_ops_pn, s_seq, s_seq_nx, s_seq_ex, s_seq_rt, s_skip, s_ret, s_exit, s_reg, s_cond, s_cond_t, s_cond_f, s_blk, s_blk_nx, s_blk_rt, s_blk_ex, s_put, s_P, s_R, s_A, s_A_some, s_C_ret, s_C_pan, s_H, s_H_ok, s_H_call, s_H_pan, s_gd, s_gd_bool, s_gd_undef, e_t, e_k, e_mv, e_pick, e_pick_b, e_bin, e_add_i64, e_add_i32, e_sub_i64, e_sub_u8, e_mul_i64, e_addU, e_mulU, e_addU32, e_mulU32, e_eql, e_neq, e_lss, e_leq, e_gtr, e_geq, e_str_eql, e_str_neq, e_iaddr, e_iaddr_int, e_lens, e_ld, e_extract, e_ex0, e_ex1, e_ex2, e_lenS, e_lenS_str, e_cii, e_cii_int, e_slsl_hm, e_sl2, e_slsl_h, e_sl1, e_slis, e_evL_nil, e_evL_cons, e_cons, e_call, e_callk, e_app, e_appk, e_store, e_stk, e_next, e_nextk, e_range, e_rangek, e_bs1, e_bs1i, e_bs0, e_mksl, e_mkslk, e_AK_sl, e_AK_it, e_AK_ptr, e_not, e_notb, e_xori, e_idxs, s_Hn, s_Hnk, s_Nx, s_Rt, s_NR_nx, s_NR_rt, s_NXT_nx, s_NXT_ex, s_NXT_rt, e_lenV_sl, e_lenV_nils, get_pk, k_bind, true_and, and_true, if_true, if_false, Bool.true_eq, beq_self_eq_true, reduceIte, Bool.false_eq_true, reduceCtorEq, bne_self_eq_false, Nat.reduceAdd, Nat.reduceLeDiff, Nat.reduceEqDiff, Nat.reduceSub, Nat.reduceBEq, Int.reduceBEq, Int.reduceNeg, Int.reduceLT, Int.reduceLE, Nat.succ_ne_self, Bool.not_true, Bool.not_false, Bool.true_beq, Bool.false_beq, decide_true, decide_false, exists_eq_left', Option.some.injEq, h0, h1, ha.len, hb.len, e0, e1]
  obtain ⟨v, _, h1, rfl, rfl⟩ := key
  exact h1

theorem c146_at : T1.code 146 = some c146 := by kernel_rfl
/-- opposite -/
theorem opposite_call {lf m : Nat} {σ : H} (hw : WfH σ) {a : V} {L : List Nat} {b : Bool} (ha : U σ a L) :
    ∃ σ', call T1 lf (m + 3) 146 [.agg [a, .bool b]] σ = .ret (.agg [a, .bool (sgn (!b) L)]) σ' ∧ Keep σ σ' := by
  have key : ∃ v w σ', call T1 lf (m + 3) 146 [.agg [a, .bool b]] σ = .ret (.agg [v, w]) σ' ∧ (v = a ∧ w = .bool (sgn (!b) L) ∧ Keep σ σ') := by
    refine call_rc (p := pk 2) rfl c146_at (by simp [c146]) rfl fun cf hcf => ?_
    generalize hτ : bindArgs [.agg [a, .bool b]] .h .lf = τ0
    have h0 : τ0.get (pk 0) = some (.agg [a, .bool b]) := by rw [← hτ]; rfl
    clear hτ
    have hKa := Keep.new σ (.cells 123 [a, .bool b] 0 0 (some 0) [])
    have hKb := Keep.new (σ.new (.cells 123 [a, .bool b] 0 0 (some 0) [])) (.cells 123 [.nils, .bool false] 0 0 (some 0) [])
    have ga := hKb.at
    have l0 := ld20 ga
    have l1 := ld21 ga
    obtain ⟨σ3, k1, k2⟩ := signed_call (lf := lf) (m := m) (b := !b) ((hKa.trans hKb).2.2 hw) (ha.keep hw (hKa.trans hKb))
    rw [← hcf] at k1
    obtain ⟨σf, f1, f2, f3, _⟩ := fin_cell (σ := σ.new (.cells 123 [a, .bool b] 0 0 (some 0) [])) (f := wd) (ty := 123) (a := .nils) (b := .bool false) (v := a) (w := .bool (sgn (!b) L)) wd_neN (fun n => wd_neB n false) k2 ha.one_v rfl
    simp only [c146, QU, oP, oR, oA, oH, oPn, oRn, oAn, oHn, bi, ld, ki, kt, kf, s_ops_nil, s_ops_cons, s_ops_nx, s_ops_pn, s_seq, s_seq_nx, s_seq_ex, s_seq_rt, s_skip, s_ret, s_exit, s_reg, s_cond, s_cond_t, s_cond_f, s_blk, s_blk_nx, s_blk_rt, s_blk_ex, s_put, s_P, s_R, s_A, s_A_some, s_C_ret, s_C_pan, s_H, s_H_ok, s_H_call, s_H_pan, s_gd, s_gd_bool, s_gd_undef, e_t, e_k, e_mv, e_pick, e_pick_b, e_bin, e_add_i64, e_add_i32, e_sub_i64, e_sub_u8, e_mul_i64, e_addU, e_mulU, e_addU32, e_mulU32, e_eql, e_neq, e_lss, e_leq, e_gtr, e_geq, e_str_eql, e_str_neq, e_iaddr, e_iaddr_int, e_lens, e_ld, e_extract, e_ex0, e_ex1, e_ex2, e_lenS, e_lenS_str, e_cii, e_cii_int, e_slsl_hm, e_sl2, e_slsl_h, e_sl1, e_slis, e_evL_nil, e_evL_cons, e_cons, e_call, e_callk, e_app, e_appk, e_store, e_stk, e_next, e_nextk, e_range, e_rangek, e_bs1, e_bs1i, e_bs0, e_mksl, e_mkslk, e_AK_sl, e_AK_it, e_AK_ptr, e_not, e_notb, e_xori, e_idxs, s_Hn, s_Hnk, s_Nx, s_Rt, s_NR_nx, s_NR_rt, s_NXT_nx, s_NXT_ex, s_NXT_rt, e_lenV_sl, e_lenV_nils, get_pk, k_bind, true_and, and_true, if_true, if_false, Bool.true_eq, beq_self_eq_true, reduceIte, Bool.false_eq_true, reduceCtorEq, bne_self_eq_false, Nat.reduceAdd, Nat.reduceLeDiff, Nat.reduceEqDiff, Nat.reduceSub, Nat.reduceBEq, Int.reduceBEq, Int.reduceNeg, Int.reduceLT, Int.reduceLE, Nat.succ_ne_self, Bool.not_true, Bool.not_false, Bool.true_beq, Bool.false_beq, decide_true, decide_false, exists_eq_left', Option.some.injEq, e_box, e_box2, e_alloc, e_faddr, e_fadp, h0, l0, l1, k1, f1]
    exact ⟨_, _, _, rfl, f2, rfl, rfl, hKa.trans f3⟩
  obtain ⟨v, w, σ', h1, rfl, rfl, h2⟩ := key
  exact ⟨σ', h1, h2⟩

theorem c139_at : T1.code 139 = some c139 := by kernel_rfl
/-- one -/
theorem one_call {lf m : Nat} {σ : H} :
    ∃ v σ', call T1 lf (m + 1) 139 [] σ = .ret (.agg [v, .bool false]) σ' ∧ Keep σ σ' ∧ U σ' v [1] := by
  have key : ∃ v w σ', call T1 lf (m + 1) 139 [] σ = .ret (.agg [v, w]) σ' ∧ (w = .bool false ∧ Keep σ σ' ∧ U σ' v [1]) := by
    refine call_rc (p := pk 0) rfl c139_at (by simp [c139]) rfl fun cf hcf => ?_
    clear hcf
    generalize hτ : bindArgs [] .h .lf = τ0
    clear hτ
    have hKa := Keep.new σ (.cells 123 [.nils, .bool false] 0 0 (some 0) [])
    have hKb := Keep.new (σ.new (.cells 123 [.nils, .bool false] 0 0 (some 0) [])) (.cells 49 [.int .u64 1] 0 0 (some 0) [])
    have hu : U ((σ.new (.cells 123 [.nils, .bool false] 0 0 (some 0) [])).new (.cells 49 [.int .u64 1] 0 0 (some 0) [])) (.sl (σ.new (.cells 123 [.nils, .bool false] 0 0 (some 0) [])).nx 0 0 1 (some 1) 0) [1] := UG.one (by rw [H.get_new, if_pos rfl]; rfl)
    obtain ⟨σf, f1, f2, f3, f4⟩ := fin_cell (σ := σ) (f := wd) (ty := 123) (a := .nils) (b := .bool false) (v := .sl (σ.new (.cells 123 [.nils, .bool false] 0 0 (some 0) [])).nx 0 0 1 (some 1) 0) (w := .bool false) wd_neN (fun n => wd_neB n false) hKb hu.one_v rfl
    simp only [c139, QU, oP, oR, oA, oH, oPn, oRn, oAn, oHn, bi, ld, ki, kt, kf, s_ops_nil, s_ops_cons, s_ops_nx, s_ops_pn, s_seq, s_seq_nx, s_seq_ex, s_seq_rt, s_skip, s_ret, s_exit, s_reg, s_cond, s_cond_t, s_cond_f, s_blk, s_blk_nx, s_blk_rt, s_blk_ex, s_put, s_P, s_R, s_A, s_A_some, s_C_ret, s_C_pan, s_H, s_H_ok, s_H_call, s_H_pan, s_gd, s_gd_bool, s_gd_undef, e_t, e_k, e_mv, e_pick, e_pick_b, e_bin, e_add_i64, e_add_i32, e_sub_i64, e_sub_u8, e_mul_i64, e_addU, e_mulU, e_addU32, e_mulU32, e_eql, e_neq, e_lss, e_leq, e_gtr, e_geq, e_str_eql, e_str_neq, e_iaddr, e_iaddr_int, e_lens, e_ld, e_extract, e_ex0, e_ex1, e_ex2, e_lenS, e_lenS_str, e_cii, e_cii_int, e_slsl_hm, e_sl2, e_slsl_h, e_sl1, e_slis, e_evL_nil, e_evL_cons, e_cons, e_call, e_callk, e_app, e_appk, e_store, e_stk, e_next, e_nextk, e_range, e_rangek, e_bs1, e_bs1i, e_bs0, e_mksl, e_mkslk, e_AK_sl, e_AK_it, e_AK_ptr, e_not, e_notb, e_xori, e_idxs, s_Hn, s_Hnk, s_Nx, s_Rt, s_NR_nx, s_NR_rt, s_NXT_nx, s_NXT_ex, s_NXT_rt, e_lenV_sl, e_lenV_nils, get_pk, k_bind, true_and, and_true, if_true, if_false, Bool.true_eq, beq_self_eq_true, reduceIte, Bool.false_eq_true, reduceCtorEq, bne_self_eq_false, Nat.reduceAdd, Nat.reduceLeDiff, Nat.reduceEqDiff, Nat.reduceSub, Nat.reduceBEq, Int.reduceBEq, Int.reduceNeg, Int.reduceLT, Int.reduceLE, Nat.succ_ne_self, Bool.not_true, Bool.not_false, Bool.true_beq, Bool.false_beq, decide_true, decide_false, exists_eq_left', Option.some.injEq, e_alloc, e_build2, kB2_one hu.cells1 (show (V.bool false).cells = [V.bool false] from rfl), f1]
    exact ⟨_, _, _, rfl, f2, rfl, f3, f4 _ _ hu⟩
  obtain ⟨v, w, σ', h1, rfl, h2⟩ := key
  exact ⟨v, σ', h1, h2⟩
end Go.Proofs.YtahgfodccndcjaaGreatEng

namespace Go.Proofs.YtahgfodccndcjaaGreatEng
open Go
set_option maxRecDepth 100000
set_option linter.unusedSimpArgs false

theorem c137_at : T1.code 137 = some c137 := by kernel_rfl
theorem e_eqbF {x y : Bool} (h : x ≠ y) : kBin .eql (.sc .bool) (some (.bool x)) (some (.bool y)) = some (.bool false) := by
  cases x <;> cases y <;> first | exact absurd rfl h | rfl
/-- plus -/
theorem wplus_call {lf m : Nat} {σ : H} (hw : WfH σ) {a b : V} {A B : List Nat} {x y : Bool} (hxy : x ≠ y) (ha : U σ a A) (hb : U σ b B) (hA : wok A) (hB : wok B) (htA : trimd A) (h : val A < val B) (hlf : B.length < lf) (hl : B.length < 17592186048512) :
    ∃ v σ', call T1 lf (m + 4) 137 [.agg [a, .bool x], .agg [b, .bool y]] σ = .ret (.agg [v, .bool (sgn y (trimL (subL B A)))]) σ' ∧ Keep σ σ' ∧ U σ' v (trimL (subL B A)) := by
  have hle := len_le htA hB h
  have key : ∃ v w σ', call T1 lf (m + 4) 137 [.agg [a, .bool x], .agg [b, .bool y]] σ = .ret (.agg [v, w]) σ' ∧ (w = .bool (sgn y (trimL (subL B A))) ∧ Keep σ σ' ∧ U σ' v (trimL (subL B A))) := by
    refine call_rc (p := pk 4) rfl c137_at (by simp [c137]) rfl fun cf hcf => ?_
    generalize hτ : bindArgs [.agg [a, .bool x], .agg [b, .bool y]] .h .lf = τ0
    have h0 : τ0.get (pk 0) = some (.agg [a, .bool x]) := by rw [← hτ]; rfl
    have h1 : τ0.get (pk 1) = some (.agg [b, .bool y]) := by rw [← hτ]; rfl
    clear hτ
    have hKa := Keep.new σ (.cells 123 [a, .bool x] 0 0 (some 0) [])
    have hKb := Keep.new (σ.new (.cells 123 [a, .bool x] 0 0 (some 0) [])) (.cells 123 [b, .bool y] 0 0 (some 0) [])
    have hKc := Keep.new ((σ.new (.cells 123 [a, .bool x] 0 0 (some 0) [])).new (.cells 123 [b, .bool y] 0 0 (some 0) [])) (.cells 123 [.nils, .bool false] 0 0 (some 0) [])
    have ga := (hKb.trans hKc).at
    generalize hσa : σ.new (.cells 123 [a, .bool x] 0 0 (some 0) []) = σa at *
    have gb := hKc.at
    have l0 := ld20 ga
    have l1 := ld21 ga
    have l2 := ld20 gb
    have l3 := ld21 gb
    have hKabc := hKa.trans (hKb.trans hKc)
    have hw2 := hKabc.2.2 hw
    have ha2 := ha.keep hw hKabc
    have hb2 := hb.keep hw hKabc
    have k0 := wcmp_call (lf := lf) (m := m + 2) ha2 hb2 hA hB htA h (by omega) (by omega)
    obtain ⟨v, σ3, k1, k2, k3⟩ := minus_call (lf := lf) (m := m + 1) hb2 ha2 hw2 hA hlf hl
    obtain ⟨σ4, k4, k5⟩ := signed_call (lf := lf) (m := m + 1) (b := y) (k3.2.2 hw2) k2
    rw [← hcf] at k0 k1 k4
    have hU4 := k2.keep (k3.2.2 hw2) k5
    obtain ⟨σf, f1, f2, f3, f4⟩ := fin_cell (σ := σa.new (.cells 123 [b, .bool y] 0 0 (some 0) [])) (f := wd) (ty := 123) (a := .nils) (b := .bool false) (v := v) (w := .bool (sgn y (trimL (subL B A)))) wd_neN (fun n => wd_neB n false) (k3.trans k5) k2.one_v rfl
    generalize hσ2 : (σa.new (.cells 123 [b, .bool y] 0 0 (some 0) [])).new (.cells 123 [.nils, .bool false] 0 0 (some 0) []) = σ2 at *
    have hos : ((owe1 σ2 0 1 [] (.ptr σa.nx 0 1)).all (oweOk (σf :: [σ4, σ3, σ2]).reverse)) = true := by
      rw [owe_keepR gb hw2 (fun s h => by
        simp only [List.reverse_cons, List.reverse_nil, List.nil_append, List.cons_append, List.drop_zero, List.take_succ_cons, List.take_zero, List.mem_cons, List.not_mem_nil, or_false] at h
        rcases h with rfl | rfl
        · exact Keep.refl _
        · exact k3)]
      rfl
    have d1 : decide ((0 : Int) ≤ -1) = false := by decide
    simp only [c137, QU, oP, oR, oA, oH, oPn, oRn, oAn, oHn, bi, ld, ki, kt, kf, s_ops_nil, s_ops_cons, s_ops_nx, s_ops_pn, s_seq, s_seq_nx, s_seq_ex, s_seq_rt, s_skip, s_ret, s_exit, s_reg, s_cond, s_cond_t, s_cond_f, s_blk, s_blk_nx, s_blk_rt, s_blk_ex, s_put, s_P, s_R, s_A, s_A_some, s_C_ret, s_C_pan, s_H, s_H_ok, s_H_call, s_H_pan, s_gd, s_gd_bool, s_gd_undef, e_t, e_k, e_mv, e_pick, e_pick_b, e_bin, e_add_i64, e_add_i32, e_sub_i64, e_sub_u8, e_mul_i64, e_addU, e_mulU, e_addU32, e_mulU32, e_eql, e_neq, e_lss, e_leq, e_gtr, e_geq, e_str_eql, e_str_neq, e_iaddr, e_iaddr_int, e_lens, e_ld, e_extract, e_ex0, e_ex1, e_ex2, e_lenS, e_lenS_str, e_cii, e_cii_int, e_slsl_hm, e_sl2, e_slsl_h, e_sl1, e_slis, e_evL_nil, e_evL_cons, e_cons, e_call, e_callk, e_app, e_appk, e_store, e_stk, e_next, e_nextk, e_range, e_rangek, e_bs1, e_bs1i, e_bs0, e_mksl, e_mkslk, e_AK_sl, e_AK_it, e_AK_ptr, e_not, e_notb, e_xori, e_idxs, s_Hn, s_Hnk, s_Nx, s_Rt, s_NR_nx, s_NR_rt, s_NXT_nx, s_NXT_ex, s_NXT_rt, e_lenV_sl, e_lenV_nils, get_pk, k_bind, true_and, and_true, if_true, if_false, Bool.true_eq, beq_self_eq_true, reduceIte, Bool.false_eq_true, reduceCtorEq, bne_self_eq_false, Nat.reduceAdd, Nat.reduceLeDiff, Nat.reduceEqDiff, Nat.reduceSub, Nat.reduceBEq, Int.reduceBEq, Int.reduceNeg, Int.reduceLT, Int.reduceLE, Nat.succ_ne_self, Bool.not_true, Bool.not_false, Bool.true_beq, Bool.false_beq, decide_true, decide_false, exists_eq_left', Option.some.injEq, w_drw, w_nil, w_0, w_3, w_0nx, w_1s, w_1nx, w_1lk, w_1ls, w_2, w_2nx, w_1l, e_box, e_box2, e_alloc, e_faddr, e_fadp, h0, h1, hσa, hσ2, l0, l1, l2, l3, e_eqbF hxy, k0, d1, k1, k4, f1, hos, ne_eq, not_false_eq_true, Nat.zero_ne_one]
    exact ⟨_, _, _, rfl, f2, rfl, hKa.trans (hKb.trans f3), f4 _ _ hU4⟩
  obtain ⟨v, w, σ', h1, rfl, h2⟩ := key
  exact ⟨v, σ', h1, h2⟩
end Go.Proofs.YtahgfodccndcjaaGreatEng

namespace Go.Proofs.YtahgfodccndcjaaGreatEng
open Go
set_option maxRecDepth 100000
set_option linter.unusedSimpArgs false

theorem sgn_true {L : List Nat} (h : L ≠ []) : sgn true L = true := by
  cases L with
  | nil => exact absurd rfl h
  | cons x L => simp [sgn]; omega
theorem c87_at : T1.code 87 = some c87 := by kernel_rfl
/-- number.minus: of a smaller number and a greater -/
theorem wminus_call {lf m : Nat} {σ : H} (hw : WfH σ) {a b : V} {A B : List Nat} (ha : U σ a A) (hb : U σ b B) (hA : wok A) (hB : wok B) (htA : trimd A) (hB0 : B ≠ []) (h : val A < val B) (hlf : B.length < lf) (hl : B.length < 17592186048512) :
    ∃ v σ', call T1 lf (m + 5) 87 [.agg [a, .bool false], .agg [b, .bool false]] σ = .ret (.agg [v, .bool (sgn true (trimL (subL B A)))]) σ' ∧ Keep σ σ' ∧ U σ' v (trimL (subL B A)) := by
  have key : ∃ v w σ', call T1 lf (m + 5) 87 [.agg [a, .bool false], .agg [b, .bool false]] σ = .ret (.agg [v, w]) σ' ∧ (w = .bool (sgn true (trimL (subL B A))) ∧ Keep σ σ' ∧ U σ' v (trimL (subL B A))) := by
    refine call_rc (p := pk 4) rfl c87_at (by simp [c87]) rfl fun cf hcf => ?_
    generalize hτ : bindArgs [.agg [a, .bool false], .agg [b, .bool false]] .h .lf = τ0
    have h0 : τ0.get (pk 0) = some (.agg [a, .bool false]) := by rw [← hτ]; rfl
    have h1 : τ0.get (pk 1) = some (.agg [b, .bool false]) := by rw [← hτ]; rfl
    clear hτ
    have hKa := Keep.new σ (.cells 123 [a, .bool false] 0 0 (some 0) [])
    have hKb := Keep.new (σ.new (.cells 123 [a, .bool false] 0 0 (some 0) [])) (.cells 123 [b, .bool false] 0 0 (some 0) [])
    have hKc := Keep.new ((σ.new (.cells 123 [a, .bool false] 0 0 (some 0) [])).new (.cells 123 [b, .bool false] 0 0 (some 0) [])) (.cells 123 [.nils, .bool false] 0 0 (some 0) [])
    have ga := (hKb.trans hKc).at
    generalize hσa : σ.new (.cells 123 [a, .bool false] 0 0 (some 0) []) = σa at *
    have gb := hKc.at
    have l0 := ldg2 ga
    have l1 := ldg2 gb
    have hKabc := hKa.trans (hKb.trans hKc)
    have hw2 := hKabc.2.2 hw
    have ha2 := ha.keep hw hKabc
    have hb2 := hb.keep hw hKabc
    obtain ⟨σ3, k0, k1⟩ := opposite_call (lf := lf) (m := m + 1) (b := false) hw2 hb2
    rw [show sgn (!false) B = true from sgn_true hB0] at k0
    obtain ⟨v, σ4, k2, k3, k4⟩ := wplus_call (lf := lf) (m := m) (x := false) (y := true) (k1.2.2 hw2) (by decide) (ha2.keep hw2 k1) (hb2.keep hw2 k1) hA hB htA h hlf hl
    rw [← hcf] at k0 k2
    obtain ⟨σf, f1, f2, f3, f4⟩ := fin_cell (σ := σa.new (.cells 123 [b, .bool false] 0 0 (some 0) [])) (f := wd) (ty := 123) (a := .nils) (b := .bool false) (v := v) (w := .bool (sgn true (trimL (subL B A)))) wd_neN (fun n => wd_neB n false) (k1.trans k3) k4.one_v rfl
    generalize hσ2 : (σa.new (.cells 123 [b, .bool false] 0 0 (some 0) [])).new (.cells 123 [.nils, .bool false] 0 0 (some 0) []) = σ2 at *
    have hos : ((owe1 σ2 0 1 [] (.ptr σ.nx 0 0)).all (oweOk (σf :: [σ4, σ3, σ2]).reverse)) = true := by
      rw [owe_keepR ga hw2 (fun s h => by
        simp only [List.reverse_cons, List.reverse_nil, List.nil_append, List.cons_append, List.drop_zero, List.take_succ_cons, List.take_zero, List.mem_cons, List.not_mem_nil, or_false] at h
        rcases h with rfl | rfl
        · exact Keep.refl _
        · exact k1)]
      rfl
    simp only [c87, QU, oP, oR, oA, oH, oPn, oRn, oAn, oHn, bi, ld, ki, kt, kf, s_ops_nil, s_ops_cons, s_ops_nx, s_ops_pn, s_seq, s_seq_nx, s_seq_ex, s_seq_rt, s_skip, s_ret, s_exit, s_reg, s_cond, s_cond_t, s_cond_f, s_blk, s_blk_nx, s_blk_rt, s_blk_ex, s_put, s_P, s_R, s_A, s_A_some, s_C_ret, s_C_pan, s_H, s_H_ok, s_H_call, s_H_pan, s_gd, s_gd_bool, s_gd_undef, e_t, e_k, e_mv, e_pick, e_pick_b, e_bin, e_add_i64, e_add_i32, e_sub_i64, e_sub_u8, e_mul_i64, e_addU, e_mulU, e_addU32, e_mulU32, e_eql, e_neq, e_lss, e_leq, e_gtr, e_geq, e_str_eql, e_str_neq, e_iaddr, e_iaddr_int, e_lens, e_ld, e_extract, e_ex0, e_ex1, e_ex2, e_lenS, e_lenS_str, e_cii, e_cii_int, e_slsl_hm, e_sl2, e_slsl_h, e_sl1, e_slis, e_evL_nil, e_evL_cons, e_cons, e_call, e_callk, e_app, e_appk, e_store, e_stk, e_next, e_nextk, e_range, e_rangek, e_bs1, e_bs1i, e_bs0, e_mksl, e_mkslk, e_AK_sl, e_AK_it, e_AK_ptr, e_not, e_notb, e_xori, e_idxs, s_Hn, s_Hnk, s_Nx, s_Rt, s_NR_nx, s_NR_rt, s_NXT_nx, s_NXT_ex, s_NXT_rt, e_lenV_sl, e_lenV_nils, get_pk, k_bind, true_and, and_true, if_true, if_false, Bool.true_eq, beq_self_eq_true, reduceIte, Bool.false_eq_true, reduceCtorEq, bne_self_eq_false, Nat.reduceAdd, Nat.reduceLeDiff, Nat.reduceEqDiff, Nat.reduceSub, Nat.reduceBEq, Int.reduceBEq, Int.reduceNeg, Int.reduceLT, Int.reduceLE, Nat.succ_ne_self, Bool.not_true, Bool.not_false, Bool.true_beq, Bool.false_beq, decide_true, decide_false, exists_eq_left', Option.some.injEq, w_drw, w_nil, w_0, w_3, w_0nx, w_1s, w_1nx, w_1lk, w_1ls, w_2, w_2nx, lg, w_1g, w_1gk, e_lg, e_box, e_box2, e_alloc, h0, h1, hσa, hσ2, l0, l1, k0, k2, f1, hos, ne_eq, not_false_eq_true, Nat.zero_ne_one]
    exact ⟨_, _, _, rfl, f2, rfl, hKa.trans (hKb.trans f3), f4 _ _ k4⟩
  obtain ⟨v, w, σ', h1, rfl, h2⟩ := key
  exact ⟨v, σ', h1, h2⟩

theorem subL_len (A B : List Nat) : (subL A B).length = A.length := suS_len A B _
theorem c53_at : T1.code 53 = some c53 := by kernel_rfl
/-- Sub: of a smaller number and a greater -/
theorem wsub_call {lf m : Nat} {σ : H} (hw : WfH σ) {a b : V} {A B : List Nat} (ha : U σ a A) (hb : U σ b B) (hA : wok A) (hB : wok B) (h : val A < val B) (hlfA : A.length < lf) (hlf : B.length < lf) (hlA : A.length ≤ 4096) (hl : B.length ≤ 4096) :
    ∃ v σ', call T1 lf (m + 6) 53 [.agg [.bool false, a], .agg [.bool false, b]] σ = .ret (.tup [.agg [.bool (sgn true (trimL (subL (trimL B) (trimL A)))), v], .int .i64 0]) σ' ∧ Keep σ σ' ∧ U σ' v (trimL (subL (trimL B) (trimL A))) := by
  have key : ∃ u v w σ', call T1 lf (m + 6) 53 [.agg [.bool false, a], .agg [.bool false, b]] σ = .ret (.tup [.agg [u, v], w]) σ' ∧ (u = .bool (sgn true (trimL (subL (trimL B) (trimL A)))) ∧ w = .int .i64 0 ∧ Keep σ σ' ∧ U σ' v (trimL (subL (trimL B) (trimL A)))) := by
    refine call_rtc (p := pk 4) (q := pk 5) rfl c53_at (by simp [c53]) rfl fun cf hcf => ?_
    generalize hτ : bindArgs [.agg [.bool false, a], .agg [.bool false, b]] .h .lf = τ0
    have h0 : τ0.get (pk 0) = some (.agg [.bool false, a]) := by rw [← hτ]; rfl
    have h1 : τ0.get (pk 1) = some (.agg [.bool false, b]) := by rw [← hτ]; rfl
    clear hτ
    have hKa := Keep.new σ (.cells 38 [.bool false, a] 0 0 (some 0) [])
    have hKb := Keep.new (σ.new (.cells 38 [.bool false, a] 0 0 (some 0) [])) (.cells 38 [.bool false, b] 0 0 (some 0) [])
    have hKc := Keep.new ((σ.new (.cells 38 [.bool false, a] 0 0 (some 0) [])).new (.cells 38 [.bool false, b] 0 0 (some 0) [])) (.cells 38 [.bool false, .nils] 0 0 (some 0) [])
    have ga := (hKb.trans hKc).at
    generalize hσa : σ.new (.cells 38 [.bool false, a] 0 0 (some 0) []) = σa at *
    have gb := hKc.at
    have l0 := ldg2 ga
    have l1 := ldg2 gb
    have hKabc := hKa.trans (hKb.trans hKc)
    have hw2 := hKabc.2.2 hw
    have ha2 := ha.keep hw hKabc
    have hb2 := hb.keep hw hKabc
    obtain ⟨v1, σ3, k1, k2, k3⟩ := of_call (lf := lf) (m := m + 3) (b := false) hw2 ha2 hlfA (by omega)
    obtain ⟨v2, σ4, k4, k5, k6⟩ := of_call (lf := lf) (m := m + 3) (b := false) (k2.2.2 hw2) (hb2.keep hw2 k2) hlf (by omega)
    have hw4 := k5.2.2 (k2.2.2 hw2)
    have eA := trimL_val A
    have eB := trimL_val B
    have hlA2 := trimL_le A
    have hlB2 := trimL_le B
    have hB0 : trimL B ≠ [] := by
      intro e
      rw [e] at eB
      have h0 : val ([] : List Nat) = 0 := rfl
      omega
    obtain ⟨v3, σ5, k7, k8, k9⟩ := wminus_call (lf := lf) (m := m) hw4 (k3.keep (k2.2.2 hw2) k5) k6 (trimL_ok hA) (trimL_ok hB) (trimL_trimd A) hB0 (by omega) (by omega) (by omega)
    have hlD : (trimL (subL (trimL B) (trimL A))).length ≤ 4096 := by
      have h1 := trimL_le (subL (trimL B) (trimL A))
      rw [subL_len] at h1
      omega
    obtain ⟨v4, σ6, k10, k11, k12⟩ := told_call (lf := lf) (m := m + 2) (b := sgn true (trimL (subL (trimL B) (trimL A)))) (k8.2.2 hw4) k9 hlD
    rw [show sgn false (trimL A) = false from rfl] at k1
    rw [show sgn false (trimL B) = false from rfl] at k4
    rw [← hcf] at k1 k4 k7 k10
    obtain ⟨σf, f1, f2, f3, f4⟩ := fin_cell (σ := σa.new (.cells 38 [.bool false, b] 0 0 (some 0) [])) (f := wd) (ty := 38) (a := .bool false) (b := .nils) (v := .bool (sgn true (trimL (subL (trimL B) (trimL A))))) (w := v4) (fun n => wd_neB n false) wd_neN (((k2.trans k5).trans k8).trans k11) rfl k12.one_v
    generalize hσ2 : (σa.new (.cells 38 [.bool false, b] 0 0 (some 0) [])).new (.cells 38 [.bool false, .nils] 0 0 (some 0) []) = σ2 at *
    have hos : ((owe1 σ2 0 1 [] (.ptr σa.nx 0 0)).all (oweOk (σf :: [σ6, σ5, σ4, σ3, σ2]).reverse)) = true := by
      rw [owe_keepR gb hw2 (fun s h => by
        simp only [List.reverse_cons, List.reverse_nil, List.nil_append, List.cons_append, List.drop_zero, List.take_succ_cons, List.take_zero, List.mem_cons, List.not_mem_nil, or_false] at h
        rcases h with rfl | rfl
        · exact Keep.refl _
        · exact k2)]
      rfl
    simp only [c53, QU, oP, oR, oA, oH, oPn, oRn, oAn, oHn, bi, ld, ki, kt, kf, s_ops_nil, s_ops_cons, s_ops_nx, s_ops_pn, s_seq, s_seq_nx, s_seq_ex, s_seq_rt, s_skip, s_ret, s_exit, s_reg, s_cond, s_cond_t, s_cond_f, s_blk, s_blk_nx, s_blk_rt, s_blk_ex, s_put, s_P, s_R, s_A, s_A_some, s_C_ret, s_C_pan, s_H, s_H_ok, s_H_call, s_H_pan, s_gd, s_gd_bool, s_gd_undef, e_t, e_k, e_mv, e_pick, e_pick_b, e_bin, e_add_i64, e_add_i32, e_sub_i64, e_sub_u8, e_mul_i64, e_addU, e_mulU, e_addU32, e_mulU32, e_eql, e_neq, e_lss, e_leq, e_gtr, e_geq, e_str_eql, e_str_neq, e_iaddr, e_iaddr_int, e_lens, e_ld, e_extract, e_ex0, e_ex1, e_ex2, e_lenS, e_lenS_str, e_cii, e_cii_int, e_slsl_hm, e_sl2, e_slsl_h, e_sl1, e_slis, e_evL_nil, e_evL_cons, e_cons, e_call, e_callk, e_app, e_appk, e_store, e_stk, e_next, e_nextk, e_range, e_rangek, e_bs1, e_bs1i, e_bs0, e_mksl, e_mkslk, e_AK_sl, e_AK_it, e_AK_ptr, e_not, e_notb, e_xori, e_idxs, s_Hn, s_Hnk, s_Nx, s_Rt, s_NR_nx, s_NR_rt, s_NXT_nx, s_NXT_ex, s_NXT_rt, e_lenV_sl, e_lenV_nils, get_pk, k_bind, true_and, and_true, if_true, if_false, Bool.true_eq, beq_self_eq_true, reduceIte, Bool.false_eq_true, reduceCtorEq, bne_self_eq_false, Nat.reduceAdd, Nat.reduceLeDiff, Nat.reduceEqDiff, Nat.reduceSub, Nat.reduceBEq, Int.reduceBEq, Int.reduceNeg, Int.reduceLT, Int.reduceLE, Nat.succ_ne_self, Bool.not_true, Bool.not_false, Bool.true_beq, Bool.false_beq, decide_true, decide_false, exists_eq_left', Option.some.injEq, w_drw, w_nil, w_0, w_3, w_0nx, w_1s, w_1nx, w_1lk, w_1ls, w_2, w_2nx, lg, w_1g, w_1gk, e_lg, e_box, e_box2, e_alloc, h0, h1, hσa, hσ2, l0, l1, k1, k4, k7, k10, f1, hos, ne_eq, not_false_eq_true, Nat.zero_ne_one]
    exact ⟨_, _, _, _, rfl, f2, rfl, rfl, rfl, hKa.trans (hKb.trans f3), f4 _ _ k12⟩
  obtain ⟨u, v, w, σ', h1, rfl, rfl, h2⟩ := key
  exact ⟨v, σ', h1, h2⟩
end Go.Proofs.YtahgfodccndcjaaGreatEng

namespace Go.Proofs.YtahgfodccndcjaaGreatEng
open Go
set_option maxRecDepth 100000
set_option linter.unusedSimpArgs false

theorem UG.put_var {f : Nat → V} {σ1 : H} {x : Pos} {ty : Nat} {a b : V} (hfa : ∀ n, f n ≠ a) (hfb : ∀ n, f n ≠ b) (hg1 : σ1.get x = some (.cells ty [a, b] 0 0 (some 0) [])) {v w : V} {s : V} {A : List Nat} (hU : UG f σ1 s A) : UG f (σ1.put x (.cells ty [v, w] 0 0 (some 0) [])) s A := by
  obtain ⟨u1, u2, u3⟩ := hU
  refine ⟨u1, u2, ?_⟩
  cases s with
  | sl y ver o len cap es =>
    simp only [slCells, blkCells] at u3 ⊢
    by_cases e : y = x
    · subst e
      rw [hg1] at u3
      rw [H.get_put, if_pos rfl]
      simp only [visib] at u3 ⊢
      by_cases hver : ver = 0
      · subst hver
        simp only [if_true] at u3 ⊢
        obtain ⟨c1, c2⟩ := cut_some u3
        cases A with
        | nil =>
          simp only [List.length_nil, Nat.zero_mul, Nat.add_zero, cut, List.take_zero, List.map_nil] at c1 ⊢
          rw [if_pos (by simpa using c1)]
        | cons n A =>
          exfalso
          have hm : f n ∈ ((n :: A).map f) := by simp
          rw [c2] at hm
          have := List.mem_of_mem_drop (List.mem_of_mem_take hm)
          simp [hfa, hfb] at this
      · rw [if_neg hver, if_neg (by omega)] at u3
        simp at u3
    · rw [H.get_put, if_neg e]; exact u3
  | nils => exact u3
  | ros => exact u3
  | _ => simp [okSl] at u1
/-- two variables of two cells: the end, where both are written -/
theorem fin_cell2 {f : Nat → V} {ty ty' : Nat} {a b a' b' : V} (hfa : ∀ n, f n ≠ a) (hfb : ∀ n, f n ≠ b) (hfa' : ∀ n, f n ≠ a') (hfb' : ∀ n, f n ≠ b') {σ σ1 : H} (hK : Keep ((σ.new (.cells ty [a, b] 0 0 (some 0) [])).new (.cells ty' [a', b'] 0 0 (some 0) [])) σ1) {v w v' w' : V} (hv : v.one = true) (hw : w.one = true) (hv' : v'.one = true) (hw' : w'.one = true) :
    ∃ σ2 σ3, stV σ1 2 (.ptr σ.nx 0 0) (.agg [v, w]) = .ok undefV σ2 ∧ stV σ2 2 (.ptr (σ.new (.cells ty [a, b] 0 0 (some 0) [])).nx 0 0) (.agg [v', w']) = .ok undefV σ3 ∧ σ3.get σ.nx = some (.cells ty [v, w] 0 0 (some 0) []) ∧ σ3.get (σ.new (.cells ty [a, b] 0 0 (some 0) [])).nx = some (.cells ty' [v', w'] 0 0 (some 0) []) ∧ Keep σ σ3 ∧ (∀ a A, UG f σ1 a A → UG f σ3 a A) := by
  have hKn := Keep.new (σ.new (.cells ty [a, b] 0 0 (some 0) [])) (.cells ty' [a', b'] 0 0 (some 0) [])
  have hgx : σ1.get σ.nx = some (.cells ty [a, b] 0 0 (some 0) []) := (hKn.trans hK).at
  have hgy : σ1.get (σ.new (.cells ty [a, b] 0 0 (some 0) [])).nx = some (.cells ty' [a', b'] 0 0 (some 0) []) := hK.at
  have hne : σ.nx ≠ (σ.new (.cells ty [a, b] 0 0 (some 0) [])).nx := by
    intro e
    have := congrArg Pos.toNat e
    rw [nx_new] at this
    omega
  have hgy2 : (σ1.put σ.nx (.cells ty [v, w] 0 0 (some 0) [])).get (σ.new (.cells ty [a, b] 0 0 (some 0) [])).nx = some (.cells ty' [a', b'] 0 0 (some 0) []) := by
    rw [H.get_put, if_neg (fun e => hne e.symm)]; exact hgy
  have hKσ : Keep σ σ1 := (Keep.new σ _).trans (hKn.trans hK)
  have hx1 : σ.nx.toNat < σ1.nx.toNat := by
    have h1 := (hKn.trans hK).1
    rw [nx_new] at h1
    omega
  have hy1 : (σ.new (.cells ty [a, b] 0 0 (some 0) [])).nx.toNat < σ1.nx.toNat := by
    have h1 := hK.1
    rw [nx_new] at h1
    omega
  refine ⟨_, _, st2 hgx hv hw, st2 hgy2 hv' hw', ?_, by rw [H.get_put, if_pos rfl], (hKσ.put (Nat.le_refl _) hx1 _).put (by rw [nx_new]; omega) (by rw [nx_put]; exact hy1) _, fun s A hU => ?_⟩
  · rw [H.get_put, if_neg hne, H.get_put, if_pos rfl]
  · exact UG.put_var hfa' hfb' hgy2 (UG.put_var hfa hfb hgx hU)
theorem blk_get {σ : H} {x : Pos} {ty : Nat} {l : List V} (h : σ.get x = some (.cells ty l 0 0 (some 0) [])) : blkCells σ x 0 = some l := by
  simp only [blkCells, h, visib, if_true]

theorem c153_at : T1.code 153 = some c153 := by kernel_rfl
/-- quo -/
theorem wquo_call {lf m : Nat} {σ : H} {a b : V} {A B : List Nat} (ha : U σ a A) (hb : U σ b B) (hA : wok A) (hB : wok B) (htA : trimd A) (h : val A < val B) (hlf : A.length < lf) (hl : A.length < 17592186048512) :
    call T1 lf (m + 2) 153 [a, b] σ = .ret (.tup [.nils, a]) σ := by
  have key : ∃ v w σ', call T1 lf (m + 2) 153 [a, b] σ = .ret (.tup [v, w]) σ' ∧ (v = .nils ∧ w = a ∧ σ' = σ) := by
    refine call_rt2 (p := pk 4) (q := pk 5) rfl c153_at (by simp [c153]) rfl fun cf hcf => ?_
    generalize hτ : bindArgs [a, b] .h .lf = τ0
    have h0 : τ0.get (pk 0) = some a := by rw [← hτ]; rfl
    have h1 : τ0.get (pk 1) = some b := by rw [← hτ]; rfl
    clear hτ
    have k0 := wcmp_call (lf := lf) (m := m) ha hb hA hB htA h hlf hl
    rw [← hcf] at k0
    have d1 : decide ((-1 : Int) < 0) = true := by decide
    simp only [c153, QU, oP, oR, oA, oH, oPn, oRn, oAn, oHn, bi, ld, ki, kt, kf, s_ops_nil, s_ops_cons, s_ops_nx, s_ops_pn, s_seq, s_seq_nx, s_seq_ex, s_seq_rt, s_skip, s_ret, s_exit, s_reg, s_cond, s_cond_t, s_cond_f, s_blk, s_blk_nx, s_blk_rt, s_blk_ex, s_put, s_P, s_R, s_A, s_A_some, s_C_ret, s_C_pan, s_H, s_H_ok, s_H_call, s_H_pan, s_gd, s_gd_bool, s_gd_undef, e_t, e_k, e_mv, e_pick, e_pick_b, e_bin, e_add_i64, e_add_i32, e_sub_i64, e_sub_u8, e_mul_i64, e_addU, e_mulU, e_addU32, e_mulU32, e_eql, e_neq, e_lss, e_leq, e_gtr, e_geq, e_str_eql, e_str_neq, e_iaddr, e_iaddr_int, e_lens, e_ld, e_extract, e_ex0, e_ex1, e_ex2, e_lenS, e_lenS_str, e_cii, e_cii_int, e_slsl_hm, e_sl2, e_slsl_h, e_sl1, e_slis, e_evL_nil, e_evL_cons, e_cons, e_call, e_callk, e_app, e_appk, e_store, e_stk, e_next, e_nextk, e_range, e_rangek, e_bs1, e_bs1i, e_bs0, e_mksl, e_mkslk, e_AK_sl, e_AK_it, e_AK_ptr, e_not, e_notb, e_xori, e_idxs, s_Hn, s_Hnk, s_Nx, s_Rt, s_NR_nx, s_NR_rt, s_NXT_nx, s_NXT_ex, s_NXT_rt, e_lenV_sl, e_lenV_nils, get_pk, k_bind, true_and, and_true, if_true, if_false, Bool.true_eq, beq_self_eq_true, reduceIte, Bool.false_eq_true, reduceCtorEq, bne_self_eq_false, Nat.reduceAdd, Nat.reduceLeDiff, Nat.reduceEqDiff, Nat.reduceSub, Nat.reduceBEq, Int.reduceBEq, Int.reduceNeg, Int.reduceLT, Int.reduceLE, Nat.succ_ne_self, Bool.not_true, Bool.not_false, Bool.true_beq, Bool.false_beq, decide_true, decide_false, exists_eq_left', Option.some.injEq, h0, h1, k0, d1]
    simp
  obtain ⟨v, w, _, h1, rfl, rfl, rfl⟩ := key
  exact h1

theorem e_nqb (x y : Bool) : kBin .neq (.sc .bool) (some (.bool x)) (some (.bool y)) = some (.bool (x != y)) := by
  cases x <;> cases y <;> rfl
theorem c136_at : T1.code 136 = some c136 := by kernel_rfl
/-- cut -/
theorem wcut_call {lf m : Nat} {σ : H} (hw : WfH σ) {a b : V} {A B : List Nat} {x y : Bool} (ha : U σ a A) (hb : U σ b B) (hA : wok A) (hB : wok B) (htA : trimd A) (h : val A < val B) (hlf : A.length < lf) (hl : A.length < 17592186048512) :
    ∃ σ', call T1 lf (m + 3) 136 [.agg [a, .bool x], .agg [b, .bool y]] σ = .ret (.tup [.agg [.nils, .bool false], .agg [a, .bool (sgn x A)]]) σ' ∧ Keep σ σ' := by
  have key : ∃ v w v' w' σ', call T1 lf (m + 3) 136 [.agg [a, .bool x], .agg [b, .bool y]] σ = .ret (.tup [.agg [v, w], .agg [v', w']]) σ' ∧ (v = .nils ∧ w = .bool false ∧ v' = a ∧ w' = .bool (sgn x A) ∧ Keep σ σ') := by
    refine call_rcc (p := pk 4) (q := pk 5) rfl c136_at (by simp [c136]) rfl fun cf hcf => ?_
    generalize hτ : bindArgs [.agg [a, .bool x], .agg [b, .bool y]] .h .lf = τ0
    have h0 : τ0.get (pk 0) = some (.agg [a, .bool x]) := by rw [← hτ]; rfl
    have h1 : τ0.get (pk 1) = some (.agg [b, .bool y]) := by rw [← hτ]; rfl
    clear hτ
    have hKa := Keep.new σ (.cells 123 [a, .bool x] 0 0 (some 0) [])
    have hKb := Keep.new (σ.new (.cells 123 [a, .bool x] 0 0 (some 0) [])) (.cells 123 [b, .bool y] 0 0 (some 0) [])
    have hKc := Keep.new ((σ.new (.cells 123 [a, .bool x] 0 0 (some 0) [])).new (.cells 123 [b, .bool y] 0 0 (some 0) [])) (.cells 123 [.nils, .bool false] 0 0 (some 0) [])
    have hKd := Keep.new (((σ.new (.cells 123 [a, .bool x] 0 0 (some 0) [])).new (.cells 123 [b, .bool y] 0 0 (some 0) [])).new (.cells 123 [.nils, .bool false] 0 0 (some 0) [])) (.cells 123 [.nils, .bool false] 0 0 (some 0) [])
    have ga := (hKb.trans (hKc.trans hKd)).at
    generalize hσa : σ.new (.cells 123 [a, .bool x] 0 0 (some 0) []) = σa at *
    have gb := (hKc.trans hKd).at
    generalize hσb : σa.new (.cells 123 [b, .bool y] 0 0 (some 0) []) = σb at *
    have l0 := ld20 ga
    have l1 := ld21 ga
    have l2 := ld20 gb
    have l3 := ld21 gb
    have hKabc := hKa.trans (hKb.trans (hKc.trans hKd))
    have hw2 := hKabc.2.2 hw
    have ha2 := ha.keep hw hKabc
    have hb2 := hb.keep hw hKabc
    have k0 := wquo_call (lf := lf) (m := m) ha2 hb2 hA hB htA h hlf hl
    obtain ⟨σ3, k1, k2⟩ := signed_call (lf := lf) (m := m) (a := .nils) (L := []) (b := x != y) hw2 (UG.nils wd _)
    obtain ⟨σ4, k3, k4⟩ := signed_call (lf := lf) (m := m) (b := x) (k2.2.2 hw2) (ha2.keep hw2 k2)
    rw [show sgn (x != y) [] = false by simp [sgn]] at k1
    rw [← hcf] at k0 k1 k3
    obtain ⟨σe, σf, f1, f2, f3, f4, f5, _⟩ := fin_cell2 (σ := σb) (f := wd) (ty := 123) (a := .nils) (b := .bool false) (ty' := 123) (a' := .nils) (b' := .bool false) (v := .nils) (w := .bool false) (v' := a) (w' := .bool (sgn x A)) wd_neN (fun n => wd_neB n false) wd_neN (fun n => wd_neB n false) (k2.trans k4) rfl rfl ha.one_v rfl
    generalize hσc : σb.new (.cells 123 [.nils, .bool false] 0 0 (some 0) []) = σc at *
    generalize hσ2 : σc.new (.cells 123 [.nils, .bool false] 0 0 (some 0) []) = σ2 at *
    have hos : ((owe1 σ2 0 1 [] (.ptr σa.nx 0 1)).all (oweOk (σf :: [σe, σ4, σ3, σ2]).reverse)) = true := by
      rw [owe_keepR gb hw2 (fun s h => by
        simp only [List.reverse_cons, List.reverse_nil, List.nil_append, List.cons_append, List.drop_zero, List.take_succ_cons, List.take_zero, List.mem_cons, List.not_mem_nil, or_false] at h
        rcases h with rfl | rfl
        · exact Keep.refl _
        · exact k2)]
      rfl
    have hos2 : ((owe1 σ2 0 1 [] (.ptr σ.nx 0 1)).all (oweOk (σf :: [σe, σ4, σ3, σ2]).reverse)) = true := by
      rw [owe_keepR ga hw2 (fun s h => by
        simp only [List.reverse_cons, List.reverse_nil, List.nil_append, List.cons_append, List.drop_zero, List.take_succ_cons, List.take_zero, List.mem_cons, List.not_mem_nil, or_false] at h
        rcases h with rfl | rfl
        · exact Keep.refl _
        · exact k2)]
      rfl
    simp only [c136, QU, oP, oR, oA, oH, oPn, oRn, oAn, oHn, bi, ld, ki, kt, kf, s_ops_nil, s_ops_cons, s_ops_nx, s_ops_pn, s_seq, s_seq_nx, s_seq_ex, s_seq_rt, s_skip, s_ret, s_exit, s_reg, s_cond, s_cond_t, s_cond_f, s_blk, s_blk_nx, s_blk_rt, s_blk_ex, s_put, s_P, s_R, s_A, s_A_some, s_C_ret, s_C_pan, s_H, s_H_ok, s_H_call, s_H_pan, s_gd, s_gd_bool, s_gd_undef, e_t, e_k, e_mv, e_pick, e_pick_b, e_bin, e_add_i64, e_add_i32, e_sub_i64, e_sub_u8, e_mul_i64, e_addU, e_mulU, e_addU32, e_mulU32, e_eql, e_neq, e_lss, e_leq, e_gtr, e_geq, e_str_eql, e_str_neq, e_iaddr, e_iaddr_int, e_lens, e_ld, e_extract, e_ex0, e_ex1, e_ex2, e_lenS, e_lenS_str, e_cii, e_cii_int, e_slsl_hm, e_sl2, e_slsl_h, e_sl1, e_slis, e_evL_nil, e_evL_cons, e_cons, e_call, e_callk, e_app, e_appk, e_store, e_stk, e_next, e_nextk, e_range, e_rangek, e_bs1, e_bs1i, e_bs0, e_mksl, e_mkslk, e_AK_sl, e_AK_it, e_AK_ptr, e_not, e_notb, e_xori, e_idxs, s_Hn, s_Hnk, s_Nx, s_Rt, s_NR_nx, s_NR_rt, s_NXT_nx, s_NXT_ex, s_NXT_rt, e_lenV_sl, e_lenV_nils, get_pk, k_bind, true_and, and_true, if_true, if_false, Bool.true_eq, beq_self_eq_true, reduceIte, Bool.false_eq_true, reduceCtorEq, bne_self_eq_false, Nat.reduceAdd, Nat.reduceLeDiff, Nat.reduceEqDiff, Nat.reduceSub, Nat.reduceBEq, Int.reduceBEq, Int.reduceNeg, Int.reduceLT, Int.reduceLE, Nat.succ_ne_self, Bool.not_true, Bool.not_false, Bool.true_beq, Bool.false_beq, decide_true, decide_false, exists_eq_left', Option.some.injEq, w_drw, w_nil, w_0, w_3, w_0nx, w_1s, w_1nx, w_1lk, w_1ls, w_2, w_2nx, w_1l, e_box, e_box2, e_alloc, e_faddr, e_fadp, e_nqb, h0, h1, hσa, hσb, hσc, hσ2, l0, l1, l2, l3, k0, k1, k3, f1, f2, hos, hos2, ne_eq, not_false_eq_true, Nat.zero_ne_one]
    exact ⟨_, _, _, _, _, _, rfl, blk_get f3, rfl, blk_get f4, rfl, rfl, rfl, rfl, hKa.trans (hKb.trans f5)⟩
  obtain ⟨v, w, v', w', σ', h1, rfl, rfl, rfl, rfl, h2⟩ := key
  exact ⟨σ', h1, h2⟩
end Go.Proofs.YtahgfodccndcjaaGreatEng

namespace Go.Proofs.YtahgfodccndcjaaGreatEng
open Go
set_option maxRecDepth 100000
set_option linter.unusedSimpArgs false

theorem Keep.get_some {σ σ' : H} (h : Keep σ σ') (hw : WfH σ) {x : Pos} {b : Blk} (hg : σ.get x = some b) : σ'.get x = some b := by
  rw [h.get (hw x b hg), hg]
theorem c140_at : T1.code 140 = some c140 := by kernel_rfl
/-- pair -/
theorem wpair_call {lf m : Nat} {σ : H} (hw : WfH σ) {a b : V} {A B : List Nat} {x y : Bool} (ha : U σ a A) (hb : U σ b B) (hA : A.length ≤ 4096) (hB : B.length ≤ 4096) :
    ∃ v w σ', call T1 lf (m + 3) 140 [.agg [a, .bool x], .agg [b, .bool y]] σ = .ret (.tup [.agg [.bool x, v], .agg [.bool y, w], .int .i64 0]) σ' ∧ Keep σ σ' ∧ U σ' v A ∧ U σ' w B := by
  have key : ∃ u v u' w e σ', call T1 lf (m + 3) 140 [.agg [a, .bool x], .agg [b, .bool y]] σ = .ret (.tup [.agg [u, v], .agg [u', w], e]) σ' ∧ (u = .bool x ∧ u' = .bool y ∧ e = .int .i64 0 ∧ Keep σ σ' ∧ U σ' v A ∧ U σ' w B) := by
    refine call_rcct (p := pk 4) (q := pk 5) (t := pk 6) rfl c140_at (by simp [c140]) rfl fun cf hcf => ?_
    generalize hτ : bindArgs [.agg [a, .bool x], .agg [b, .bool y]] .h .lf = τ0
    have h0 : τ0.get (pk 0) = some (.agg [a, .bool x]) := by rw [← hτ]; rfl
    have h1 : τ0.get (pk 1) = some (.agg [b, .bool y]) := by rw [← hτ]; rfl
    clear hτ
    have hKa := Keep.new σ (.cells 123 [a, .bool x] 0 0 (some 0) [])
    have hKb := Keep.new (σ.new (.cells 123 [a, .bool x] 0 0 (some 0) [])) (.cells 123 [b, .bool y] 0 0 (some 0) [])
    have hKc := Keep.new ((σ.new (.cells 123 [a, .bool x] 0 0 (some 0) [])).new (.cells 123 [b, .bool y] 0 0 (some 0) [])) (.cells 38 [.bool false, .nils] 0 0 (some 0) [])
    have hKd := Keep.new (((σ.new (.cells 123 [a, .bool x] 0 0 (some 0) [])).new (.cells 123 [b, .bool y] 0 0 (some 0) [])).new (.cells 38 [.bool false, .nils] 0 0 (some 0) [])) (.cells 38 [.bool false, .nils] 0 0 (some 0) [])
    have ga := (hKb.trans (hKc.trans hKd)).at
    generalize hσa : σ.new (.cells 123 [a, .bool x] 0 0 (some 0) []) = σa at *
    have gb := (hKc.trans hKd).at
    generalize hσb : σa.new (.cells 123 [b, .bool y] 0 0 (some 0) []) = σb at *
    have hKabc := hKa.trans (hKb.trans (hKc.trans hKd))
    have hw2 := hKabc.2.2 hw
    have ha2 := ha.keep hw hKabc
    have hb2 := hb.keep hw hKabc
    have d1 : decide ((4096 : Int) < (A.length : Int)) = false := by simp; omega
    have d2 : decide ((4096 : Int) < (B.length : Int)) = false := by simp; omega
    obtain ⟨σ3, k1, k2⟩ := wlong_call (lf := lf) (m := m + 1) (b := x) hw2 ha2
    have hw3 := k2.2.2 hw2
    obtain ⟨σ4, k3, k4⟩ := wlong_call (lf := lf) (m := m + 1) (b := y) hw3 (hb2.keep hw2 k2)
    have hw4 := k4.2.2 hw3
    have kk := k2.trans k4
    obtain ⟨v, σ5, k5, k6, k7⟩ := wout_call (lf := lf) (m := m) (b := x) hw4 (ha2.keep hw2 kk) (by omega)
    have hw5 := k6.2.2 hw4
    obtain ⟨w, σ6, k8, k9, k10⟩ := wout_call (lf := lf) (m := m) (b := y) hw5 ((hb2.keep hw2 kk).keep hw4 k6) (by omega)
    have l0 := ldg2 ga
    have l1 := ldg2 (k2.get_some hw2 gb)
    have l2 := ldg2 (kk.get_some hw2 ga)
    have l3 := ldg2 (kk.get_some hw2 gb)
    rw [d1] at k1
    rw [d2] at k3
    rw [← hcf] at k1 k3 k5 k8
    obtain ⟨σe, σf, f1, f2, f3, f4, f5, f6⟩ := fin_cell2 (σ := σb) (f := wd) (ty := 38) (a := .bool false) (b := .nils) (ty' := 38) (a' := .bool false) (b' := .nils) (v := .bool x) (w := v) (v' := .bool y) (w' := w) (fun n => wd_neB n false) wd_neN (fun n => wd_neB n false) wd_neN ((kk.trans k6).trans k9) rfl k7.one_v rfl k10.one_v
    generalize hσc : σb.new (.cells 38 [.bool false, .nils] 0 0 (some 0) []) = σc at *
    generalize hσ2 : σc.new (.cells 38 [.bool false, .nils] 0 0 (some 0) []) = σ2 at *
    have hos : ((owe1 σ4 0 1 [] (.ptr σa.nx 0 0)).all (oweOk (σf :: [σe, σ6, σ5, σ4]).reverse)) = true := by
      rw [owe_keepR (kk.get_some hw2 gb) hw4 (fun s h => by
        simp only [List.reverse_cons, List.reverse_nil, List.nil_append, List.cons_append, List.drop_zero, List.take_succ_cons, List.take_zero, List.mem_cons, List.not_mem_nil, or_false] at h
        rcases h with rfl | rfl
        · exact Keep.refl _
        · exact k6)]
      rfl
    simp only [c140, QU, oP, oR, oA, oH, oPn, oRn, oAn, oHn, bi, ld, ki, kt, kf, s_ops_nil, s_ops_cons, s_ops_nx, s_ops_pn, s_seq, s_seq_nx, s_seq_ex, s_seq_rt, s_skip, s_ret, s_exit, s_reg, s_cond, s_cond_t, s_cond_f, s_blk, s_blk_nx, s_blk_rt, s_blk_ex, s_put, s_P, s_R, s_A, s_A_some, s_C_ret, s_C_pan, s_H, s_H_ok, s_H_call, s_H_pan, s_gd, s_gd_bool, s_gd_undef, e_t, e_k, e_mv, e_pick, e_pick_b, e_bin, e_add_i64, e_add_i32, e_sub_i64, e_sub_u8, e_mul_i64, e_addU, e_mulU, e_addU32, e_mulU32, e_eql, e_neq, e_lss, e_leq, e_gtr, e_geq, e_str_eql, e_str_neq, e_iaddr, e_iaddr_int, e_lens, e_ld, e_extract, e_ex0, e_ex1, e_ex2, e_lenS, e_lenS_str, e_cii, e_cii_int, e_slsl_hm, e_sl2, e_slsl_h, e_sl1, e_slis, e_evL_nil, e_evL_cons, e_cons, e_call, e_callk, e_app, e_appk, e_store, e_stk, e_next, e_nextk, e_range, e_rangek, e_bs1, e_bs1i, e_bs0, e_mksl, e_mkslk, e_AK_sl, e_AK_it, e_AK_ptr, e_not, e_notb, e_xori, e_idxs, s_Hn, s_Hnk, s_Nx, s_Rt, s_NR_nx, s_NR_rt, s_NXT_nx, s_NXT_ex, s_NXT_rt, e_lenV_sl, e_lenV_nils, get_pk, k_bind, true_and, and_true, if_true, if_false, Bool.true_eq, beq_self_eq_true, reduceIte, Bool.false_eq_true, reduceCtorEq, bne_self_eq_false, Nat.reduceAdd, Nat.reduceLeDiff, Nat.reduceEqDiff, Nat.reduceSub, Nat.reduceBEq, Int.reduceBEq, Int.reduceNeg, Int.reduceLT, Int.reduceLE, Nat.succ_ne_self, Bool.not_true, Bool.not_false, Bool.true_beq, Bool.false_beq, decide_true, decide_false, exists_eq_left', Option.some.injEq, w_drw, w_nil, w_0, w_3, w_0nx, w_1s, w_1nx, w_1lk, w_1ls, w_2, w_2nx, lg, w_1g, w_1gk, e_lg, e_box, e_box2, e_alloc, h0, h1, hσa, hσb, hσc, hσ2, l0, l1, l2, l3, k1, k3, k5, k8, f1, f2, hos, ne_eq, not_false_eq_true, Nat.zero_ne_one]
    exact ⟨_, _, _, _, _, _, _, rfl, blk_get f3, rfl, blk_get f4, rfl, rfl, rfl, rfl, hKa.trans (hKb.trans f5), f6 _ _ (k7.keep hw5 k9), f6 _ _ k10⟩
  obtain ⟨u, v, u', w, e, σ', h1, rfl, rfl, rfl, h2⟩ := key
  exact ⟨v, w, σ', h1, h2⟩
end Go.Proofs.YtahgfodccndcjaaGreatEng

namespace Go.Proofs.YtahgfodccndcjaaGreatEng
open Go
set_option maxRecDepth 100000
set_option linter.unusedSimpArgs false

theorem fin_cellg {f : Nat → V} {ty : Nat} {a b : V} (hfa : ∀ n, f n ≠ a) (hfb : ∀ n, f n ≠ b) {σ σ1 : H} (hK : Keep (σ.new (.cells ty [a, b] 0 0 (some 0) [])) σ1) {v w : V} (hv : v.one = true) (hw : w.one = true) :
    ∃ σ2, stV σ1 2 (.ptr σ.nx 0 0) (.agg [v, w]) = .ok undefV σ2 ∧ σ2.get σ.nx = some (.cells ty [v, w] 0 0 (some 0) []) ∧ Keep σ σ2 ∧ (∀ a A, UG f σ1 a A → UG f σ2 a A) ∧ (∀ y, y ≠ σ.nx → σ2.get y = σ1.get y) := by
  have hg := hK.at
  have hnx0 : σ.nx.toNat < σ1.nx.toNat := by
    have := hK.1
    rw [nx_new] at this
    omega
  refine ⟨_, st2 hg hv hw, by rw [H.get_put, if_pos rfl], ((Keep.new σ _).trans hK).put (Nat.le_refl _) hnx0 _, fun s A hU => UG.put_var hfa hfb hg hU, fun y hy => by rw [H.get_put, if_neg hy]⟩
theorem UG.ne_wd {σ : H} {a : V} {L : List Nat} (h : U σ a L) (n : Nat) : wd n ≠ a := by
  obtain ⟨h1, _, _⟩ := h
  intro e
  rw [← e] at h1
  exact h1
theorem sgn_sgn (x : Bool) (L : List Nat) : sgn (sgn x L) L = sgn x L := by
  cases x <;> simp [sgn]
/-- what is left -/
def modL (x : Bool) (A B : List Nat) : List Nat := if sgn x A = true then trimL (subL B A) else A
theorem c78_at : T1.code 78 = some c78 := by kernel_rfl
/-- DivMod -/
theorem divmod_call {lf m : Nat} {σ : H} (hw : WfH σ) {a b : V} {A B : List Nat} {x : Bool} (ha : U σ a A) (hb : U σ b B) (hA : wok A) (hB : wok B) (h : val A < val B) (hlfA : A.length < lf) (hlf : B.length < lf) (hlA : A.length ≤ 4096) (hlB : B.length ≤ 4096) (hlf1 : 1 < lf) :
    ∃ u v w σ', call T1 lf (m + 6) 78 [.agg [.bool x, a], .agg [.bool false, b]] σ = .ret (.tup [.agg [u, v], .agg [.bool false, w], .int .i64 0]) σ' ∧ u.one = true ∧ v.one = true ∧ Keep σ σ' ∧ U σ' w (modL x (trimL A) (trimL B)) := by
  have key : ∃ u v u' w e σ', call T1 lf (m + 6) 78 [.agg [.bool x, a], .agg [.bool false, b]] σ = .ret (.tup [.agg [u, v], .agg [u', w], e]) σ' ∧ (u' = .bool false ∧ e = .int .i64 0 ∧ u.one = true ∧ v.one = true ∧ Keep σ σ' ∧ U σ' w (modL x (trimL A) (trimL B))) := by
    refine call_rcct (p := pk 4) (q := pk 5) (t := pk 6) rfl c78_at (by simp [c78]) rfl fun cf hcf => ?_
    generalize hτ : bindArgs [.agg [.bool x, a], .agg [.bool false, b]] .h .lf = τ0
    have h0 : τ0.get (pk 0) = some (.agg [.bool x, a]) := by rw [← hτ]; rfl
    have h1 : τ0.get (pk 1) = some (.agg [.bool false, b]) := by rw [← hτ]; rfl
    clear hτ
    have hKa := Keep.new σ (.cells 38 [.bool x, a] 0 0 (some 0) [])
    have hKb := Keep.new (σ.new (.cells 38 [.bool x, a] 0 0 (some 0) [])) (.cells 38 [.bool false, b] 0 0 (some 0) [])
    have hKc := Keep.new ((σ.new (.cells 38 [.bool x, a] 0 0 (some 0) [])).new (.cells 38 [.bool false, b] 0 0 (some 0) [])) (.cells 38 [.bool false, .nils] 0 0 (some 0) [])
    have hKd := Keep.new (((σ.new (.cells 38 [.bool x, a] 0 0 (some 0) [])).new (.cells 38 [.bool false, b] 0 0 (some 0) [])).new (.cells 38 [.bool false, .nils] 0 0 (some 0) [])) (.cells 38 [.bool false, .nils] 0 0 (some 0) [])
    have ga := (hKb.trans (hKc.trans hKd)).at
    generalize hσa : σ.new (.cells 38 [.bool x, a] 0 0 (some 0) []) = σa at *
    have gb := (hKc.trans hKd).at
    generalize hσb : σa.new (.cells 38 [.bool false, b] 0 0 (some 0) []) = σb at *
    have hKabc := hKa.trans (hKb.trans (hKc.trans hKd))
    have hw2 := hKabc.2.2 hw
    have ha2 := ha.keep hw hKabc
    have hb2 := hb.keep hw hKabc
    have fin := fun {s : H} (hs : Keep ((σb.new (.cells 38 [.bool false, .nils] 0 0 (some 0) [])).new (.cells 38 [.bool false, .nils] 0 0 (some 0) [])) s) {v w v' w' : V} hv hw hv' hw' => fin_cell2 (σ := σb) (σ1 := s) (f := wd) (ty := 38) (a := .bool false) (b := .nils) (ty' := 38) (a' := .bool false) (b' := .nils) (v := v) (w := w) (v' := v') (w' := w') (fun n => wd_neB n false) wd_neN (fun n => wd_neB n false) wd_neN hs hv hw hv' hw'
    generalize hσc : σb.new (.cells 38 [.bool false, .nils] 0 0 (some 0) []) = σc at *
    generalize hσ2 : σc.new (.cells 38 [.bool false, .nils] 0 0 (some 0) []) = σ2 at *
    obtain ⟨a1, a2, a3, a4, a5, a6, hbody⟩ : ∃ a1 a2 a3 a4 a5 a6, c78.body = .seq a1 (.seq a2 (.seq a3 (.seq a4 (.seq a5 a6)))) := ⟨_, _, _, _, _, _, rfl⟩
    /- the end -/
    have tail : ∀ (τ : Tr V) (s : H) (X Y : Pos) (q : V) (qs : Bool) (r : V) (Q R : List Nat), WfH s → Keep σ2 s → τ.get (pk 4) = some (.ptr σb.nx 0 0) → τ.get (pk 5) = some (.ptr σc.nx 0 0) → τ.get (pk 8) = some (.ptr X 0 0) → τ.get (pk 9) = some (.ptr Y 0 0) →
        s.get X = some (.cells 123 [q, .bool qs] 0 0 (some 0) []) → s.get Y = some (.cells 123 [r, .bool false] 0 0 (some 0) []) → U s q Q → U s r R → Q.length ≤ 4096 → R.length ≤ 4096 → R = modL x (trimL A) (trimL B) →
        Rt (exec cf lf 45 a6 τ s []) fun τ σ' => ∃ x' y v w v' w' u, τ.get (pk 4) = some (.ptr x' 0 0) ∧ blkCells σ' x' 0 = some [v, w] ∧ τ.get (pk 5) = some (.ptr y 0 0) ∧ blkCells σ' y 0 = some [v', w'] ∧ τ.get (pk 6) = some u ∧ (v' = .bool false ∧ u = .int .i64 0 ∧ v.one = true ∧ w.one = true ∧ Keep σ σ' ∧ U σ' w' (modL x (trimL A) (trimL B))) := by
      intro τ s X Y q qs r Q R hws hK g4 g5 g8 g9 gX gY hq hr hQ hR hRe
      simp only [c78, CC.seq.injEq] at hbody
      obtain ⟨-, -, -, -, -, rfl⟩ := hbody
      obtain ⟨v, w, s1, k1, k2, k3, k4⟩ := wpair_call (lf := lf) (m := m + 2) (x := qs) (y := false) hws hq hr hQ hR
      rw [← hcf] at k1
      have l0 := ldg2 gX
      have l1 := ldg2 gY
      obtain ⟨se, sf, f1, f2, f3, f4, f5, f6⟩ := fin (hK.trans k2) (v := .bool qs) (w := v) (v' := .bool false) (w' := w) rfl k3.one_v rfl k4.one_v
      simp only [QU, oP, oR, oA, oH, oPn, oRn, oAn, oHn, bi, ld, ki, kt, kf, s_ops_nil, s_ops_cons, s_ops_nx, s_ops_pn, s_seq, s_seq_nx, s_seq_ex, s_seq_rt, s_skip, s_ret, s_exit, s_reg, s_cond, s_cond_t, s_cond_f, s_blk, s_blk_nx, s_blk_rt, s_blk_ex, s_put, s_P, s_R, s_A, s_A_some, s_C_ret, s_C_pan, s_H, s_H_ok, s_H_call, s_H_pan, s_gd, s_gd_bool, s_gd_undef, e_t, e_k, e_mv, e_pick, e_pick_b, e_bin, e_add_i64, e_add_i32, e_sub_i64, e_sub_u8, e_mul_i64, e_addU, e_mulU, e_addU32, e_mulU32, e_eql, e_neq, e_lss, e_leq, e_gtr, e_geq, e_str_eql, e_str_neq, e_iaddr, e_iaddr_int, e_lens, e_ld, e_extract, e_ex0, e_ex1, e_ex2, e_lenS, e_lenS_str, e_cii, e_cii_int, e_slsl_hm, e_sl2, e_slsl_h, e_sl1, e_slis, e_evL_nil, e_evL_cons, e_cons, e_call, e_callk, e_app, e_appk, e_store, e_stk, e_next, e_nextk, e_range, e_rangek, e_bs1, e_bs1i, e_bs0, e_mksl, e_mkslk, e_AK_sl, e_AK_it, e_AK_ptr, e_not, e_notb, e_xori, e_idxs, s_Hn, s_Hnk, s_Nx, s_Rt, s_NR_nx, s_NR_rt, s_NXT_nx, s_NXT_ex, s_NXT_rt, e_lenV_sl, e_lenV_nils, get_pk, k_bind, true_and, and_true, if_true, if_false, Bool.true_eq, beq_self_eq_true, reduceIte, Bool.false_eq_true, reduceCtorEq, bne_self_eq_false, Nat.reduceAdd, Nat.reduceLeDiff, Nat.reduceEqDiff, Nat.reduceSub, Nat.reduceBEq, Int.reduceBEq, Int.reduceNeg, Int.reduceLT, Int.reduceLE, Nat.succ_ne_self, Bool.not_true, Bool.not_false, Bool.true_beq, Bool.false_beq, decide_true, decide_false, exists_eq_left', Option.some.injEq, w_drw, w_nil, w_0, w_3, w_0nx, w_1s, w_1nx, w_1lk, w_1ls, w_2, w_2nx, lg, e_lg, g4, g5, g8, g9, l0, l1, k1, f1, f2]
      exact ⟨_, _, _, _, _, _, _, rfl, blk_get f3, rfl, blk_get f4, rfl, rfl, rfl, rfl, k3.one_v, hKa.trans (hKb.trans f5), hRe ▸ f6 _ _ k4⟩
    have hlA2 := trimL_le A
    have hlB2 := trimL_le B
    have eA := trimL_val A
    have eB := trimL_val B
    have hB0 : trimL B ≠ [] := by
      intro e
      rw [e] at eB
      have h0 : val ([] : List Nat) = 0 := rfl
      omega
    have hnz : (((trimL B).length : Int) == 0) = false := by
      simp only [beq_eq_false_iff_ne, ne_eq]
      intro e
      exact hB0 (List.eq_nil_of_length_eq_zero (by omega))
    obtain ⟨v2, σ3, k1, k2, k3⟩ := of_call (lf := lf) (m := m + 3) (b := false) hw2 hb2 hlf (by omega)
    rw [show sgn false (trimL B) = false from rfl] at k1
    have hw3 := k2.2.2 hw2
    obtain ⟨σ4, s1, s2, s3, s4, _⟩ := fin_cellg (σ := σ3) (f := wd) (ty := 123) (a := .nils) (b := .bool false) (v := v2) (w := .bool false) wd_neN (fun n => wd_neB n false) (Keep.refl _) k3.one_v rfl
    have hw4 := s3.2.2 hw3
    have k3' := s4 _ _ (k3.keep hw3 (Keep.new _ (.cells 123 [.nils, .bool false] 0 0 (some 0) [])))
    have kn := null_call (lf := lf) (m := m + 4) k3'
    rw [hnz] at kn
    have l1 := ldg2 gb
    have g70 := ld20 s2
    have g7g := ldg2 s2
    have g2 := ldg2 ((k2.trans s3).get_some hw2 ga)
    have hK8 := Keep.new σ4 (.cells 123 [.nils, .bool false] 0 0 (some 0) [])
    have hK9 := Keep.new (σ4.new (.cells 123 [.nils, .bool false] 0 0 (some 0) [])) (.cells 123 [.nils, .bool false] 0 0 (some 0) [])
    have hK5 := hK8.trans hK9
    have hw5 := hK5.2.2 hw4
    have k3'' := k3'.keep hw4 hK5
    obtain ⟨v1, σ6, k4, k5, k6⟩ := of_call (lf := lf) (m := m + 3) (b := x) hw5 ((ha2.keep hw2 (k2.trans s3)).keep hw4 hK5) hlfA (by omega)
    have hw6 := k5.2.2 hw5
    obtain ⟨σ7, k7, k8⟩ := wcut_call (lf := lf) (m := m + 2) (x := sgn x (trimL A)) (y := false) hw6 k6 (k3''.keep hw5 k5) (trimL_ok hA) (trimL_ok hB) (trimL_trimd A) (by omega) (by omega) (by omega)
    rw [sgn_sgn] at k7
    obtain ⟨σ8, σ9, f1, f2, f3, f4, f5, f6⟩ := fin_cell2 (σ := σ4) (f := wd) (ty := 123) (a := .nils) (b := .bool false) (ty' := 123) (a' := .nils) (b' := .bool false) (v := .nils) (w := .bool false) (v' := v1) (w' := .bool (sgn x (trimL A))) wd_neN (fun n => wd_neB n false) wd_neN (fun n => wd_neB n false) (k5.trans k8) rfl rfl k6.one_v rfl
    have hw9 := f5.2.2 hw4
    have hv1 := f6 _ _ (k6.keep hw6 k8)
    have hx8 : σ4.nx.toNat < σ9.nx.toNat := hw9 _ _ f3
    have hx9 : (σ4.new (.cells 123 [.nils, .bool false] 0 0 (some 0) [])).nx.toNat < σ9.nx.toNat := hw9 _ _ f4
    have hx89 : σ4.nx.toNat < (σ4.new (.cells 123 [.nils, .bool false] 0 0 (some 0) [])).nx.toNat := by rw [nx_new]; omega
    rw [← hcf] at k1 kn k4 k7
    have hos : ((owe1 σ4 0 1 [] (.ptr σ3.nx 0 0)).all (oweOk (σ9 :: [σ8, σ7, σ6, (σ4.new (.cells 123 [.nils, .bool false] 0 0 (some 0) [])).new (.cells 123 [.nils, .bool false] 0 0 (some 0) [])]).reverse)) = true := by
      rw [owe_keepR s2 hw4 (fun s h => by
        simp only [List.reverse_cons, List.reverse_nil, List.nil_append, List.cons_append, List.drop_zero, List.take_succ_cons, List.take_zero, List.mem_cons, List.not_mem_nil, or_false] at h
        rcases h with rfl | rfl
        · exact hK5
        · exact hK5.trans k5)]
      rfl
    have g9b := ld21 f4
    have hK29 : Keep σ2 σ9 := (k2.trans s3).trans f5
    rw [hbody]
    by_cases hs : sgn x (trimL A) = true
    · rw [hs] at k4 k7 f2 f4 g9b
      have hne : (σ4.new (.cells 123 [.nils, .bool false] 0 0 (some 0) [])).nx ≠ σ4.nx := by
        intro e
        rw [e] at hx89
        omega
      have g9g := ldg2 f4
      have g71 := f5.get_some hw4 s2
      have g70' := ld20 g71
      have hB9 := k3'.keep hw4 f5
      obtain ⟨σ10, k9, k10⟩ := signed_call (lf := lf) (m := m + 3) (b := false) hw9 hB9
      rw [show sgn false (trimL B) = false from rfl] at k9
      have hw10 := k10.2.2 hw9
      obtain ⟨v3, σ11, k11, k12, k13⟩ := wplus_call (lf := lf) (m := m + 1) (x := true) (y := false) hw10 (by decide) (hv1.keep hw9 k10) (hB9.keep hw9 k10) (trimL_ok hA) (trimL_ok hB) (trimL_trimd A) (by omega) (by omega) (by omega)
      rw [show sgn false (trimL (subL (trimL B) (trimL A))) = false from rfl] at k11
      have hK911 := k10.trans k12
      have hw11 := hK911.2.2 hw9
      have zp9 := hK911.get_some hw9 f4
      have zp8 := hK911.get_some hw9 f3
      have t1 := st2 zp9 k13.one_v (show (V.bool false).one = true from rfl)
      have hK412 : Keep σ4 (σ11.put (σ4.new (.cells 123 [.nils, .bool false] 0 0 (some 0) [])).nx (.cells 123 [v3, .bool false] 0 0 (some 0) [])) := (f5.trans hK911).put (by omega) (Nat.lt_of_lt_of_le hx9 hK911.1) _
      have y3u := UG.put_var (v := v3) (w := .bool false) (fun n => k6.ne_wd n) (fun n => wd_neB n true) zp9 k13
      have z9 : (σ11.put (σ4.new (.cells 123 [.nils, .bool false] 0 0 (some 0) [])).nx (.cells 123 [v3, .bool false] 0 0 (some 0) [])).get (σ4.new (.cells 123 [.nils, .bool false] 0 0 (some 0) [])).nx = some (.cells 123 [v3, .bool false] 0 0 (some 0) []) := by rw [H.get_put, if_pos rfl]
      have z8 : (σ11.put (σ4.new (.cells 123 [.nils, .bool false] 0 0 (some 0) [])).nx (.cells 123 [v3, .bool false] 0 0 (some 0) [])).get σ4.nx = some (.cells 123 [.nils, .bool false] 0 0 (some 0) []) := by rw [H.get_put, if_neg (fun e => hne e.symm)]; exact zp8
      generalize hσ12 : σ11.put (σ4.new (.cells 123 [.nils, .bool false] 0 0 (some 0) [])).nx (.cells 123 [v3, .bool false] 0 0 (some 0) []) = σ12 at *
      have hw12 := hK412.2.2 hw4
      have g71' := ld21 (hK412.get_some hw4 s2)
      have g8g := ldg2 z8
      have hos9 : ((owe1 σ9 0 1 [] (.ptr (σ4.new (.cells 123 [.nils, .bool false] 0 0 (some 0) [])).nx 0 0)).all (oweOk (σ12 :: [σ11, σ10, σ9]).reverse)) = true := by
        rw [owe_keepR f4 hw9 (fun s h => by
          simp only [List.reverse_cons, List.reverse_nil, List.nil_append, List.cons_append, List.drop_zero, List.take_succ_cons, List.take_zero, List.mem_cons, List.not_mem_nil, or_false] at h
          rcases h with rfl | rfl
          · exact Keep.refl _
          · exact k10)]
        rfl
      obtain ⟨v5, σ13, j1, j2, j3⟩ := one_call (lf := lf) (m := m + 4) (σ := σ12)
      have hw13 := j2.2.2 hw12
      have h01 : wok ([] : List Nat) := wok_of fun x h => by cases h
      have h11 : wok [1] := wok_of fun x h => by rw [List.mem_singleton.1 h]; decide
      obtain ⟨v6, σ14, j4, j5, j6⟩ := wminus_call (lf := lf) (m := m) hw13 (UG.nils wd _) j3 h01 h11 (.inl rfl) (by simp) (by decide) hlf1 (by decide)
      rw [← hcf] at k9 k11 j1 j4
      have hK1214 := j2.trans j5
      have r8 := hK1214.get_some hw12 z8
      have r9 := hK1214.get_some hw12 z9
      have t2 := st2 (v := v6) (w := .bool (sgn true (trimL (subL [1] [])))) r8 j6.one_v rfl
      have hK415 := (hK412.trans hK1214).put (x := σ4.nx) (Nat.le_refl _) (Nat.lt_of_lt_of_le (hw12 _ _ z8) hK1214.1) (.cells 123 [v6, .bool (sgn true (trimL (subL [1] [])))] 0 0 (some 0) [])
      have w8 : (σ14.put σ4.nx (.cells 123 [v6, .bool (sgn true (trimL (subL [1] [])))] 0 0 (some 0) [])).get σ4.nx = some (.cells 123 [v6, .bool (sgn true (trimL (subL [1] [])))] 0 0 (some 0) []) := by rw [H.get_put, if_pos rfl]
      have w9 : (σ14.put σ4.nx (.cells 123 [v6, .bool (sgn true (trimL (subL [1] [])))] 0 0 (some 0) [])).get (σ4.new (.cells 123 [.nils, .bool false] 0 0 (some 0) [])).nx = some (.cells 123 [v3, .bool false] 0 0 (some 0) []) := by rw [H.get_put, if_neg hne]; exact r9
      have y6 := UG.put_var (v := v6) (w := .bool (sgn true (trimL (subL [1] [])))) wd_neN (fun n => wd_neB n false) r8 j6
      have y3 := UG.put_var (v := v6) (w := .bool (sgn true (trimL (subL [1] [])))) wd_neN (fun n => wd_neB n false) r8 (y3u.keep hw12 hK1214)
      generalize hσ15 : σ14.put σ4.nx (.cells 123 [v6, .bool (sgn true (trimL (subL [1] [])))] 0 0 (some 0) []) = σ15 at *
      have hos12 : ((owe1 σ12 0 1 [] (.ptr σ4.nx 0 0)).all (oweOk (σ15 :: [σ14, σ13, σ12]).reverse)) = true := by
        rw [owe_keepR z8 hw12 (fun s h => by
          simp only [List.reverse_cons, List.reverse_nil, List.nil_append, List.cons_append, List.drop_zero, List.take_succ_cons, List.take_zero, List.mem_cons, List.not_mem_nil, or_false] at h
          rcases h with rfl | rfl
          · exact Keep.refl _
          · exact j2)]
        rfl
      have hlD : (trimL (subL (trimL B) (trimL A))).length ≤ 4096 := by
        have h1 := trimL_le (subL (trimL B) (trimL A))
        rw [subL_len] at h1
        omega
      have hlD2 : (trimL (subL [1] [])).length ≤ 4096 := by
        have h1 := trimL_le (subL [1] [])
        rw [subL_len] at h1
        simp at h1
        omega
      have tl := fun τ e1 e2 e3 e4 => tail τ σ15 σ4.nx (σ4.new (.cells 123 [.nils, .bool false] 0 0 (some 0) [])).nx v6 (sgn true (trimL (subL [1] []))) v3 (trimL (subL [1] [])) (trimL (subL (trimL B) (trimL A))) (hK415.2.2 hw4) ((k2.trans s3).trans hK415) e1 e2 e3 e4 w8 w9 y6 y3 hlD2 hlD (by rw [modL, if_pos hs])
      clear tail
      generalize hσx : σ4.new (.cells 123 [.nils, .bool false] 0 0 (some 0) []) = σx at *
      generalize hσ5 : σx.new (.cells 123 [.nils, .bool false] 0 0 (some 0) []) = σ5 at *
      simp only [c78, CC.seq.injEq] at hbody
      obtain ⟨rfl, rfl, rfl, rfl, rfl, hr⟩ := hbody
      clear hr
      show Rt (exec cf lf 45 _ τ0 σ []) _
      simp only [QU, oP, oR, oA, oH, oPn, oRn, oAn, oHn, bi, ld, ki, kt, kf, s_ops_nil, s_ops_cons, s_ops_nx, s_ops_pn, s_seq, s_seq_nx, s_seq_ex, s_seq_rt, s_skip, s_ret, s_exit, s_reg, s_cond, s_cond_t, s_cond_f, s_blk, s_blk_nx, s_blk_rt, s_blk_ex, s_put, s_P, s_R, s_A, s_A_some, s_C_ret, s_C_pan, s_H, s_H_ok, s_H_call, s_H_pan, s_gd, s_gd_bool, s_gd_undef, e_t, e_k, e_mv, e_pick, e_pick_b, e_bin, e_add_i64, e_add_i32, e_sub_i64, e_sub_u8, e_mul_i64, e_addU, e_mulU, e_addU32, e_mulU32, e_eql, e_neq, e_lss, e_leq, e_gtr, e_geq, e_str_eql, e_str_neq, e_iaddr, e_iaddr_int, e_lens, e_ld, e_extract, e_ex0, e_ex1, e_ex2, e_lenS, e_lenS_str, e_cii, e_cii_int, e_slsl_hm, e_sl2, e_slsl_h, e_sl1, e_slis, e_evL_nil, e_evL_cons, e_cons, e_call, e_callk, e_app, e_appk, e_store, e_stk, e_next, e_nextk, e_range, e_rangek, e_bs1, e_bs1i, e_bs0, e_mksl, e_mkslk, e_AK_sl, e_AK_it, e_AK_ptr, e_not, e_notb, e_xori, e_idxs, s_Hn, s_Hnk, s_Nx, s_Rt, s_NR_nx, s_NR_rt, s_NXT_nx, s_NXT_ex, s_NXT_rt, e_lenV_sl, e_lenV_nils, get_pk, k_bind, true_and, and_true, if_true, if_false, Bool.true_eq, beq_self_eq_true, reduceIte, Bool.false_eq_true, reduceCtorEq, bne_self_eq_false, Nat.reduceAdd, Nat.reduceLeDiff, Nat.reduceEqDiff, Nat.reduceSub, Nat.reduceBEq, Int.reduceBEq, Int.reduceNeg, Int.reduceLT, Int.reduceLE, Nat.succ_ne_self, Bool.not_true, Bool.not_false, Bool.true_beq, Bool.false_beq, decide_true, decide_false, exists_eq_left', Option.some.injEq, w_drw, w_nil, w_0, w_3, w_0nx, w_1s, w_1nx, w_1lk, w_1ls, w_2, w_2nx, lg, w_1l, w_1g, w_1gk, e_lg, e_box, e_box2, e_alloc, e_faddr, e_fadp, h0, h1, hσa, hσb, hσc, hσ2, l1, k1, s1, g70, g7g, g2, kn, hσx, hσ5, k4, k7, f1, f2, hos, g9b, g9g, g70', k9, k11, t1, hσ12, hos9, g71', g8g, j1, j4, t2, hσ15, hos12, ne_eq, not_false_eq_true, Nat.zero_ne_one]
      exact tl _ (by simp only [QU, oP, oR, oA, oH, oPn, oRn, oAn, oHn, bi, ld, ki, kt, kf, s_ops_nil, s_ops_cons, s_ops_nx, s_ops_pn, s_seq, s_seq_nx, s_seq_ex, s_seq_rt, s_skip, s_ret, s_exit, s_reg, s_cond, s_cond_t, s_cond_f, s_blk, s_blk_nx, s_blk_rt, s_blk_ex, s_put, s_P, s_R, s_A, s_A_some, s_C_ret, s_C_pan, s_H, s_H_ok, s_H_call, s_H_pan, s_gd, s_gd_bool, s_gd_undef, e_t, e_k, e_mv, e_pick, e_pick_b, e_bin, e_add_i64, e_add_i32, e_sub_i64, e_sub_u8, e_mul_i64, e_addU, e_mulU, e_addU32, e_mulU32, e_eql, e_neq, e_lss, e_leq, e_gtr, e_geq, e_str_eql, e_str_neq, e_iaddr, e_iaddr_int, e_lens, e_ld, e_extract, e_ex0, e_ex1, e_ex2, e_lenS, e_lenS_str, e_cii, e_cii_int, e_slsl_hm, e_sl2, e_slsl_h, e_sl1, e_slis, e_evL_nil, e_evL_cons, e_cons, e_call, e_callk, e_app, e_appk, e_store, e_stk, e_next, e_nextk, e_range, e_rangek, e_bs1, e_bs1i, e_bs0, e_mksl, e_mkslk, e_AK_sl, e_AK_it, e_AK_ptr, e_not, e_notb, e_xori, e_idxs, s_Hn, s_Hnk, s_Nx, s_Rt, s_NR_nx, s_NR_rt, s_NXT_nx, s_NXT_ex, s_NXT_rt, e_lenV_sl, e_lenV_nils, get_pk, k_bind, true_and, and_true, if_true, if_false, Bool.true_eq, beq_self_eq_true, reduceIte, Bool.false_eq_true, reduceCtorEq, bne_self_eq_false, Nat.reduceAdd, Nat.reduceLeDiff, Nat.reduceEqDiff, Nat.reduceSub, Nat.reduceBEq, Int.reduceBEq, Int.reduceNeg, Int.reduceLT, Int.reduceLE, Nat.succ_ne_self, Bool.not_true, Bool.not_false, Bool.true_beq, Bool.false_beq, decide_true, decide_false, exists_eq_left', Option.some.injEq]) (by simp only [QU, oP, oR, oA, oH, oPn, oRn, oAn, oHn, bi, ld, ki, kt, kf, s_ops_nil, s_ops_cons, s_ops_nx, s_ops_pn, s_seq, s_seq_nx, s_seq_ex, s_seq_rt, s_skip, s_ret, s_exit, s_reg, s_cond, s_cond_t, s_cond_f, s_blk, s_blk_nx, s_blk_rt, s_blk_ex, s_put, s_P, s_R, s_A, s_A_some, s_C_ret, s_C_pan, s_H, s_H_ok, s_H_call, s_H_pan, s_gd, s_gd_bool, s_gd_undef, e_t, e_k, e_mv, e_pick, e_pick_b, e_bin, e_add_i64, e_add_i32, e_sub_i64, e_sub_u8, e_mul_i64, e_addU, e_mulU, e_addU32, e_mulU32, e_eql, e_neq, e_lss, e_leq, e_gtr, e_geq, e_str_eql, e_str_neq, e_iaddr, e_iaddr_int, e_lens, e_ld, e_extract, e_ex0, e_ex1, e_ex2, e_lenS, e_lenS_str, e_cii, e_cii_int, e_slsl_hm, e_sl2, e_slsl_h, e_sl1, e_slis, e_evL_nil, e_evL_cons, e_cons, e_call, e_callk, e_app, e_appk, e_store, e_stk, e_next, e_nextk, e_range, e_rangek, e_bs1, e_bs1i, e_bs0, e_mksl, e_mkslk, e_AK_sl, e_AK_it, e_AK_ptr, e_not, e_notb, e_xori, e_idxs, s_Hn, s_Hnk, s_Nx, s_Rt, s_NR_nx, s_NR_rt, s_NXT_nx, s_NXT_ex, s_NXT_rt, e_lenV_sl, e_lenV_nils, get_pk, k_bind, true_and, and_true, if_true, if_false, Bool.true_eq, beq_self_eq_true, reduceIte, Bool.false_eq_true, reduceCtorEq, bne_self_eq_false, Nat.reduceAdd, Nat.reduceLeDiff, Nat.reduceEqDiff, Nat.reduceSub, Nat.reduceBEq, Int.reduceBEq, Int.reduceNeg, Int.reduceLT, Int.reduceLE, Nat.succ_ne_self, Bool.not_true, Bool.not_false, Bool.true_beq, Bool.false_beq, decide_true, decide_false, exists_eq_left', Option.some.injEq]) (by simp only [QU, oP, oR, oA, oH, oPn, oRn, oAn, oHn, bi, ld, ki, kt, kf, s_ops_nil, s_ops_cons, s_ops_nx, s_ops_pn, s_seq, s_seq_nx, s_seq_ex, s_seq_rt, s_skip, s_ret, s_exit, s_reg, s_cond, s_cond_t, s_cond_f, s_blk, s_blk_nx, s_blk_rt, s_blk_ex, s_put, s_P, s_R, s_A, s_A_some, s_C_ret, s_C_pan, s_H, s_H_ok, s_H_call, s_H_pan, s_gd, s_gd_bool, s_gd_undef, e_t, e_k, e_mv, e_pick, e_pick_b, e_bin, e_add_i64, e_add_i32, e_sub_i64, e_sub_u8, e_mul_i64, e_addU, e_mulU, e_addU32, e_mulU32, e_eql, e_neq, e_lss, e_leq, e_gtr, e_geq, e_str_eql, e_str_neq, e_iaddr, e_iaddr_int, e_lens, e_ld, e_extract, e_ex0, e_ex1, e_ex2, e_lenS, e_lenS_str, e_cii, e_cii_int, e_slsl_hm, e_sl2, e_slsl_h, e_sl1, e_slis, e_evL_nil, e_evL_cons, e_cons, e_call, e_callk, e_app, e_appk, e_store, e_stk, e_next, e_nextk, e_range, e_rangek, e_bs1, e_bs1i, e_bs0, e_mksl, e_mkslk, e_AK_sl, e_AK_it, e_AK_ptr, e_not, e_notb, e_xori, e_idxs, s_Hn, s_Hnk, s_Nx, s_Rt, s_NR_nx, s_NR_rt, s_NXT_nx, s_NXT_ex, s_NXT_rt, e_lenV_sl, e_lenV_nils, get_pk, k_bind, true_and, and_true, if_true, if_false, Bool.true_eq, beq_self_eq_true, reduceIte, Bool.false_eq_true, reduceCtorEq, bne_self_eq_false, Nat.reduceAdd, Nat.reduceLeDiff, Nat.reduceEqDiff, Nat.reduceSub, Nat.reduceBEq, Int.reduceBEq, Int.reduceNeg, Int.reduceLT, Int.reduceLE, Nat.succ_ne_self, Bool.not_true, Bool.not_false, Bool.true_beq, Bool.false_beq, decide_true, decide_false, exists_eq_left', Option.some.injEq]) (by simp only [QU, oP, oR, oA, oH, oPn, oRn, oAn, oHn, bi, ld, ki, kt, kf, s_ops_nil, s_ops_cons, s_ops_nx, s_ops_pn, s_seq, s_seq_nx, s_seq_ex, s_seq_rt, s_skip, s_ret, s_exit, s_reg, s_cond, s_cond_t, s_cond_f, s_blk, s_blk_nx, s_blk_rt, s_blk_ex, s_put, s_P, s_R, s_A, s_A_some, s_C_ret, s_C_pan, s_H, s_H_ok, s_H_call, s_H_pan, s_gd, s_gd_bool, s_gd_undef, e_t, e_k, e_mv, e_pick, e_pick_b, e_bin, e_add_i64, e_add_i32, e_sub_i64, e_sub_u8, e_mul_i64, e_addU, e_mulU, e_addU32, e_mulU32, e_eql, e_neq, e_lss, e_leq, e_gtr, e_geq, e_str_eql, e_str_neq, e_iaddr, e_iaddr_int, e_lens, e_ld, e_extract, e_ex0, e_ex1, e_ex2, e_lenS, e_lenS_str, e_cii, e_cii_int, e_slsl_hm, e_sl2, e_slsl_h, e_sl1, e_slis, e_evL_nil, e_evL_cons, e_cons, e_call, e_callk, e_app, e_appk, e_store, e_stk, e_next, e_nextk, e_range, e_rangek, e_bs1, e_bs1i, e_bs0, e_mksl, e_mkslk, e_AK_sl, e_AK_it, e_AK_ptr, e_not, e_notb, e_xori, e_idxs, s_Hn, s_Hnk, s_Nx, s_Rt, s_NR_nx, s_NR_rt, s_NXT_nx, s_NXT_ex, s_NXT_rt, e_lenV_sl, e_lenV_nils, get_pk, k_bind, true_and, and_true, if_true, if_false, Bool.true_eq, beq_self_eq_true, reduceIte, Bool.false_eq_true, reduceCtorEq, bne_self_eq_false, Nat.reduceAdd, Nat.reduceLeDiff, Nat.reduceEqDiff, Nat.reduceSub, Nat.reduceBEq, Int.reduceBEq, Int.reduceNeg, Int.reduceLT, Int.reduceLE, Nat.succ_ne_self, Bool.not_true, Bool.not_false, Bool.true_beq, Bool.false_beq, decide_true, decide_false, exists_eq_left', Option.some.injEq])
    · have hs2 : sgn x (trimL A) = false := by simpa using hs
      rw [hs2] at k4 k7 f2 f4 g9b
      have tl := fun τ e1 e2 e3 e4 => tail τ σ9 σ4.nx (σ4.new (.cells 123 [.nils, .bool false] 0 0 (some 0) [])).nx .nils false v1 [] (trimL A) hw9 hK29 e1 e2 e3 e4 f3 f4 (UG.nils _ _) hv1 (by simp) (by omega) (by rw [modL, if_neg hs])
      clear tail
      generalize hσx : σ4.new (.cells 123 [.nils, .bool false] 0 0 (some 0) []) = σx at *
      generalize hσ5 : σx.new (.cells 123 [.nils, .bool false] 0 0 (some 0) []) = σ5 at *
      simp only [c78, CC.seq.injEq] at hbody
      obtain ⟨rfl, rfl, rfl, rfl, rfl, hr⟩ := hbody
      clear hr
      show Rt (exec cf lf 45 _ τ0 σ []) _
      simp only [QU, oP, oR, oA, oH, oPn, oRn, oAn, oHn, bi, ld, ki, kt, kf, s_ops_nil, s_ops_cons, s_ops_nx, s_ops_pn, s_seq, s_seq_nx, s_seq_ex, s_seq_rt, s_skip, s_ret, s_exit, s_reg, s_cond, s_cond_t, s_cond_f, s_blk, s_blk_nx, s_blk_rt, s_blk_ex, s_put, s_P, s_R, s_A, s_A_some, s_C_ret, s_C_pan, s_H, s_H_ok, s_H_call, s_H_pan, s_gd, s_gd_bool, s_gd_undef, e_t, e_k, e_mv, e_pick, e_pick_b, e_bin, e_add_i64, e_add_i32, e_sub_i64, e_sub_u8, e_mul_i64, e_addU, e_mulU, e_addU32, e_mulU32, e_eql, e_neq, e_lss, e_leq, e_gtr, e_geq, e_str_eql, e_str_neq, e_iaddr, e_iaddr_int, e_lens, e_ld, e_extract, e_ex0, e_ex1, e_ex2, e_lenS, e_lenS_str, e_cii, e_cii_int, e_slsl_hm, e_sl2, e_slsl_h, e_sl1, e_slis, e_evL_nil, e_evL_cons, e_cons, e_call, e_callk, e_app, e_appk, e_store, e_stk, e_next, e_nextk, e_range, e_rangek, e_bs1, e_bs1i, e_bs0, e_mksl, e_mkslk, e_AK_sl, e_AK_it, e_AK_ptr, e_not, e_notb, e_xori, e_idxs, s_Hn, s_Hnk, s_Nx, s_Rt, s_NR_nx, s_NR_rt, s_NXT_nx, s_NXT_ex, s_NXT_rt, e_lenV_sl, e_lenV_nils, get_pk, k_bind, true_and, and_true, if_true, if_false, Bool.true_eq, beq_self_eq_true, reduceIte, Bool.false_eq_true, reduceCtorEq, bne_self_eq_false, Nat.reduceAdd, Nat.reduceLeDiff, Nat.reduceEqDiff, Nat.reduceSub, Nat.reduceBEq, Int.reduceBEq, Int.reduceNeg, Int.reduceLT, Int.reduceLE, Nat.succ_ne_self, Bool.not_true, Bool.not_false, Bool.true_beq, Bool.false_beq, decide_true, decide_false, exists_eq_left', Option.some.injEq, w_drw, w_nil, w_0, w_3, w_0nx, w_1s, w_1nx, w_1lk, w_1ls, w_2, w_2nx, lg, w_1l, w_1g, w_1gk, e_lg, e_box, e_box2, e_alloc, e_faddr, e_fadp, h0, h1, hσa, hσb, hσc, hσ2, l1, k1, s1, g70, g7g, g2, kn, hσx, hσ5, k4, k7, f1, f2, hos, g9b, ne_eq, not_false_eq_true, Nat.zero_ne_one]
      exact tl _ (by simp only [QU, oP, oR, oA, oH, oPn, oRn, oAn, oHn, bi, ld, ki, kt, kf, s_ops_nil, s_ops_cons, s_ops_nx, s_ops_pn, s_seq, s_seq_nx, s_seq_ex, s_seq_rt, s_skip, s_ret, s_exit, s_reg, s_cond, s_cond_t, s_cond_f, s_blk, s_blk_nx, s_blk_rt, s_blk_ex, s_put, s_P, s_R, s_A, s_A_some, s_C_ret, s_C_pan, s_H, s_H_ok, s_H_call, s_H_pan, s_gd, s_gd_bool, s_gd_undef, e_t, e_k, e_mv, e_pick, e_pick_b, e_bin, e_add_i64, e_add_i32, e_sub_i64, e_sub_u8, e_mul_i64, e_addU, e_mulU, e_addU32, e_mulU32, e_eql, e_neq, e_lss, e_leq, e_gtr, e_geq, e_str_eql, e_str_neq, e_iaddr, e_iaddr_int, e_lens, e_ld, e_extract, e_ex0, e_ex1, e_ex2, e_lenS, e_lenS_str, e_cii, e_cii_int, e_slsl_hm, e_sl2, e_slsl_h, e_sl1, e_slis, e_evL_nil, e_evL_cons, e_cons, e_call, e_callk, e_app, e_appk, e_store, e_stk, e_next, e_nextk, e_range, e_rangek, e_bs1, e_bs1i, e_bs0, e_mksl, e_mkslk, e_AK_sl, e_AK_it, e_AK_ptr, e_not, e_notb, e_xori, e_idxs, s_Hn, s_Hnk, s_Nx, s_Rt, s_NR_nx, s_NR_rt, s_NXT_nx, s_NXT_ex, s_NXT_rt, e_lenV_sl, e_lenV_nils, get_pk, k_bind, true_and, and_true, if_true, if_false, Bool.true_eq, beq_self_eq_true, reduceIte, Bool.false_eq_true, reduceCtorEq, bne_self_eq_false, Nat.reduceAdd, Nat.reduceLeDiff, Nat.reduceEqDiff, Nat.reduceSub, Nat.reduceBEq, Int.reduceBEq, Int.reduceNeg, Int.reduceLT, Int.reduceLE, Nat.succ_ne_self, Bool.not_true, Bool.not_false, Bool.true_beq, Bool.false_beq, decide_true, decide_false, exists_eq_left', Option.some.injEq]) (by simp only [QU, oP, oR, oA, oH, oPn, oRn, oAn, oHn, bi, ld, ki, kt, kf, s_ops_nil, s_ops_cons, s_ops_nx, s_ops_pn, s_seq, s_seq_nx, s_seq_ex, s_seq_rt, s_skip, s_ret, s_exit, s_reg, s_cond, s_cond_t, s_cond_f, s_blk, s_blk_nx, s_blk_rt, s_blk_ex, s_put, s_P, s_R, s_A, s_A_some, s_C_ret, s_C_pan, s_H, s_H_ok, s_H_call, s_H_pan, s_gd, s_gd_bool, s_gd_undef, e_t, e_k, e_mv, e_pick, e_pick_b, e_bin, e_add_i64, e_add_i32, e_sub_i64, e_sub_u8, e_mul_i64, e_addU, e_mulU, e_addU32, e_mulU32, e_eql, e_neq, e_lss, e_leq, e_gtr, e_geq, e_str_eql, e_str_neq, e_iaddr, e_iaddr_int, e_lens, e_ld, e_extract, e_ex0, e_ex1, e_ex2, e_lenS, e_lenS_str, e_cii, e_cii_int, e_slsl_hm, e_sl2, e_slsl_h, e_sl1, e_slis, e_evL_nil, e_evL_cons, e_cons, e_call, e_callk, e_app, e_appk, e_store, e_stk, e_next, e_nextk, e_range, e_rangek, e_bs1, e_bs1i, e_bs0, e_mksl, e_mkslk, e_AK_sl, e_AK_it, e_AK_ptr, e_not, e_notb, e_xori, e_idxs, s_Hn, s_Hnk, s_Nx, s_Rt, s_NR_nx, s_NR_rt, s_NXT_nx, s_NXT_ex, s_NXT_rt, e_lenV_sl, e_lenV_nils, get_pk, k_bind, true_and, and_true, if_true, if_false, Bool.true_eq, beq_self_eq_true, reduceIte, Bool.false_eq_true, reduceCtorEq, bne_self_eq_false, Nat.reduceAdd, Nat.reduceLeDiff, Nat.reduceEqDiff, Nat.reduceSub, Nat.reduceBEq, Int.reduceBEq, Int.reduceNeg, Int.reduceLT, Int.reduceLE, Nat.succ_ne_self, Bool.not_true, Bool.not_false, Bool.true_beq, Bool.false_beq, decide_true, decide_false, exists_eq_left', Option.some.injEq]) (by simp only [QU, oP, oR, oA, oH, oPn, oRn, oAn, oHn, bi, ld, ki, kt, kf, s_ops_nil, s_ops_cons, s_ops_nx, s_ops_pn, s_seq, s_seq_nx, s_seq_ex, s_seq_rt, s_skip, s_ret, s_exit, s_reg, s_cond, s_cond_t, s_cond_f, s_blk, s_blk_nx, s_blk_rt, s_blk_ex, s_put, s_P, s_R, s_A, s_A_some, s_C_ret, s_C_pan, s_H, s_H_ok, s_H_call, s_H_pan, s_gd, s_gd_bool, s_gd_undef, e_t, e_k, e_mv, e_pick, e_pick_b, e_bin, e_add_i64, e_add_i32, e_sub_i64, e_sub_u8, e_mul_i64, e_addU, e_mulU, e_addU32, e_mulU32, e_eql, e_neq, e_lss, e_leq, e_gtr, e_geq, e_str_eql, e_str_neq, e_iaddr, e_iaddr_int, e_lens, e_ld, e_extract, e_ex0, e_ex1, e_ex2, e_lenS, e_lenS_str, e_cii, e_cii_int, e_slsl_hm, e_sl2, e_slsl_h, e_sl1, e_slis, e_evL_nil, e_evL_cons, e_cons, e_call, e_callk, e_app, e_appk, e_store, e_stk, e_next, e_nextk, e_range, e_rangek, e_bs1, e_bs1i, e_bs0, e_mksl, e_mkslk, e_AK_sl, e_AK_it, e_AK_ptr, e_not, e_notb, e_xori, e_idxs, s_Hn, s_Hnk, s_Nx, s_Rt, s_NR_nx, s_NR_rt, s_NXT_nx, s_NXT_ex, s_NXT_rt, e_lenV_sl, e_lenV_nils, get_pk, k_bind, true_and, and_true, if_true, if_false, Bool.true_eq, beq_self_eq_true, reduceIte, Bool.false_eq_true, reduceCtorEq, bne_self_eq_false, Nat.reduceAdd, Nat.reduceLeDiff, Nat.reduceEqDiff, Nat.reduceSub, Nat.reduceBEq, Int.reduceBEq, Int.reduceNeg, Int.reduceLT, Int.reduceLE, Nat.succ_ne_self, Bool.not_true, Bool.not_false, Bool.true_beq, Bool.false_beq, decide_true, decide_false, exists_eq_left', Option.some.injEq]) (by simp only [QU, oP, oR, oA, oH, oPn, oRn, oAn, oHn, bi, ld, ki, kt, kf, s_ops_nil, s_ops_cons, s_ops_nx, s_ops_pn, s_seq, s_seq_nx, s_seq_ex, s_seq_rt, s_skip, s_ret, s_exit, s_reg, s_cond, s_cond_t, s_cond_f, s_blk, s_blk_nx, s_blk_rt, s_blk_ex, s_put, s_P, s_R, s_A, s_A_some, s_C_ret, s_C_pan, s_H, s_H_ok, s_H_call, s_H_pan, s_gd, s_gd_bool, s_gd_undef, e_t, e_k, e_mv, e_pick, e_pick_b, e_bin, e_add_i64, e_add_i32, e_sub_i64, e_sub_u8, e_mul_i64, e_addU, e_mulU, e_addU32, e_mulU32, e_eql, e_neq, e_lss, e_leq, e_gtr, e_geq, e_str_eql, e_str_neq, e_iaddr, e_iaddr_int, e_lens, e_ld, e_extract, e_ex0, e_ex1, e_ex2, e_lenS, e_lenS_str, e_cii, e_cii_int, e_slsl_hm, e_sl2, e_slsl_h, e_sl1, e_slis, e_evL_nil, e_evL_cons, e_cons, e_call, e_callk, e_app, e_appk, e_store, e_stk, e_next, e_nextk, e_range, e_rangek, e_bs1, e_bs1i, e_bs0, e_mksl, e_mkslk, e_AK_sl, e_AK_it, e_AK_ptr, e_not, e_notb, e_xori, e_idxs, s_Hn, s_Hnk, s_Nx, s_Rt, s_NR_nx, s_NR_rt, s_NXT_nx, s_NXT_ex, s_NXT_rt, e_lenV_sl, e_lenV_nils, get_pk, k_bind, true_and, and_true, if_true, if_false, Bool.true_eq, beq_self_eq_true, reduceIte, Bool.false_eq_true, reduceCtorEq, bne_self_eq_false, Nat.reduceAdd, Nat.reduceLeDiff, Nat.reduceEqDiff, Nat.reduceSub, Nat.reduceBEq, Int.reduceBEq, Int.reduceNeg, Int.reduceLT, Int.reduceLE, Nat.succ_ne_self, Bool.not_true, Bool.not_false, Bool.true_beq, Bool.false_beq, decide_true, decide_false, exists_eq_left', Option.some.injEq])
  obtain ⟨u, v, u', w, e, σ', h1, rfl, rfl, h2⟩ := key
  exact ⟨u, v, w, σ', h1, h2⟩
end Go.Proofs.YtahgfodccndcjaaGreatEng

