/- Layer 1 run on symbols: long, own, out. -/
import Derived.Test.YtahgfodccndcjaaGreatN2
namespace Go.Proofs.YtahgfodccndcjaaGreatEng
open Go
set_option maxRecDepth 100000
set_option linter.unusedSimpArgs false

theorem c40_at : T1.code 40 = some c40 := by kernel_rfl
theorem c55_at : T1.code 55 = some c55 := by kernel_rfl
theorem c41_at : T1.code 41 = some c41 := by kernel_rfl
theorem c32_at : T1.code 32 = some c32 := by kernel_rfl

theorem trimL_le (L : List Nat) : (trimL L).length ≤ L.length := by simp [trimL]; omega

/-- long of one number -/
theorem long_call {lf m : Nat} {σ : H} {a : V} {L : List Nat} {x : Pos} {ty : Nat} (hx : σ.get x = some (.cells ty [a] 0 0 (some 0) [])) (ha : U σ a L) (hlf : L.length + 3 < lf) (hL : L.length < 4611686018427387904) :
    call T1 lf (m + 2) 40 [.sl x 0 0 1 (some 1) 0] σ = .ret (.bool (decide (4096 < (trimL L).length))) σ := by
  have key : ∃ v σ', call T1 lf (m + 2) 40 [.sl x 0 0 1 (some 1) 0] σ = .ret v σ' ∧ (v = .bool (decide (4096 < (trimL L).length)) ∧ σ' = σ) := by
    refine call_rt1 (p := pk 2) rfl c40_at (by simp [c40]) rfl fun cf hcf => ?_
    obtain ⟨a', ht, hu⟩ := trim_call (lf := lf) (m := m) ha (by omega) hL
    rw [← hcf] at ht
    obtain ⟨l, rfl⟩ : ∃ l, lf = l + 2 := ⟨lf - 2, by omega⟩
    generalize hτ : bindArgs [.sl x 0 0 1 (some 1) 0] .h .lf = τ0
    have h0 : τ0.get (pk 0) = some (.sl x 0 0 1 (some 1) 0) := by rw [← hτ]; rfl
    clear hτ
    have e0 : elemAt 1 (.sl x 0 0 1 (some 1) 0) 0 = some (.ptr x 0 0) := rfl
    have e1 : ldv σ (.ptr x 0 0) = some a := by simp only [ldv, blkCells, hx, visib, if_true]; rfl
    have w1 : IntKind.i64.wrap ((0 : Int) + 1) = 1 := by decide
    have d1 : decide ((0 : Int) < ((1 : Nat) : Int)) = true := by decide
    have d2 : decide ((1 : Int) < ((1 : Nat) : Int)) = false := by decide
    by_cases hb : 4096 < (trimL L).length
    · have d3 : decide ((4096 : Int) < (((trimL L).length : Nat) : Int)) = true := by simp; omega
      have d4 : decide (4096 < (trimL L).length) = true := by simpa using hb
      simp only [c40, b40_0, QU, oP, oR, oA, oH, oPn, oRn, oAn, oHn, bi, ld, ki, kt, kf, s_ops_nil, s_ops_cons, s_ops_nx, s_ops_pn, s_seq, s_seq_nx, s_seq_ex, s_seq_rt, s_skip, s_ret, s_exit, s_reg, s_cond, s_cond_t, s_cond_f, s_blk, s_blk_nx, s_blk_rt, s_blk_ex, s_put, s_P, s_R, s_A, s_A_some, s_C_ret, s_C_pan, s_H, s_H_ok, s_H_call, s_H_pan, s_gd, s_gd_bool, s_gd_undef, e_t, e_k, e_mv, e_pick, e_pick_b, e_bin, e_add_i64, e_add_i32, e_sub_i64, e_sub_u8, e_mul_i64, e_addU, e_mulU, e_addU32, e_mulU32, e_eql, e_neq, e_lss, e_leq, e_gtr, e_geq, e_str_eql, e_str_neq, e_iaddr, e_iaddr_int, e_lens, e_ld, e_extract, e_ex0, e_ex1, e_ex2, e_lenS, e_lenS_str, e_cii, e_cii_int, e_slsl_hm, e_sl2, e_slsl_h, e_sl1, e_slis, e_evL_nil, e_evL_cons, e_cons, e_call, e_callk, e_app, e_appk, e_store, e_stk, e_next, e_nextk, e_range, e_rangek, e_bs1, e_bs1i, e_bs0, e_mksl, e_mkslk, e_AK_sl, e_AK_it, e_AK_ptr, e_not, e_notb, e_xori, e_idxs, s_Hn, s_Hnk, s_Nx, s_Rt, s_NR_nx, s_NR_rt, s_NXT_nx, s_NXT_ex, s_NXT_rt, e_lenV_sl, e_lenV_nils, get_pk, k_bind, true_and, and_true, if_true, if_false, Bool.true_eq, beq_self_eq_true, reduceIte, Bool.false_eq_true, reduceCtorEq, bne_self_eq_false, Nat.reduceAdd, Nat.reduceLeDiff, Nat.reduceEqDiff, Nat.reduceSub, Nat.reduceBEq, Int.reduceBEq, Int.reduceNeg, Int.reduceLT, Int.reduceLE, Nat.succ_ne_self, Bool.not_true, Bool.not_false, Bool.true_beq, Bool.false_beq, decide_true, decide_false, exists_eq_left', Option.some.injEq, s_loop1, s_loop2, s_loop_nx, s_loop_ex, s_loop_rt, h0, e0, e1, w1, d1, d2, d3, d4, ht, hu.len]
    · have d3 : decide ((4096 : Int) < (((trimL L).length : Nat) : Int)) = false := by simp; omega
      have d4 : decide (4096 < (trimL L).length) = false := by simpa using hb
      simp only [c40, b40_0, QU, oP, oR, oA, oH, oPn, oRn, oAn, oHn, bi, ld, ki, kt, kf, s_ops_nil, s_ops_cons, s_ops_nx, s_ops_pn, s_seq, s_seq_nx, s_seq_ex, s_seq_rt, s_skip, s_ret, s_exit, s_reg, s_cond, s_cond_t, s_cond_f, s_blk, s_blk_nx, s_blk_rt, s_blk_ex, s_put, s_P, s_R, s_A, s_A_some, s_C_ret, s_C_pan, s_H, s_H_ok, s_H_call, s_H_pan, s_gd, s_gd_bool, s_gd_undef, e_t, e_k, e_mv, e_pick, e_pick_b, e_bin, e_add_i64, e_add_i32, e_sub_i64, e_sub_u8, e_mul_i64, e_addU, e_mulU, e_addU32, e_mulU32, e_eql, e_neq, e_lss, e_leq, e_gtr, e_geq, e_str_eql, e_str_neq, e_iaddr, e_iaddr_int, e_lens, e_ld, e_extract, e_ex0, e_ex1, e_ex2, e_lenS, e_lenS_str, e_cii, e_cii_int, e_slsl_hm, e_sl2, e_slsl_h, e_sl1, e_slis, e_evL_nil, e_evL_cons, e_cons, e_call, e_callk, e_app, e_appk, e_store, e_stk, e_next, e_nextk, e_range, e_rangek, e_bs1, e_bs1i, e_bs0, e_mksl, e_mkslk, e_AK_sl, e_AK_it, e_AK_ptr, e_not, e_notb, e_xori, e_idxs, s_Hn, s_Hnk, s_Nx, s_Rt, s_NR_nx, s_NR_rt, s_NXT_nx, s_NXT_ex, s_NXT_rt, e_lenV_sl, e_lenV_nils, get_pk, k_bind, true_and, and_true, if_true, if_false, Bool.true_eq, beq_self_eq_true, reduceIte, Bool.false_eq_true, reduceCtorEq, bne_self_eq_false, Nat.reduceAdd, Nat.reduceLeDiff, Nat.reduceEqDiff, Nat.reduceSub, Nat.reduceBEq, Int.reduceBEq, Int.reduceNeg, Int.reduceLT, Int.reduceLE, Nat.succ_ne_self, Bool.not_true, Bool.not_false, Bool.true_beq, Bool.false_beq, decide_true, decide_false, exists_eq_left', Option.some.injEq, s_loop1, s_loop2, s_loop_nx, s_loop_ex, s_loop_rt, h0, e0, e1, w1, d1, d2, d3, d4, ht, hu.len]
  obtain ⟨v, _, h1, rfl, rfl⟩ := key
  exact h1

/-- slices.Clone of a number that is not empty -/
theorem clone_call {lf m : Nat} {σ : H} {a : V} {L : List Nat} (ha : U σ a L) (hw : WfH σ) (hL0 : L ≠ []) (hL : L.length < 17592186048512) :
    ∃ v σ', call T1 lf (m + 1) 55 [a] σ = .ret v σ' ∧ U σ' v L ∧ Keep σ σ' := by
  refine call_rt1 (p := pk 2) rfl c55_at (by simp [c55]) rfl fun cf hcf => ?_
  clear hcf
  generalize hτ : bindArgs [a] .h .lf = τ0
  have h0 : τ0.get (pk 0) = some a := by rw [← hτ]; rfl
  clear hτ
  have ha2 : U (σ.new (.cells 49 [] 0 0 (some 0) [])) a L := ha.keep hw (Keep.new _ _)
  have e1 := app_new (σ := σ.new (.cells 49 [] 0 0 (some 0) [])) (ty := 49) (eb := 8) (x := σ.nx) ha2 hL0 (by unfold mostBytes; omega) (by unfold mostBytes; omega) (c := []) (by simp only [blkCells, H.get_new, if_true, visib])
  simp only [c55, QU, oP, oR, oA, oH, oPn, oRn, oAn, oHn, bi, ld, ki, kt, kf, s_ops_nil, s_ops_cons, s_ops_nx, s_ops_pn, s_seq, s_seq_nx, s_seq_ex, s_seq_rt, s_skip, s_ret, s_exit, s_reg, s_cond, s_cond_t, s_cond_f, s_blk, s_blk_nx, s_blk_rt, s_blk_ex, s_put, s_P, s_R, s_A, s_A_some, s_C_ret, s_C_pan, s_H, s_H_ok, s_H_call, s_H_pan, s_gd, s_gd_bool, s_gd_undef, e_t, e_k, e_mv, e_pick, e_pick_b, e_bin, e_add_i64, e_add_i32, e_sub_i64, e_sub_u8, e_mul_i64, e_addU, e_mulU, e_addU32, e_mulU32, e_eql, e_neq, e_lss, e_leq, e_gtr, e_geq, e_str_eql, e_str_neq, e_iaddr, e_iaddr_int, e_lens, e_ld, e_extract, e_ex0, e_ex1, e_ex2, e_lenS, e_lenS_str, e_cii, e_cii_int, e_slsl_hm, e_sl2, e_slsl_h, e_sl1, e_slis, e_evL_nil, e_evL_cons, e_cons, e_call, e_callk, e_app, e_appk, e_store, e_stk, e_next, e_nextk, e_range, e_rangek, e_bs1, e_bs1i, e_bs0, e_mksl, e_mkslk, e_AK_sl, e_AK_it, e_AK_ptr, e_not, e_notb, e_xori, e_idxs, s_Hn, s_Hnk, s_Nx, s_Rt, s_NR_nx, s_NR_rt, s_NXT_nx, s_NXT_ex, s_NXT_rt, e_lenV_sl, e_lenV_nils, get_pk, k_bind, true_and, and_true, if_true, if_false, Bool.true_eq, beq_self_eq_true, reduceIte, Bool.false_eq_true, reduceCtorEq, bne_self_eq_false, Nat.reduceAdd, Nat.reduceLeDiff, Nat.reduceEqDiff, Nat.reduceSub, Nat.reduceBEq, Int.reduceBEq, Int.reduceNeg, Int.reduceLT, Int.reduceLE, Nat.succ_ne_self, Bool.not_true, Bool.not_false, Bool.true_beq, Bool.false_beq, decide_true, decide_false, exists_eq_left', Option.some.injEq, h0, ha.nonnil hL0, e1]
  refine ⟨?_, (Keep.new _ _).trans (Keep.new _ _)⟩
  have := UG.new (f := wd) (σ.new (.cells 49 [] 0 0 (some 0) [])) 49 L 0 (some 0) [] none 1 [] rfl
  simpa using this

/-- own -/
theorem own_call {lf m : Nat} {σ : H} {a : V} {L : List Nat} (ha : U σ a L) (hw : WfH σ) (hlf : L.length < lf) (hL : L.length < 17592186048512) :
    ∃ v σ', call T1 lf (m + 2) 41 [a] σ = .ret v σ' ∧ U σ' v (trimL L) ∧ Keep σ σ' := by
  refine call_rt1 (p := pk 2) rfl c41_at (by simp [c41]) rfl fun cf hcf => ?_
  obtain ⟨a', ht, hu⟩ := trim_call (lf := lf) (m := m) ha hlf (by omega)
  rw [← hcf] at ht
  generalize hτ : bindArgs [a] .h .lf = τ0
  have h0 : τ0.get (pk 0) = some a := by rw [← hτ]; rfl
  clear hτ
  by_cases hz : trimL L = []
  · have d1 : ((((trimL L).length : Nat) : Int) == 0) = true := by rw [hz]; rfl
    simp only [c41, QU, oP, oR, oA, oH, oPn, oRn, oAn, oHn, bi, ld, ki, kt, kf, s_ops_nil, s_ops_cons, s_ops_nx, s_ops_pn, s_seq, s_seq_nx, s_seq_ex, s_seq_rt, s_skip, s_ret, s_exit, s_reg, s_cond, s_cond_t, s_cond_f, s_blk, s_blk_nx, s_blk_rt, s_blk_ex, s_put, s_P, s_R, s_A, s_A_some, s_C_ret, s_C_pan, s_H, s_H_ok, s_H_call, s_H_pan, s_gd, s_gd_bool, s_gd_undef, e_t, e_k, e_mv, e_pick, e_pick_b, e_bin, e_add_i64, e_add_i32, e_sub_i64, e_sub_u8, e_mul_i64, e_addU, e_mulU, e_addU32, e_mulU32, e_eql, e_neq, e_lss, e_leq, e_gtr, e_geq, e_str_eql, e_str_neq, e_iaddr, e_iaddr_int, e_lens, e_ld, e_extract, e_ex0, e_ex1, e_ex2, e_lenS, e_lenS_str, e_cii, e_cii_int, e_slsl_hm, e_sl2, e_slsl_h, e_sl1, e_slis, e_evL_nil, e_evL_cons, e_cons, e_call, e_callk, e_app, e_appk, e_store, e_stk, e_next, e_nextk, e_range, e_rangek, e_bs1, e_bs1i, e_bs0, e_mksl, e_mkslk, e_AK_sl, e_AK_it, e_AK_ptr, e_not, e_notb, e_xori, e_idxs, s_Hn, s_Hnk, s_Nx, s_Rt, s_NR_nx, s_NR_rt, s_NXT_nx, s_NXT_ex, s_NXT_rt, e_lenV_sl, e_lenV_nils, get_pk, k_bind, true_and, and_true, if_true, if_false, Bool.true_eq, beq_self_eq_true, reduceIte, Bool.false_eq_true, reduceCtorEq, bne_self_eq_false, Nat.reduceAdd, Nat.reduceLeDiff, Nat.reduceEqDiff, Nat.reduceSub, Nat.reduceBEq, Int.reduceBEq, Int.reduceNeg, Int.reduceLT, Int.reduceLE, Nat.succ_ne_self, Bool.not_true, Bool.not_false, Bool.true_beq, Bool.false_beq, decide_true, decide_false, exists_eq_left', Option.some.injEq, h0, ht, hu.len, d1]
    rw [hz]
    exact ⟨U.nils _, Keep.refl _⟩
  · have d1 : ((((trimL L).length : Nat) : Int) == 0) = false := by
      have : (trimL L).length ≠ 0 := fun e => hz (List.eq_nil_of_length_eq_zero e)
      simp; exact hz
    obtain ⟨v, σ', k1, k2, k3⟩ := clone_call (lf := lf) (m := m) hu hw hz (by have := trimL_le L; omega)
    rw [← hcf] at k1
    simp only [c41, QU, oP, oR, oA, oH, oPn, oRn, oAn, oHn, bi, ld, ki, kt, kf, s_ops_nil, s_ops_cons, s_ops_nx, s_ops_pn, s_seq, s_seq_nx, s_seq_ex, s_seq_rt, s_skip, s_ret, s_exit, s_reg, s_cond, s_cond_t, s_cond_f, s_blk, s_blk_nx, s_blk_rt, s_blk_ex, s_put, s_P, s_R, s_A, s_A_some, s_C_ret, s_C_pan, s_H, s_H_ok, s_H_call, s_H_pan, s_gd, s_gd_bool, s_gd_undef, e_t, e_k, e_mv, e_pick, e_pick_b, e_bin, e_add_i64, e_add_i32, e_sub_i64, e_sub_u8, e_mul_i64, e_addU, e_mulU, e_addU32, e_mulU32, e_eql, e_neq, e_lss, e_leq, e_gtr, e_geq, e_str_eql, e_str_neq, e_iaddr, e_iaddr_int, e_lens, e_ld, e_extract, e_ex0, e_ex1, e_ex2, e_lenS, e_lenS_str, e_cii, e_cii_int, e_slsl_hm, e_sl2, e_slsl_h, e_sl1, e_slis, e_evL_nil, e_evL_cons, e_cons, e_call, e_callk, e_app, e_appk, e_store, e_stk, e_next, e_nextk, e_range, e_rangek, e_bs1, e_bs1i, e_bs0, e_mksl, e_mkslk, e_AK_sl, e_AK_it, e_AK_ptr, e_not, e_notb, e_xori, e_idxs, s_Hn, s_Hnk, s_Nx, s_Rt, s_NR_nx, s_NR_rt, s_NXT_nx, s_NXT_ex, s_NXT_rt, e_lenV_sl, e_lenV_nils, get_pk, k_bind, true_and, and_true, if_true, if_false, Bool.true_eq, beq_self_eq_true, reduceIte, Bool.false_eq_true, reduceCtorEq, bne_self_eq_false, Nat.reduceAdd, Nat.reduceLeDiff, Nat.reduceEqDiff, Nat.reduceSub, Nat.reduceBEq, Int.reduceBEq, Int.reduceNeg, Int.reduceLT, Int.reduceLE, Nat.succ_ne_self, Bool.not_true, Bool.not_false, Bool.true_beq, Bool.false_beq, decide_true, decide_false, exists_eq_left', Option.some.injEq, h0, ht, hu.len, d1, k1]
    exact ⟨k2, k3⟩

/-- out -/
theorem out_call {lf m : Nat} {σ : H} {a : V} {L : List Nat} (ha : U σ a L) (hw : WfH σ) (hlf : L.length + 3 < lf) (hL : L.length < 17592186048512) :
    ∃ v u σ', call T1 lf (m + 3) 32 [a] σ = .ret (.tup [v, u]) σ' ∧ Keep σ σ' ∧ (if 4096 < (trimL L).length then v = .nils ∧ u = .int .i64 5 else U σ' v (trimL L) ∧ u = .int .i64 0) := by
  refine call_rt2 (p := pk 2) (q := pk 3) rfl c32_at (by simp [c32]) rfl fun cf hcf => ?_
  generalize hτ : bindArgs [a] .h .lf = τ0
  have h0 : τ0.get (pk 0) = some a := by rw [← hτ]; rfl
  clear hτ
  have hK := Keep.new σ (.cells 23 [a] 0 0 (some 0) [])
  have ha2 : U (σ.new (.cells 23 [a] 0 0 (some 0) [])) a L := ha.keep hw hK
  have hl := long_call (lf := lf) (m := m) (σ := σ.new (.cells 23 [a] 0 0 (some 0) [])) (x := σ.nx) (ty := 23) (by rw [H.get_new, if_pos rfl]) ha2 hlf (by omega)
  rw [← hcf] at hl
  have e1 : kBs1 23 (some a) = some (.sl 1 1, .cells 23 [a] 0 0 (some 0) []) := e_bs1s ha.cells1
  by_cases hb : 4096 < (trimL L).length
  · have d4 : decide (4096 < (trimL L).length) = true := by simpa using hb
    rw [d4] at hl
    simp only [c32, QU, oP, oR, oA, oH, oPn, oRn, oAn, oHn, bi, ld, ki, kt, kf, s_ops_nil, s_ops_cons, s_ops_nx, s_ops_pn, s_seq, s_seq_nx, s_seq_ex, s_seq_rt, s_skip, s_ret, s_exit, s_reg, s_cond, s_cond_t, s_cond_f, s_blk, s_blk_nx, s_blk_rt, s_blk_ex, s_put, s_P, s_R, s_A, s_A_some, s_C_ret, s_C_pan, s_H, s_H_ok, s_H_call, s_H_pan, s_gd, s_gd_bool, s_gd_undef, e_t, e_k, e_mv, e_pick, e_pick_b, e_bin, e_add_i64, e_add_i32, e_sub_i64, e_sub_u8, e_mul_i64, e_addU, e_mulU, e_addU32, e_mulU32, e_eql, e_neq, e_lss, e_leq, e_gtr, e_geq, e_str_eql, e_str_neq, e_iaddr, e_iaddr_int, e_lens, e_ld, e_extract, e_ex0, e_ex1, e_ex2, e_lenS, e_lenS_str, e_cii, e_cii_int, e_slsl_hm, e_sl2, e_slsl_h, e_sl1, e_slis, e_evL_nil, e_evL_cons, e_cons, e_call, e_callk, e_app, e_appk, e_store, e_stk, e_next, e_nextk, e_range, e_rangek, e_bs1, e_bs1i, e_bs0, e_mksl, e_mkslk, e_AK_sl, e_AK_it, e_AK_ptr, e_not, e_notb, e_xori, e_idxs, s_Hn, s_Hnk, s_Nx, s_Rt, s_NR_nx, s_NR_rt, s_NXT_nx, s_NXT_ex, s_NXT_rt, e_lenV_sl, e_lenV_nils, get_pk, k_bind, true_and, and_true, if_true, if_false, Bool.true_eq, beq_self_eq_true, reduceIte, Bool.false_eq_true, reduceCtorEq, bne_self_eq_false, Nat.reduceAdd, Nat.reduceLeDiff, Nat.reduceEqDiff, Nat.reduceSub, Nat.reduceBEq, Int.reduceBEq, Int.reduceNeg, Int.reduceLT, Int.reduceLE, Nat.succ_ne_self, Bool.not_true, Bool.not_false, Bool.true_beq, Bool.false_beq, decide_true, decide_false, exists_eq_left', Option.some.injEq, h0, e1, hl, hb]
    exact ⟨_, _, rfl, rfl, hK, rfl, rfl⟩
  · have d4 : decide (4096 < (trimL L).length) = false := by simpa using hb
    rw [d4] at hl
    obtain ⟨v, σ', k1, k2, k3⟩ := own_call (lf := lf) (m := m) ha2 (hK.2.2 hw) (by omega) hL
    rw [← hcf] at k1
    simp only [c32, QU, oP, oR, oA, oH, oPn, oRn, oAn, oHn, bi, ld, ki, kt, kf, s_ops_nil, s_ops_cons, s_ops_nx, s_ops_pn, s_seq, s_seq_nx, s_seq_ex, s_seq_rt, s_skip, s_ret, s_exit, s_reg, s_cond, s_cond_t, s_cond_f, s_blk, s_blk_nx, s_blk_rt, s_blk_ex, s_put, s_P, s_R, s_A, s_A_some, s_C_ret, s_C_pan, s_H, s_H_ok, s_H_call, s_H_pan, s_gd, s_gd_bool, s_gd_undef, e_t, e_k, e_mv, e_pick, e_pick_b, e_bin, e_add_i64, e_add_i32, e_sub_i64, e_sub_u8, e_mul_i64, e_addU, e_mulU, e_addU32, e_mulU32, e_eql, e_neq, e_lss, e_leq, e_gtr, e_geq, e_str_eql, e_str_neq, e_iaddr, e_iaddr_int, e_lens, e_ld, e_extract, e_ex0, e_ex1, e_ex2, e_lenS, e_lenS_str, e_cii, e_cii_int, e_slsl_hm, e_sl2, e_slsl_h, e_sl1, e_slis, e_evL_nil, e_evL_cons, e_cons, e_call, e_callk, e_app, e_appk, e_store, e_stk, e_next, e_nextk, e_range, e_rangek, e_bs1, e_bs1i, e_bs0, e_mksl, e_mkslk, e_AK_sl, e_AK_it, e_AK_ptr, e_not, e_notb, e_xori, e_idxs, s_Hn, s_Hnk, s_Nx, s_Rt, s_NR_nx, s_NR_rt, s_NXT_nx, s_NXT_ex, s_NXT_rt, e_lenV_sl, e_lenV_nils, get_pk, k_bind, true_and, and_true, if_true, if_false, Bool.true_eq, beq_self_eq_true, reduceIte, Bool.false_eq_true, reduceCtorEq, bne_self_eq_false, Nat.reduceAdd, Nat.reduceLeDiff, Nat.reduceEqDiff, Nat.reduceSub, Nat.reduceBEq, Int.reduceBEq, Int.reduceNeg, Int.reduceLT, Int.reduceLE, Nat.succ_ne_self, Bool.not_true, Bool.not_false, Bool.true_beq, Bool.false_beq, decide_true, decide_false, exists_eq_left', Option.some.injEq, h0, e1, hl, hb, k1]
    exact ⟨_, _, rfl, rfl, hK.trans k3, k2, rfl⟩
end Go.Proofs.YtahgfodccndcjaaGreatEng
