/- Layer 1 run on symbols: add. -/
import Derived.Test.YtahgfodccndcjaaGreatN3
namespace Go.Proofs.YtahgfodccndcjaaGreatEng
open Go
set_option maxRecDepth 100000
set_option linter.unusedSimpArgs false

abbrev WW : Nat := 18446744073709551616
def wok (L : List Nat) : Prop := ∀ i, L.getD i 0 < WW
/-- the first i words of a sum, and what is carried -/
def adS (A B : List Nat) : Nat → List Nat × Nat
  | 0 => ([], 0)
  | i + 1 => ((adS A B i).1 ++ [(A.getD i 0 + B.getD i 0 + (adS A B i).2) % WW], (A.getD i 0 + B.getD i 0 + (adS A B i).2) / WW)
theorem adS_len (A B : List Nat) : ∀ i, (adS A B i).1.length = i
  | 0 => rfl
  | i + 1 => by simp [adS, adS_len A B i]
theorem adS_c {A B : List Nat} (ha : wok A) (hb : wok B) : ∀ i, (adS A B i).2 ≤ 1
  | 0 => Nat.zero_le _
  | i + 1 => by
    have h1 := ha i; have h2 := hb i; have h3 := adS_c ha hb i
    simp only [adS]
    have : A.getD i 0 + B.getD i 0 + (adS A B i).2 < WW * 2 := by omega
    exact Nat.le_of_lt_succ (Nat.div_lt_of_lt_mul this)
/-- the sum, where the first is no shorter -/
def addL (A B : List Nat) : List Nat := (adS A B A.length).1 ++ [(adS A B A.length).2]

theorem add64_call {lf m : Nat} {σ : H} {x y c : Nat} (hc : c ≤ 1) : call T1 lf (m + 1) 57 [.int .u64 x, .int .u64 y, .int .u64 c] σ = .ret (.tup [.int .u64 ((x + y + c) % WW : Nat), .int .u64 ((x + y + c) / WW : Nat)]) σ := by
  rw [call_intr (g := iAdd64) rfl]
  simp only [iAdd64]
  rw [if_pos ⟨Int.natCast_nonneg x, Int.natCast_nonneg y, Int.natCast_nonneg c, by omega⟩]
  rfl

theorem c30_at : T1.code 30 = some c30 := by kernel_rfl
theorem lt_true {a b : Nat} (h : a < b) : decide ((a : Int) < (b : Int)) = true := by simp; exact h
theorem lt_false {a b : Nat} (h : ¬ a < b) : decide ((a : Int) < (b : Int)) = false := by simp; omega
theorem getD_ge {L : List Nat} {i : Nat} (h : ¬ i < L.length) : L.getD i 0 = 0 := by
  rw [List.getD_eq_getElem?_getD, List.getElem?_eq_none (by omega)]; rfl

/-- from the place behind the turn of the two -/
theorem add_tail {lf m : Nat} {cf : CallF} (hcf : cf = call T1 lf (m + 1)) {σ : H} {a b : V} {A B : List Nat} (ha : U σ a A) (hb : U σ b B) (hw : WfH σ) (hA : wok A) (hB : wok B) (hlf : A.length < lf) (hl : A.length < 17592186048512) (_hl2 : B.length < 17592186048512)
    {τ0 : Tr V} (h0 : τ0.get (pk 0) = some a) (h1 : τ0.get (pk 1) = some b) {rest : CC}
    (hrest : (∃ x y, c30.body = .seq x (.seq y rest))) :
    Rt (exec cf lf 53 rest τ0 σ []) fun τ σ' => ∃ v, τ.get (pk 4) = some v ∧ U σ' v (addL A B) ∧ Keep σ σ' := by
  obtain ⟨x, y, he⟩ := hrest
  simp only [c30, CC.seq.injEq] at he
  obtain ⟨-, -, rfl⟩ := he
  have w1 : IntKind.i64.wrap ((A.length : Int) + 1) = ((A.length + 1 : Nat) : Int) := wrap_add1 (by omega)
  have mk : mkV 49 8 [.int .u64 0] (.int .i64 0) (.int .i64 (A.length + 1 : Nat)) = some (.sl 0 (A.length + 1), .cells 49 (repl [.int .u64 0] (A.length + 1)) 0 0 (some 0) []) := by
    simp only [mkV]
    rw [if_pos ⟨Int.le_refl _, Int.natCast_nonneg _, by unfold mostBytes; simp; omega, by omega⟩]
    simp
  simp only [QU, oP, oR, oA, oH, oPn, oRn, oAn, oHn, bi, ld, ki, kt, kf, s_ops_nil, s_ops_cons, s_ops_nx, s_ops_pn, s_seq, s_seq_nx, s_seq_ex, s_seq_rt, s_skip, s_ret, s_exit, s_reg, s_cond, s_cond_t, s_cond_f, s_blk, s_blk_nx, s_blk_rt, s_blk_ex, s_put, s_P, s_R, s_A, s_A_some, s_C_ret, s_C_pan, s_H, s_H_ok, s_H_call, s_H_pan, s_gd, s_gd_bool, s_gd_undef, e_t, e_k, e_mv, e_pick, e_pick_b, e_bin, e_add_i64, e_add_i32, e_sub_i64, e_sub_u8, e_mul_i64, e_addU, e_mulU, e_addU32, e_mulU32, e_eql, e_neq, e_lss, e_leq, e_gtr, e_geq, e_str_eql, e_str_neq, e_iaddr, e_iaddr_int, e_lens, e_ld, e_extract, e_ex0, e_ex1, e_ex2, e_lenS, e_lenS_str, e_cii, e_cii_int, e_slsl_hm, e_sl2, e_slsl_h, e_sl1, e_slis, e_evL_nil, e_evL_cons, e_cons, e_call, e_callk, e_app, e_appk, e_store, e_stk, e_next, e_nextk, e_range, e_rangek, e_bs1, e_bs1i, e_bs0, e_mksl, e_mkslk, e_AK_sl, e_AK_it, e_AK_ptr, e_not, e_notb, e_xori, e_idxs, s_Hn, s_Hnk, s_Nx, s_Rt, s_NR_nx, s_NR_rt, s_NXT_nx, s_NXT_ex, s_NXT_rt, e_lenV_sl, e_lenV_nils, get_pk, k_bind, true_and, and_true, if_true, if_false, Bool.true_eq, beq_self_eq_true, reduceIte, Bool.false_eq_true, reduceCtorEq, bne_self_eq_false, Nat.reduceAdd, Nat.reduceLeDiff, Nat.reduceEqDiff, Nat.reduceSub, Nat.reduceBEq, Int.reduceBEq, Int.reduceNeg, Int.reduceLT, Int.reduceLE, Nat.succ_ne_self, Bool.not_true, Bool.not_false, Bool.true_beq, Bool.false_beq, decide_true, decide_false, exists_eq_left', Option.some.injEq, h0, ha.len, w1, mk]
  have rp : ∀ j, repl [V.int .u64 0] (j + 1) = V.int .u64 0 :: repl [.int .u64 0] j := fun _ => rfl
  refine Rt_seq (loop_rule_x
    (fun k τ σ' => ∃ i, i ≤ A.length ∧ k = A.length - i ∧ σ'.get σ.nx = some (.cells 49 ((adS A B i).1.map wd ++ repl [.int .u64 0] (A.length + 1 - i)) 0 0 (some 0) []) ∧ Keep σ σ' ∧ σ.nx.toNat < σ'.nx.toNat ∧
      τ.get (pk 1) = some b ∧ τ.get (pk 5) = some (.sl σ.nx 0 0 i (some (A.length + 1)) 0) ∧ τ.get (pk 6) = some (.int .u64 (adS A B i).2) ∧ τ.get (pk 22) = some a ∧ τ.get (pk 23) = some (.int .i64 A.length) ∧ τ.get (pk 24) = some (.int .i64 i))
    (fun τ σ' => σ'.get σ.nx = some (.cells 49 ((adS A B A.length).1.map wd ++ [.int .u64 0]) 0 0 (some 0) []) ∧ Keep σ σ' ∧ σ.nx.toNat < σ'.nx.toNat ∧ τ.get (pk 5) = some (.sl σ.nx 0 0 A.length (some (A.length + 1)) 0) ∧ τ.get (pk 6) = some (.int .u64 (adS A B A.length).2))
    ?_ (k := A.length) hlf ?_) ?_
  · rintro k τ σ' ⟨i, hi, rfl, hg, hK, hnx, g1, g5, g6, g22, g23, g24⟩
    by_cases hlt : i < A.length
    · have d1 := lt_true hlt
      have ha' := ha.keep hw hK
      have hb' := hb.keep hw hK
      obtain ⟨q, q1, q2⟩ := ha'.elem hlt
      have wi : IntKind.i64.wrap ((i : Int) + 1) = ((i + 1 : Nat) : Int) := wrap_add1 (by omega)
      have had := add64_call (lf := lf) (m := m) (σ := σ') (x := A.getD i 0) (y := B.getD i 0) (c := (adS A B i).2) (adS_c hA hB i)
      rw [← hcf] at had
      have hsub : A.length + 1 - i = (A.length - i) + 1 := by omega
      rw [hsub, rp] at hg
      have key := fun w : Nat => app_in (f := wd) (fun _ => rfl) (σ := σ'.new (.cells 49 [.int .u64 w] 0 0 (some 0) [])) (ty := 49) (eb := 8) (x := σ.nx) (cap := A.length + 1) (C := (adS A B i).1) (y := .sl σ'.nx 0 0 1 (some 1) 0) (w := w) (k := i)
        (UG.one (by rw [H.get_new, if_pos rfl]; rfl)) (by rw [H.get_new, if_neg (fun e => by rw [e] at hnx; omega)]; exact hg) (adS_len A B i).symm (by omega)
      have hfin : ∀ w : Nat, Keep σ ((σ'.new (.cells 49 [.int .u64 w] 0 0 (some 0) [])).put σ.nx (.cells 49 (((adS A B i).1 ++ [w]).map wd ++ repl [.int .u64 0] (A.length - i)) 0 0 (some 0) [])) := fun w =>
        (hK.trans (Keep.new _ _)).put (Nat.le_refl _) (by rw [nx_new]; omega) _
      have hsub2 : A.length + 1 - (i + 1) = A.length - i := by omega
      by_cases hb2 : i < B.length
      · have d2 := lt_true hb2
        obtain ⟨r, r1, r2⟩ := hb'.elem hb2
        simp only [b30_0, QU, oP, oR, oA, oH, oPn, oRn, oAn, oHn, bi, ld, ki, kt, kf, s_ops_nil, s_ops_cons, s_ops_nx, s_ops_pn, s_seq, s_seq_nx, s_seq_ex, s_seq_rt, s_skip, s_ret, s_exit, s_reg, s_cond, s_cond_t, s_cond_f, s_blk, s_blk_nx, s_blk_rt, s_blk_ex, s_put, s_P, s_R, s_A, s_A_some, s_C_ret, s_C_pan, s_H, s_H_ok, s_H_call, s_H_pan, s_gd, s_gd_bool, s_gd_undef, e_t, e_k, e_mv, e_pick, e_pick_b, e_bin, e_add_i64, e_add_i32, e_sub_i64, e_sub_u8, e_mul_i64, e_addU, e_mulU, e_addU32, e_mulU32, e_eql, e_neq, e_lss, e_leq, e_gtr, e_geq, e_str_eql, e_str_neq, e_iaddr, e_iaddr_int, e_lens, e_ld, e_extract, e_ex0, e_ex1, e_ex2, e_lenS, e_lenS_str, e_cii, e_cii_int, e_slsl_hm, e_sl2, e_slsl_h, e_sl1, e_slis, e_evL_nil, e_evL_cons, e_cons, e_call, e_callk, e_app, e_appk, e_store, e_stk, e_next, e_nextk, e_range, e_rangek, e_bs1, e_bs1i, e_bs0, e_mksl, e_mkslk, e_AK_sl, e_AK_it, e_AK_ptr, e_not, e_notb, e_xori, e_idxs, s_Hn, s_Hnk, s_Nx, s_Rt, s_NR_nx, s_NR_rt, s_NXT_nx, s_NXT_ex, s_NXT_rt, e_lenV_sl, e_lenV_nils, get_pk, k_bind, true_and, and_true, if_true, if_false, Bool.true_eq, beq_self_eq_true, reduceIte, Bool.false_eq_true, reduceCtorEq, bne_self_eq_false, Nat.reduceAdd, Nat.reduceLeDiff, Nat.reduceEqDiff, Nat.reduceSub, Nat.reduceBEq, Int.reduceBEq, Int.reduceNeg, Int.reduceLT, Int.reduceLE, Nat.succ_ne_self, Bool.not_true, Bool.not_false, Bool.true_beq, Bool.false_beq, decide_true, decide_false, exists_eq_left', Option.some.injEq, g1, g5, g6, g22, g23, g24, d1, d2, q1, q2, r1, r2, wd, hb'.len, had, wi, key]
        refine ⟨A.length - (i + 1), by omega, i + 1, by omega, rfl, ?_, hfin _, by simp only [nx_put, nx_new]; omega, rfl, rfl, rfl⟩
        rw [H.get_put, if_pos rfl, hsub2]; rfl
      · have d2 := lt_false hb2
        rw [getD_ge hb2, show (((0 : Nat)) : Int) = 0 from rfl] at had
        simp only [b30_0, QU, oP, oR, oA, oH, oPn, oRn, oAn, oHn, bi, ld, ki, kt, kf, s_ops_nil, s_ops_cons, s_ops_nx, s_ops_pn, s_seq, s_seq_nx, s_seq_ex, s_seq_rt, s_skip, s_ret, s_exit, s_reg, s_cond, s_cond_t, s_cond_f, s_blk, s_blk_nx, s_blk_rt, s_blk_ex, s_put, s_P, s_R, s_A, s_A_some, s_C_ret, s_C_pan, s_H, s_H_ok, s_H_call, s_H_pan, s_gd, s_gd_bool, s_gd_undef, e_t, e_k, e_mv, e_pick, e_pick_b, e_bin, e_add_i64, e_add_i32, e_sub_i64, e_sub_u8, e_mul_i64, e_addU, e_mulU, e_addU32, e_mulU32, e_eql, e_neq, e_lss, e_leq, e_gtr, e_geq, e_str_eql, e_str_neq, e_iaddr, e_iaddr_int, e_lens, e_ld, e_extract, e_ex0, e_ex1, e_ex2, e_lenS, e_lenS_str, e_cii, e_cii_int, e_slsl_hm, e_sl2, e_slsl_h, e_sl1, e_slis, e_evL_nil, e_evL_cons, e_cons, e_call, e_callk, e_app, e_appk, e_store, e_stk, e_next, e_nextk, e_range, e_rangek, e_bs1, e_bs1i, e_bs0, e_mksl, e_mkslk, e_AK_sl, e_AK_it, e_AK_ptr, e_not, e_notb, e_xori, e_idxs, s_Hn, s_Hnk, s_Nx, s_Rt, s_NR_nx, s_NR_rt, s_NXT_nx, s_NXT_ex, s_NXT_rt, e_lenV_sl, e_lenV_nils, get_pk, k_bind, true_and, and_true, if_true, if_false, Bool.true_eq, beq_self_eq_true, reduceIte, Bool.false_eq_true, reduceCtorEq, bne_self_eq_false, Nat.reduceAdd, Nat.reduceLeDiff, Nat.reduceEqDiff, Nat.reduceSub, Nat.reduceBEq, Int.reduceBEq, Int.reduceNeg, Int.reduceLT, Int.reduceLE, Nat.succ_ne_self, Bool.not_true, Bool.not_false, Bool.true_beq, Bool.false_beq, decide_true, decide_false, exists_eq_left', Option.some.injEq, g1, g5, g6, g22, g23, g24, d1, d2, q1, q2, wd, hb'.len, had, wi, key]
        refine ⟨A.length - (i + 1), by omega, i + 1, by omega, rfl, ?_, hfin _, by simp only [nx_put, nx_new]; omega, ?_⟩
        · rw [H.get_put, if_pos rfl, hsub2]; simp only [adS, getD_ge hb2]
        · simp only [adS, getD_ge hb2, true_and]
    · have d1 := lt_false hlt
      have hie : i = A.length := by omega
      subst hie
      simp only [b30_0, QU, oP, oR, oA, oH, oPn, oRn, oAn, oHn, bi, ld, ki, kt, kf, s_ops_nil, s_ops_cons, s_ops_nx, s_ops_pn, s_seq, s_seq_nx, s_seq_ex, s_seq_rt, s_skip, s_ret, s_exit, s_reg, s_cond, s_cond_t, s_cond_f, s_blk, s_blk_nx, s_blk_rt, s_blk_ex, s_put, s_P, s_R, s_A, s_A_some, s_C_ret, s_C_pan, s_H, s_H_ok, s_H_call, s_H_pan, s_gd, s_gd_bool, s_gd_undef, e_t, e_k, e_mv, e_pick, e_pick_b, e_bin, e_add_i64, e_add_i32, e_sub_i64, e_sub_u8, e_mul_i64, e_addU, e_mulU, e_addU32, e_mulU32, e_eql, e_neq, e_lss, e_leq, e_gtr, e_geq, e_str_eql, e_str_neq, e_iaddr, e_iaddr_int, e_lens, e_ld, e_extract, e_ex0, e_ex1, e_ex2, e_lenS, e_lenS_str, e_cii, e_cii_int, e_slsl_hm, e_sl2, e_slsl_h, e_sl1, e_slis, e_evL_nil, e_evL_cons, e_cons, e_call, e_callk, e_app, e_appk, e_store, e_stk, e_next, e_nextk, e_range, e_rangek, e_bs1, e_bs1i, e_bs0, e_mksl, e_mkslk, e_AK_sl, e_AK_it, e_AK_ptr, e_not, e_notb, e_xori, e_idxs, s_Hn, s_Hnk, s_Nx, s_Rt, s_NR_nx, s_NR_rt, s_NXT_nx, s_NXT_ex, s_NXT_rt, e_lenV_sl, e_lenV_nils, get_pk, k_bind, true_and, and_true, if_true, if_false, Bool.true_eq, beq_self_eq_true, reduceIte, Bool.false_eq_true, reduceCtorEq, bne_self_eq_false, Nat.reduceAdd, Nat.reduceLeDiff, Nat.reduceEqDiff, Nat.reduceSub, Nat.reduceBEq, Int.reduceBEq, Int.reduceNeg, Int.reduceLT, Int.reduceLE, Nat.succ_ne_self, Bool.not_true, Bool.not_false, Bool.true_beq, Bool.false_beq, decide_true, decide_false, exists_eq_left', Option.some.injEq, g23, g24, d1, g5, g6]
      refine ⟨?_, hK, hnx⟩
      rw [hg, show A.length + 1 - A.length = 0 + 1 by omega, rp]; rfl
  · refine ⟨0, Nat.zero_le _, rfl, by rw [H.get_new, if_pos rfl]; rfl, Keep.new _ _, by rw [nx_new]; omega, ?_⟩
    simp only [QU, oP, oR, oA, oH, oPn, oRn, oAn, oHn, bi, ld, ki, kt, kf, s_ops_nil, s_ops_cons, s_ops_nx, s_ops_pn, s_seq, s_seq_nx, s_seq_ex, s_seq_rt, s_skip, s_ret, s_exit, s_reg, s_cond, s_cond_t, s_cond_f, s_blk, s_blk_nx, s_blk_rt, s_blk_ex, s_put, s_P, s_R, s_A, s_A_some, s_C_ret, s_C_pan, s_H, s_H_ok, s_H_call, s_H_pan, s_gd, s_gd_bool, s_gd_undef, e_t, e_k, e_mv, e_pick, e_pick_b, e_bin, e_add_i64, e_add_i32, e_sub_i64, e_sub_u8, e_mul_i64, e_addU, e_mulU, e_addU32, e_mulU32, e_eql, e_neq, e_lss, e_leq, e_gtr, e_geq, e_str_eql, e_str_neq, e_iaddr, e_iaddr_int, e_lens, e_ld, e_extract, e_ex0, e_ex1, e_ex2, e_lenS, e_lenS_str, e_cii, e_cii_int, e_slsl_hm, e_sl2, e_slsl_h, e_sl1, e_slis, e_evL_nil, e_evL_cons, e_cons, e_call, e_callk, e_app, e_appk, e_store, e_stk, e_next, e_nextk, e_range, e_rangek, e_bs1, e_bs1i, e_bs0, e_mksl, e_mkslk, e_AK_sl, e_AK_it, e_AK_ptr, e_not, e_notb, e_xori, e_idxs, s_Hn, s_Hnk, s_Nx, s_Rt, s_NR_nx, s_NR_rt, s_NXT_nx, s_NXT_ex, s_NXT_rt, e_lenV_sl, e_lenV_nils, get_pk, k_bind, true_and, and_true, if_true, if_false, Bool.true_eq, beq_self_eq_true, reduceIte, Bool.false_eq_true, reduceCtorEq, bne_self_eq_false, Nat.reduceAdd, Nat.reduceLeDiff, Nat.reduceEqDiff, Nat.reduceSub, Nat.reduceBEq, Int.reduceBEq, Int.reduceNeg, Int.reduceLT, Int.reduceLE, Nat.succ_ne_self, Bool.not_true, Bool.not_false, Bool.true_beq, Bool.false_beq, decide_true, decide_false, exists_eq_left', Option.some.injEq, h1, adS]
    exact ⟨rfl, rfl⟩
  · rintro τ σ' ⟨hg, hK, hnx, g5, g6⟩
    have key := app_in (f := wd) (fun _ => rfl) (σ := σ'.new (.cells 49 [.int .u64 ((adS A B A.length).2 : Nat)] 0 0 (some 0) [])) (ty := 49) (eb := 8) (x := σ.nx) (cap := A.length + 1) (C := (adS A B A.length).1) (y := .sl σ'.nx 0 0 1 (some 1) 0) (w := (adS A B A.length).2) (k := A.length)
      (UG.one (by rw [H.get_new, if_pos rfl]; rfl)) (by rw [H.get_new, if_neg (fun e => by rw [e] at hnx; omega)]; exact hg) (adS_len A B _).symm (by omega)
    simp only [QU, oP, oR, oA, oH, oPn, oRn, oAn, oHn, bi, ld, ki, kt, kf, s_ops_nil, s_ops_cons, s_ops_nx, s_ops_pn, s_seq, s_seq_nx, s_seq_ex, s_seq_rt, s_skip, s_ret, s_exit, s_reg, s_cond, s_cond_t, s_cond_f, s_blk, s_blk_nx, s_blk_rt, s_blk_ex, s_put, s_P, s_R, s_A, s_A_some, s_C_ret, s_C_pan, s_H, s_H_ok, s_H_call, s_H_pan, s_gd, s_gd_bool, s_gd_undef, e_t, e_k, e_mv, e_pick, e_pick_b, e_bin, e_add_i64, e_add_i32, e_sub_i64, e_sub_u8, e_mul_i64, e_addU, e_mulU, e_addU32, e_mulU32, e_eql, e_neq, e_lss, e_leq, e_gtr, e_geq, e_str_eql, e_str_neq, e_iaddr, e_iaddr_int, e_lens, e_ld, e_extract, e_ex0, e_ex1, e_ex2, e_lenS, e_lenS_str, e_cii, e_cii_int, e_slsl_hm, e_sl2, e_slsl_h, e_sl1, e_slis, e_evL_nil, e_evL_cons, e_cons, e_call, e_callk, e_app, e_appk, e_store, e_stk, e_next, e_nextk, e_range, e_rangek, e_bs1, e_bs1i, e_bs0, e_mksl, e_mkslk, e_AK_sl, e_AK_it, e_AK_ptr, e_not, e_notb, e_xori, e_idxs, s_Hn, s_Hnk, s_Nx, s_Rt, s_NR_nx, s_NR_rt, s_NXT_nx, s_NXT_ex, s_NXT_rt, e_lenV_sl, e_lenV_nils, get_pk, k_bind, true_and, and_true, if_true, if_false, Bool.true_eq, beq_self_eq_true, reduceIte, Bool.false_eq_true, reduceCtorEq, bne_self_eq_false, Nat.reduceAdd, Nat.reduceLeDiff, Nat.reduceEqDiff, Nat.reduceSub, Nat.reduceBEq, Int.reduceBEq, Int.reduceNeg, Int.reduceLT, Int.reduceLE, Nat.succ_ne_self, Bool.not_true, Bool.not_false, Bool.true_beq, Bool.false_beq, decide_true, decide_false, exists_eq_left', Option.some.injEq, g5, g6, key]
    refine ⟨?_, (hK.trans (Keep.new _ _)).put (Nat.le_refl _) (by rw [nx_new]; omega) _⟩
    have := UG.put (f := wd) (σ'.new (.cells 49 [.int .u64 ((adS A B A.length).2 : Nat)] 0 0 (some 0) [])) σ.nx 49 (addL A B) 0 0 (some 0) [] (some (A.length + 1)) 0 [] (by simp [okSl, addL, adS_len])
    have hlen : (addL A B).length = A.length + 1 := by simp [addL, adS_len]
    rw [hlen] at this
    exact this

def addM (A B : List Nat) : List Nat := if A.length < B.length then addL B A else addL A B
/-- add -/
theorem add_call {lf m : Nat} {σ : H} {a b : V} {A B : List Nat} (ha : U σ a A) (hb : U σ b B) (hw : WfH σ) (hA : wok A) (hB : wok B) (hlf : A.length < lf) (hlf2 : B.length < lf) (hl : A.length < 17592186048512) (hl2 : B.length < 17592186048512) :
    ∃ v σ', call T1 lf (m + 2) 30 [a, b] σ = .ret v σ' ∧ U σ' v (addM A B) ∧ Keep σ σ' := by
  refine call_rt1 (p := pk 4) rfl c30_at (by simp [c30]) rfl fun cf hcf => ?_
  generalize hτ : bindArgs [a, b] .h .lf = τ0
  have h0 : τ0.get (pk 0) = some a := by rw [← hτ]; rfl
  have h1 : τ0.get (pk 1) = some b := by rw [← hτ]; rfl
  clear hτ
  obtain ⟨x, y, r, hbody⟩ : ∃ x y r, c30.body = .seq x (.seq y r) := ⟨_, _, _, rfl⟩
  have tail := fun {a b : V} {A B : List Nat} ha hb hA hB hlf hl hl2 {τ0 : Tr V} h0 h1 => add_tail (lf := lf) (m := m) hcf (σ := σ) (a := a) (b := b) (A := A) (B := B) ha hb hw hA hB hlf hl hl2 (τ0 := τ0) h0 h1 (rest := r) ⟨x, y, hbody⟩
  rw [hbody]
  simp only [c30, CC.seq.injEq] at hbody
  obtain ⟨rfl, rfl, hr⟩ := hbody
  clear hr
  show Rt (exec cf lf 53 _ τ0 σ []) _
  by_cases hlt : A.length < B.length
  · have d1 := lt_true hlt
    simp only [QU, oP, oR, oA, oH, oPn, oRn, oAn, oHn, bi, ld, ki, kt, kf, s_ops_nil, s_ops_cons, s_ops_nx, s_ops_pn, s_seq, s_seq_nx, s_seq_ex, s_seq_rt, s_skip, s_ret, s_exit, s_reg, s_cond, s_cond_t, s_cond_f, s_blk, s_blk_nx, s_blk_rt, s_blk_ex, s_put, s_P, s_R, s_A, s_A_some, s_C_ret, s_C_pan, s_H, s_H_ok, s_H_call, s_H_pan, s_gd, s_gd_bool, s_gd_undef, e_t, e_k, e_mv, e_pick, e_pick_b, e_bin, e_add_i64, e_add_i32, e_sub_i64, e_sub_u8, e_mul_i64, e_addU, e_mulU, e_addU32, e_mulU32, e_eql, e_neq, e_lss, e_leq, e_gtr, e_geq, e_str_eql, e_str_neq, e_iaddr, e_iaddr_int, e_lens, e_ld, e_extract, e_ex0, e_ex1, e_ex2, e_lenS, e_lenS_str, e_cii, e_cii_int, e_slsl_hm, e_sl2, e_slsl_h, e_sl1, e_slis, e_evL_nil, e_evL_cons, e_cons, e_call, e_callk, e_app, e_appk, e_store, e_stk, e_next, e_nextk, e_range, e_rangek, e_bs1, e_bs1i, e_bs0, e_mksl, e_mkslk, e_AK_sl, e_AK_it, e_AK_ptr, e_not, e_notb, e_xori, e_idxs, s_Hn, s_Hnk, s_Nx, s_Rt, s_NR_nx, s_NR_rt, s_NXT_nx, s_NXT_ex, s_NXT_rt, e_lenV_sl, e_lenV_nils, get_pk, k_bind, true_and, and_true, if_true, if_false, Bool.true_eq, beq_self_eq_true, reduceIte, Bool.false_eq_true, reduceCtorEq, bne_self_eq_false, Nat.reduceAdd, Nat.reduceLeDiff, Nat.reduceEqDiff, Nat.reduceSub, Nat.reduceBEq, Int.reduceBEq, Int.reduceNeg, Int.reduceLT, Int.reduceLE, Nat.succ_ne_self, Bool.not_true, Bool.not_false, Bool.true_beq, Bool.false_beq, decide_true, decide_false, exists_eq_left', Option.some.injEq, h0, h1, ha.len, hb.len, d1, addM, hlt]
    exact tail hb ha hB hA hlf2 hl2 hl (by simp only [QU, oP, oR, oA, oH, oPn, oRn, oAn, oHn, bi, ld, ki, kt, kf, s_ops_nil, s_ops_cons, s_ops_nx, s_ops_pn, s_seq, s_seq_nx, s_seq_ex, s_seq_rt, s_skip, s_ret, s_exit, s_reg, s_cond, s_cond_t, s_cond_f, s_blk, s_blk_nx, s_blk_rt, s_blk_ex, s_put, s_P, s_R, s_A, s_A_some, s_C_ret, s_C_pan, s_H, s_H_ok, s_H_call, s_H_pan, s_gd, s_gd_bool, s_gd_undef, e_t, e_k, e_mv, e_pick, e_pick_b, e_bin, e_add_i64, e_add_i32, e_sub_i64, e_sub_u8, e_mul_i64, e_addU, e_mulU, e_addU32, e_mulU32, e_eql, e_neq, e_lss, e_leq, e_gtr, e_geq, e_str_eql, e_str_neq, e_iaddr, e_iaddr_int, e_lens, e_ld, e_extract, e_ex0, e_ex1, e_ex2, e_lenS, e_lenS_str, e_cii, e_cii_int, e_slsl_hm, e_sl2, e_slsl_h, e_sl1, e_slis, e_evL_nil, e_evL_cons, e_cons, e_call, e_callk, e_app, e_appk, e_store, e_stk, e_next, e_nextk, e_range, e_rangek, e_bs1, e_bs1i, e_bs0, e_mksl, e_mkslk, e_AK_sl, e_AK_it, e_AK_ptr, e_not, e_notb, e_xori, e_idxs, s_Hn, s_Hnk, s_Nx, s_Rt, s_NR_nx, s_NR_rt, s_NXT_nx, s_NXT_ex, s_NXT_rt, e_lenV_sl, e_lenV_nils, get_pk, k_bind, true_and, and_true, if_true, if_false, Bool.true_eq, beq_self_eq_true, reduceIte, Bool.false_eq_true, reduceCtorEq, bne_self_eq_false, Nat.reduceAdd, Nat.reduceLeDiff, Nat.reduceEqDiff, Nat.reduceSub, Nat.reduceBEq, Int.reduceBEq, Int.reduceNeg, Int.reduceLT, Int.reduceLE, Nat.succ_ne_self, Bool.not_true, Bool.not_false, Bool.true_beq, Bool.false_beq, decide_true, decide_false, exists_eq_left', Option.some.injEq]) (by simp only [QU, oP, oR, oA, oH, oPn, oRn, oAn, oHn, bi, ld, ki, kt, kf, s_ops_nil, s_ops_cons, s_ops_nx, s_ops_pn, s_seq, s_seq_nx, s_seq_ex, s_seq_rt, s_skip, s_ret, s_exit, s_reg, s_cond, s_cond_t, s_cond_f, s_blk, s_blk_nx, s_blk_rt, s_blk_ex, s_put, s_P, s_R, s_A, s_A_some, s_C_ret, s_C_pan, s_H, s_H_ok, s_H_call, s_H_pan, s_gd, s_gd_bool, s_gd_undef, e_t, e_k, e_mv, e_pick, e_pick_b, e_bin, e_add_i64, e_add_i32, e_sub_i64, e_sub_u8, e_mul_i64, e_addU, e_mulU, e_addU32, e_mulU32, e_eql, e_neq, e_lss, e_leq, e_gtr, e_geq, e_str_eql, e_str_neq, e_iaddr, e_iaddr_int, e_lens, e_ld, e_extract, e_ex0, e_ex1, e_ex2, e_lenS, e_lenS_str, e_cii, e_cii_int, e_slsl_hm, e_sl2, e_slsl_h, e_sl1, e_slis, e_evL_nil, e_evL_cons, e_cons, e_call, e_callk, e_app, e_appk, e_store, e_stk, e_next, e_nextk, e_range, e_rangek, e_bs1, e_bs1i, e_bs0, e_mksl, e_mkslk, e_AK_sl, e_AK_it, e_AK_ptr, e_not, e_notb, e_xori, e_idxs, s_Hn, s_Hnk, s_Nx, s_Rt, s_NR_nx, s_NR_rt, s_NXT_nx, s_NXT_ex, s_NXT_rt, e_lenV_sl, e_lenV_nils, get_pk, k_bind, true_and, and_true, if_true, if_false, Bool.true_eq, beq_self_eq_true, reduceIte, Bool.false_eq_true, reduceCtorEq, bne_self_eq_false, Nat.reduceAdd, Nat.reduceLeDiff, Nat.reduceEqDiff, Nat.reduceSub, Nat.reduceBEq, Int.reduceBEq, Int.reduceNeg, Int.reduceLT, Int.reduceLE, Nat.succ_ne_self, Bool.not_true, Bool.not_false, Bool.true_beq, Bool.false_beq, decide_true, decide_false, exists_eq_left', Option.some.injEq])
  · have d1 := lt_false hlt
    simp only [QU, oP, oR, oA, oH, oPn, oRn, oAn, oHn, bi, ld, ki, kt, kf, s_ops_nil, s_ops_cons, s_ops_nx, s_ops_pn, s_seq, s_seq_nx, s_seq_ex, s_seq_rt, s_skip, s_ret, s_exit, s_reg, s_cond, s_cond_t, s_cond_f, s_blk, s_blk_nx, s_blk_rt, s_blk_ex, s_put, s_P, s_R, s_A, s_A_some, s_C_ret, s_C_pan, s_H, s_H_ok, s_H_call, s_H_pan, s_gd, s_gd_bool, s_gd_undef, e_t, e_k, e_mv, e_pick, e_pick_b, e_bin, e_add_i64, e_add_i32, e_sub_i64, e_sub_u8, e_mul_i64, e_addU, e_mulU, e_addU32, e_mulU32, e_eql, e_neq, e_lss, e_leq, e_gtr, e_geq, e_str_eql, e_str_neq, e_iaddr, e_iaddr_int, e_lens, e_ld, e_extract, e_ex0, e_ex1, e_ex2, e_lenS, e_lenS_str, e_cii, e_cii_int, e_slsl_hm, e_sl2, e_slsl_h, e_sl1, e_slis, e_evL_nil, e_evL_cons, e_cons, e_call, e_callk, e_app, e_appk, e_store, e_stk, e_next, e_nextk, e_range, e_rangek, e_bs1, e_bs1i, e_bs0, e_mksl, e_mkslk, e_AK_sl, e_AK_it, e_AK_ptr, e_not, e_notb, e_xori, e_idxs, s_Hn, s_Hnk, s_Nx, s_Rt, s_NR_nx, s_NR_rt, s_NXT_nx, s_NXT_ex, s_NXT_rt, e_lenV_sl, e_lenV_nils, get_pk, k_bind, true_and, and_true, if_true, if_false, Bool.true_eq, beq_self_eq_true, reduceIte, Bool.false_eq_true, reduceCtorEq, bne_self_eq_false, Nat.reduceAdd, Nat.reduceLeDiff, Nat.reduceEqDiff, Nat.reduceSub, Nat.reduceBEq, Int.reduceBEq, Int.reduceNeg, Int.reduceLT, Int.reduceLE, Nat.succ_ne_self, Bool.not_true, Bool.not_false, Bool.true_beq, Bool.false_beq, decide_true, decide_false, exists_eq_left', Option.some.injEq, h0, h1, ha.len, hb.len, d1, addM, hlt]
    exact tail ha hb hA hB hlf hl hl2 (by simp only [QU, oP, oR, oA, oH, oPn, oRn, oAn, oHn, bi, ld, ki, kt, kf, s_ops_nil, s_ops_cons, s_ops_nx, s_ops_pn, s_seq, s_seq_nx, s_seq_ex, s_seq_rt, s_skip, s_ret, s_exit, s_reg, s_cond, s_cond_t, s_cond_f, s_blk, s_blk_nx, s_blk_rt, s_blk_ex, s_put, s_P, s_R, s_A, s_A_some, s_C_ret, s_C_pan, s_H, s_H_ok, s_H_call, s_H_pan, s_gd, s_gd_bool, s_gd_undef, e_t, e_k, e_mv, e_pick, e_pick_b, e_bin, e_add_i64, e_add_i32, e_sub_i64, e_sub_u8, e_mul_i64, e_addU, e_mulU, e_addU32, e_mulU32, e_eql, e_neq, e_lss, e_leq, e_gtr, e_geq, e_str_eql, e_str_neq, e_iaddr, e_iaddr_int, e_lens, e_ld, e_extract, e_ex0, e_ex1, e_ex2, e_lenS, e_lenS_str, e_cii, e_cii_int, e_slsl_hm, e_sl2, e_slsl_h, e_sl1, e_slis, e_evL_nil, e_evL_cons, e_cons, e_call, e_callk, e_app, e_appk, e_store, e_stk, e_next, e_nextk, e_range, e_rangek, e_bs1, e_bs1i, e_bs0, e_mksl, e_mkslk, e_AK_sl, e_AK_it, e_AK_ptr, e_not, e_notb, e_xori, e_idxs, s_Hn, s_Hnk, s_Nx, s_Rt, s_NR_nx, s_NR_rt, s_NXT_nx, s_NXT_ex, s_NXT_rt, e_lenV_sl, e_lenV_nils, get_pk, k_bind, true_and, and_true, if_true, if_false, Bool.true_eq, beq_self_eq_true, reduceIte, Bool.false_eq_true, reduceCtorEq, bne_self_eq_false, Nat.reduceAdd, Nat.reduceLeDiff, Nat.reduceEqDiff, Nat.reduceSub, Nat.reduceBEq, Int.reduceBEq, Int.reduceNeg, Int.reduceLT, Int.reduceLE, Nat.succ_ne_self, Bool.not_true, Bool.not_false, Bool.true_beq, Bool.false_beq, decide_true, decide_false, exists_eq_left', Option.some.injEq, h0]) (by simp only [QU, oP, oR, oA, oH, oPn, oRn, oAn, oHn, bi, ld, ki, kt, kf, s_ops_nil, s_ops_cons, s_ops_nx, s_ops_pn, s_seq, s_seq_nx, s_seq_ex, s_seq_rt, s_skip, s_ret, s_exit, s_reg, s_cond, s_cond_t, s_cond_f, s_blk, s_blk_nx, s_blk_rt, s_blk_ex, s_put, s_P, s_R, s_A, s_A_some, s_C_ret, s_C_pan, s_H, s_H_ok, s_H_call, s_H_pan, s_gd, s_gd_bool, s_gd_undef, e_t, e_k, e_mv, e_pick, e_pick_b, e_bin, e_add_i64, e_add_i32, e_sub_i64, e_sub_u8, e_mul_i64, e_addU, e_mulU, e_addU32, e_mulU32, e_eql, e_neq, e_lss, e_leq, e_gtr, e_geq, e_str_eql, e_str_neq, e_iaddr, e_iaddr_int, e_lens, e_ld, e_extract, e_ex0, e_ex1, e_ex2, e_lenS, e_lenS_str, e_cii, e_cii_int, e_slsl_hm, e_sl2, e_slsl_h, e_sl1, e_slis, e_evL_nil, e_evL_cons, e_cons, e_call, e_callk, e_app, e_appk, e_store, e_stk, e_next, e_nextk, e_range, e_rangek, e_bs1, e_bs1i, e_bs0, e_mksl, e_mkslk, e_AK_sl, e_AK_it, e_AK_ptr, e_not, e_notb, e_xori, e_idxs, s_Hn, s_Hnk, s_Nx, s_Rt, s_NR_nx, s_NR_rt, s_NXT_nx, s_NXT_ex, s_NXT_rt, e_lenV_sl, e_lenV_nils, get_pk, k_bind, true_and, and_true, if_true, if_false, Bool.true_eq, beq_self_eq_true, reduceIte, Bool.false_eq_true, reduceCtorEq, bne_self_eq_false, Nat.reduceAdd, Nat.reduceLeDiff, Nat.reduceEqDiff, Nat.reduceSub, Nat.reduceBEq, Int.reduceBEq, Int.reduceNeg, Int.reduceLT, Int.reduceLE, Nat.succ_ne_self, Bool.not_true, Bool.not_false, Bool.true_beq, Bool.false_beq, decide_true, decide_false, exists_eq_left', Option.some.injEq, h1])

/- ---- what it says ---- -/
def val (L : List Nat) : Nat := L.foldr (fun x r => x + WW * r) 0
theorem val_append (L : List Nat) (w : Nat) : val (L ++ [w]) = val L + WW ^ L.length * w := by
  induction L with
  | nil => simp [val]
  | cons x L ih =>
    have : val (x :: L ++ [w]) = x + WW * val (L ++ [w]) := rfl
    rw [this, ih]
    have : val (x :: L) = x + WW * val L := rfl
    rw [this, List.length_cons, Nat.pow_succ, Nat.mul_add, Nat.add_assoc, Nat.mul_comm (WW ^ L.length) WW, Nat.mul_assoc]
theorem take_succ_getD (L : List Nat) (i : Nat) (h : i < L.length) : L.take (i + 1) = L.take i ++ [L.getD i 0] := by
  rw [List.take_add_one, List.getD_eq_getElem?_getD, List.getElem?_eq_getElem h]; rfl
theorem val_take_succ (L : List Nat) (i : Nat) : val (L.take (i + 1)) = val (L.take i) + WW ^ i * L.getD i 0 := by
  by_cases h : i < L.length
  · rw [take_succ_getD L i h, val_append, List.length_take, Nat.min_eq_left (by omega)]
  · rw [List.take_of_length_le (by omega), List.take_of_length_le (by omega), getD_ge h, Nat.mul_zero, Nat.add_zero]
theorem adS_val (A B : List Nat) : ∀ i, val (adS A B i).1 + WW ^ i * (adS A B i).2 = val (A.take i) + val (B.take i)
  | 0 => rfl
  | i + 1 => by
    have ih := adS_val A B i
    simp only [adS]
    rw [val_append, adS_len, val_take_succ, val_take_succ, Nat.pow_succ]
    generalize hs : A.getD i 0 + B.getD i 0 + (adS A B i).2 = s
    have h1 : WW ^ i * (s % WW) + WW ^ i * WW * (s / WW) = WW ^ i * s := by
      rw [Nat.mul_assoc, ← Nat.mul_add, Nat.mod_add_div]
    rw [Nat.add_assoc, h1, ← hs, Nat.mul_add, Nat.mul_add]
    omega
theorem addL_val {A B : List Nat} (h : B.length ≤ A.length) : val (addL A B) = val A + val B := by
  have := adS_val A B A.length
  rw [List.take_of_length_le (Nat.le_refl _), List.take_of_length_le h] at this
  rw [addL, val_append, adS_len, this]
theorem addM_val (A B : List Nat) : val (addM A B) = val A + val B := by
  unfold addM
  split
  · rw [addL_val (by omega), Nat.add_comm]
  · rw [addL_val (by omega)]
theorem adS_ok (A B : List Nat) : ∀ i, ∀ x ∈ (adS A B i).1, x < WW
  | 0 => fun x h => by cases h
  | i + 1 => fun x h => by
    simp only [adS, List.mem_append, List.mem_singleton] at h
    rcases h with h | rfl
    · exact adS_ok A B i x h
    · exact Nat.mod_lt _ (by decide)
theorem wok_of {L : List Nat} (h : ∀ x ∈ L, x < WW) : wok L := by
  intro i
  rw [List.getD_eq_getElem?_getD]
  cases hi : L[i]? with
  | none => decide
  | some x => exact h x (List.mem_of_getElem? hi)
theorem wok_mem {L : List Nat} (h : wok L) : ∀ x ∈ L, x < WW := by
  intro x hx
  obtain ⟨i, hi⟩ := List.getElem?_of_mem hx
  have := h i
  rw [List.getD_eq_getElem?_getD, hi] at this
  exact this
theorem addM_ok {A B : List Nat} (hA : wok A) (hB : wok B) : wok (addM A B) := by
  have key : ∀ {A B : List Nat}, wok A → wok B → wok (addL A B) := by
    intro A B hA hB
    refine wok_of fun x hx => ?_
    simp only [addL, List.mem_append, List.mem_singleton] at hx
    rcases hx with h | rfl
    · exact adS_ok A B _ x h
    · have := adS_c hA hB A.length
      exact Nat.lt_of_le_of_lt this (by decide)
  unfold addM; split
  · exact key hB hA
  · exact key hA hB
theorem addM_len (A B : List Nat) : (addM A B).length = max A.length B.length + 1 := by
  unfold addM; split <;> simp [addL, adS_len] <;> omega
end Go.Proofs.YtahgfodccndcjaaGreatEng
