/- Layer 1's reference run on symbols: a number by one half. -/
import Derived.Test.YtplaefbblpiehaaN11
namespace Go.Proofs.YtplaefbblpiehaaEng
open Go
set_option maxRecDepth 100000
set_option linter.unusedSimpArgs false

theorem c20_at : T1.code 20 = some c20 := by kernel_rfl
theorem e_addU0 (q : EqT) (x : Nat) : kBin .add q (some (.int .u64 x)) (some (.int .u64 0)) = some (.int .u64 (x % 18446744073709551616 : Nat)) := e_addU q x 0
theorem e_mask16U (q : EqT) (x : Nat) (hx : x < 18446744073709551616) : kBin .and q (some (.int .u64 x)) (some (.int .u64 65535)) = some (.int .u64 (x % 65536 : Nat)) := by
  have := e_andU q x 65535 hx (by decide)
  rw [and_mask16] at this
  exact this
theorem e_shr16U (q : EqT) (k : IntKind) (x : Nat) : kBin .shr q (some (.int .u64 x)) (some (.int k 16)) = some (.int .u64 (x / 65536 : Nat)) := e_shrU q k x 16 (by decide)

/-- MulH by one half -/
theorem mulh_call {lf m : Nat} {σ : H} {a b : V} {A : List Nat} {t : Nat} (ha : UH σ a A) (hb : UH σ b [t]) (hw : WfH σ) (hA : wokH A) (ht : t < HH) (hlf : A.length + 5 < lf) (hl : A.length < 4294967296) :
    ∃ v σ', call T1 lf (m + 2) 20 [a, b] σ = .ret v σ' ∧ UH σ' v (trimL (mulLH A t)) ∧ Keep σ σ' := by
  refine call_rt1 (p := pk 4) rfl c20_at (by simp [c20]) rfl fun cf hcf => ?_
  generalize hτ : bindArgs [a, b] .h .lf = τ0
  have h0 : τ0.get (pk 0) = some a := by rw [← hτ]; rfl
  have h1 : τ0.get (pk 1) = some b := by rw [← hτ]; rfl
  clear hτ
  have w1 : IntKind.i64.wrap ((A.length : Int) + (([t] : List Nat).length : Int)) = ((A.length + 1 : Nat) : Int) := wrap_add1 (by omega)
  have mk : mkV 48 4 [.int .u32 0] (.int .i64 (A.length + 1 : Nat)) (.int .i64 (A.length + 1 : Nat)) = some (.sl (A.length + 1) (A.length + 1), .cells 48 (repl [.int .u32 0] (A.length + 1)) 0 0 (some 0) []) := by
    simp only [mkV]
    rw [if_pos ⟨Int.natCast_nonneg _, Int.le_refl _, by unfold mostBytes; simp; omega, by omega⟩]
    simp
  have rp : ∀ j, repl [V.int .u32 0] (j + 1) = V.int .u32 0 :: repl [.int .u32 0] j := fun _ => rfl
  simp only [c20, q0, u0, q1, u1, q2, u2, q3, u3, q4, u4, q5, u5, q6, u6, q7, u7, q8, u8, q9, u9, q10, u10, q11, u11, q12, u12, q13, u13, q14, u14, q15, u15, q16, u16, q17, u17, q18, u18, q19, u19, q20, u20, q21, u21, q22, u22, q23, u23, q24, u24, q25, u25, q26, u26, q27, u27, q28, u28, q29, u29, q30, u30, q31, u31, q32, u32, q33, u33, q34, u34, q35, u35, q36, u36, q37, u37, q38, u38, q39, u39, q40, u40, q41, u41, q42, u42, q43, u43, q44, u44, q45, u45, q46, u46, q47, u47, q48, u48, q49, u49, q50, u50, q51, u51, q52, u52, q53, u53, q54, u54, q55, u55, q56, u56, q57, u57, q58, u58, q59, u59, q60, u60, q61, u61, q62, u62, q63, u63, q64, u64, q65, u65, q66, u66, q67, u67, q68, u68, q69, u69, q70, u70, q71, u71, q72, u72, q73, u73, q74, u74, q75, u75, q76, u76, q77, u77, q78, u78, q79, u79, q80, u80, q81, u81, q82, u82, q83, u83, q84, u84, q85, u85, q86, u86, q87, u87, q88, u88, q89, u89, q90, u90, q91, u91, q92, u92, q93, u93, q94, u94, q95, u95, q96, u96, q97, u97, q98, u98, q99, u99, q100, u100, q101, u101, q102, u102, q103, u103, q104, u104, q105, u105, q106, u106, q107, u107, q108, u108, q109, u109, q110, u110, q111, u111, q112, u112, q113, u113, q114, u114, q115, u115, q116, u116, q117, u117, q118, u118, q119, u119, q120, u120, q121, u121, q122, u122, q123, u123, q124, u124, q125, u125, q126, u126, q127, u127, q128, u128, q129, u129, q130, u130, q131, u131, q132, u132, q133, u133, q134, u134, q135, u135, q136, u136, oP, oR, oA, oH, oPn, oRn, oAn, oHn, bi, ld, ki, kt, kf, s_ops_nil, s_ops_cons, s_ops_nx, s_ops_pn, s_seq, s_seq_nx, s_seq_ex, s_seq_rt, s_skip, s_ret, s_exit, s_reg, s_cond, s_cond_t, s_cond_f, s_blk, s_blk_nx, s_blk_rt, s_blk_ex, s_put, s_P, s_R, s_A, s_A_some, s_C_ret, s_C_pan, s_H, s_H_ok, s_H_call, s_H_pan, s_gd, s_gd_bool, s_gd_undef, e_t, e_k, e_mv, e_pick, e_pick_b, e_bin, e_add_i64, e_add_i32, e_sub_i64, e_sub_u8, e_mul_i64, e_addU, e_mulU, e_addU32, e_mulU32, e_eql, e_neq, e_lss, e_leq, e_gtr, e_geq, e_str_eql, e_str_neq, e_iaddr, e_iaddr_int, e_lens, e_ld, e_extract, e_ex0, e_ex1, e_ex2, e_lenS, e_lenS_str, e_cii, e_cii_int, e_slsl_hm, e_sl2, e_slsl_h, e_sl1, e_slis, e_evL_nil, e_evL_cons, e_cons, e_call, e_callk, e_app, e_appk, e_store, e_stk, e_next, e_nextk, e_range, e_rangek, e_bs1, e_bs1i, e_bs0, e_mksl, e_mkslk, e_AK_sl, e_AK_it, e_AK_ptr, e_not, e_notb, e_xori, e_idxs, s_Hn, s_Hnk, s_Nx, s_Rt, s_NR_nx, s_NR_rt, s_NXT_nx, s_NXT_ex, s_NXT_rt, e_lenV_sl, e_lenV_nils, get_pk, k_bind, true_and, and_true, if_true, if_false, Bool.true_eq, beq_self_eq_true, reduceIte, Bool.false_eq_true, reduceCtorEq, bne_self_eq_false, Nat.reduceAdd, Nat.reduceLeDiff, Nat.reduceEqDiff, Nat.reduceSub, Nat.reduceBEq, Int.reduceBEq, Int.reduceNeg, Int.reduceLT, Int.reduceLE, Nat.succ_ne_self, Bool.not_true, Bool.not_false, Bool.true_beq, Bool.false_beq, decide_true, decide_false, exists_eq_left', Option.some.injEq, h0, h1, ha.len, hb.len, w1, mk]
  refine Rt_seq (loop_rule_x
    (fun k τ σ' => ∃ i, i ≤ A.length ∧ k = A.length - i ∧ σ'.get σ.nx = some (.cells 48 ((muSH A t i).1.map wh ++ .int .u32 (muSH A t i).2 :: repl [.int .u32 0] (A.length - i)) 0 0 (some 0) []) ∧ Keep σ σ' ∧ σ.nx.toNat < σ'.nx.toNat ∧
      τ.get (pk 0) = some a ∧ τ.get (pk 1) = some b ∧ τ.get (pk 5) = some (.sl σ.nx 0 0 (A.length + 1) (some (A.length + 1)) 0) ∧ τ.get (pk 6) = some (.int .i64 i))
    (fun τ σ' => σ'.get σ.nx = some (.cells 48 ((mulLH A t).map wh) 0 0 (some 0) []) ∧ Keep σ σ' ∧ τ.get (pk 5) = some (.sl σ.nx 0 0 (A.length + 1) (some (A.length + 1)) 0))
    ?_ (k := A.length) (by omega) ?_) ?_
  · rintro k τ σ' ⟨i, hi, rfl, hg, hK, hnx, g0, g1, g5, g6⟩
    by_cases hlt : i < A.length
    · have d1 := lt_true hlt
      have ha' := ha.keep hw hK
      have hb' := hb.keep hw hK
      obtain ⟨q, q1, q2⟩ := ha'.elem hlt
      obtain ⟨l, rfl⟩ : ∃ l, lf = l + 3 := ⟨lf - 3, by omega⟩
      have hl0 := limb_call (lf := l + 3) (m := m) (i := 0) hb'
      rw [← hcf, show (((0 : Nat)) : Int) = 0 from rfl, show ([t] : List Nat).getD 0 0 = t from rfl] at hl0
      generalize hx : A.getD i 0 = x at q2
      have hxW : x < 65536 := by rw [← hx]; exact hA i
      have hcW : (muSH A t i).2 < 65536 := muS_cH hA ht i
      have htW : t < 65536 := ht
      generalize hc : (muSH A t i).2 = c at hg hcW
      have hDl := muS_lenH A t i
      generalize hD : (muSH A t i).1 = D at hg hDl
      have hxt : x * t ≤ 65535 * 65535 := Nat.mul_le_mul (by omega) (by omega)
      have hs : x * t + c < 65536 * 65536 := by omega
      have n1 : x * t % 18446744073709551616 = x * t := Nat.mod_eq_of_lt (by omega)
      have n2 : (c + x * t) % 18446744073709551616 = x * t + c := by rw [Nat.mod_eq_of_lt (by omega)]; omega
      have n3 : (x * t + c) % 18446744073709551616 = x * t + c := Nat.mod_eq_of_lt (by omega)
      have mk1 := e_mask16U (.sc .int) (x * t + c) (by omega)
      have wu : ∀ n : Nat, n < 4294967296 → IntKind.u64.wrap (n : Int) = (n : Int) := fun n hn => by rw [wrapU, Nat.mod_eq_of_lt (by omega)]
      have w32 : ∀ n : Nat, n < 4294967296 → IntKind.u32.wrap (n : Int) = (n : Int) := fun n hn => by rw [wrapU32, Nat.mod_eq_of_lt (by omega)]
      have hr : (x * t + c) % 65536 < 65536 := Nat.mod_lt _ (by decide)
      have hq : (x * t + c) / 65536 < 65536 := Nat.div_lt_of_lt_mul hs
      have wi0 : IntKind.i64.wrap ((i : Int) + 0) = (i : Int) := by rw [Int.add_zero]; exact wrap_nat (by omega)
      have wi1 : IntKind.i64.wrap ((i : Int) + 1) = ((i + 1 : Nat) : Int) := wrap_add1 (by omega)
      have w01 : IntKind.i64.wrap ((0 : Int) + 1) = 1 := by decide
      have w12 : IntKind.i64.wrap ((1 : Int) + 1) = 2 := by decide
      have dl1 : decide ((0 : Int) < (([t] : List Nat).length : Int)) = true := by simp
      have dl2 : decide ((1 : Int) < (([t] : List Nat).length : Int)) = false := by simp
      have dl3 : decide ((2 : Int) < (([t] : List Nat).length : Int)) = false := by simp
      have el : ∀ j, j < A.length + 1 → elemAt 1 (.sl σ.nx 0 0 (A.length + 1) (some (A.length + 1)) 0) (j : Nat) = some (.ptr σ.nx 0 j) := fun j hj => by
        simp only [elemAt]; rw [if_pos ⟨Int.natCast_nonneg _, by omega⟩]; simp
      have e1 := el i (by omega)
      have e2 := el (i + 1) (by omega)
      obtain ⟨rest, hrest⟩ : ∃ rest, repl [V.int .u32 0] (A.length - i) = .int .u32 0 :: rest ∧ rest = repl [V.int .u32 0] (A.length - (i + 1)) := ⟨_, by rw [show A.length - i = (A.length - (i + 1)) + 1 by omega, rp], rfl⟩
      rw [hrest.1] at hg
      have ldc : ldv σ' (.ptr σ.nx 0 i) = some (.int .u32 c) := by
        simp only [ldv, blkCells, hg, visib, if_true]
        rw [List.getElem?_append_right (by simp [hDl]), List.length_map, hDl, Nat.sub_self]; rfl
      have hos : ((owe1 σ' 0 1 (owe1 σ' 0 1 [] (.ptr σ.nx 0 i)) q).all (oweOk (σ' :: [σ']).reverse)) = true := by
        have he : ∀ s ∈ (σ' :: [σ']).reverse, s = σ' := by simp
        rw [owe_ok q2 he, owe_ok ldc he]; rfl
      have st1 := st_at (σ := σ') (x := σ.nx) (o := i) (k := .u32) (n := ((x * t + c) % 65536 : Nat)) hg (by simp [hDl])
      have hset1 : (D.map wh ++ V.int .u32 c :: (.int .u32 0 :: rest)).set i (.int .u32 ((x * t + c) % 65536 : Nat)) = D.map wh ++ .int .u32 ((x * t + c) % 65536 : Nat) :: (.int .u32 0 :: rest) := by
        have := set_mid (D.map wh) (V.int .u32 c) (.int .u32 ((x * t + c) % 65536 : Nat)) (.int .u32 0 :: rest)
        rwa [List.length_map, hDl] at this
      rw [hset1] at st1
      generalize hσ2 : σ'.put σ.nx (.cells 48 (D.map wh ++ .int .u32 ((x * t + c) % 65536 : Nat) :: (.int .u32 0 :: rest)) 0 0 (some 0) []) = σ2 at st1
      have hg2 : σ2.get σ.nx = some (.cells 48 (D.map wh ++ .int .u32 ((x * t + c) % 65536 : Nat) :: (.int .u32 0 :: rest)) 0 0 (some 0) []) := by rw [← hσ2, H.get_put, if_pos rfl]
      have hK2 : Keep σ σ2 := by rw [← hσ2]; exact hK.put (Nat.le_refl _) hnx _
      have hnx2 : σ.nx.toNat < σ2.nx.toNat := by rw [← hσ2, nx_put]; exact hnx
      have hmap : D.map wh ++ V.int .u32 ((x * t + c) % 65536 : Nat) :: (.int .u32 0 :: rest) = (D ++ [(x * t + c) % 65536]).map wh ++ .int .u32 0 :: rest := by simp [wh]
      have hmu : muSH A t (i + 1) = (D ++ [(x * t + c) % 65536], (x * t + c) / 65536) := by simp only [muSH, hx, hc, hD]
      by_cases hz : (x * t + c) / 65536 = 0
      · have d2 : decide ((0 : Int) < (((0 : Nat)) : Int)) = false := by decide
        simp only [b20_1, b20_0, q0, u0, q1, u1, q2, u2, q3, u3, q4, u4, q5, u5, q6, u6, q7, u7, q8, u8, q9, u9, q10, u10, q11, u11, q12, u12, q13, u13, q14, u14, q15, u15, q16, u16, q17, u17, q18, u18, q19, u19, q20, u20, q21, u21, q22, u22, q23, u23, q24, u24, q25, u25, q26, u26, q27, u27, q28, u28, q29, u29, q30, u30, q31, u31, q32, u32, q33, u33, q34, u34, q35, u35, q36, u36, q37, u37, q38, u38, q39, u39, q40, u40, q41, u41, q42, u42, q43, u43, q44, u44, q45, u45, q46, u46, q47, u47, q48, u48, q49, u49, q50, u50, q51, u51, q52, u52, q53, u53, q54, u54, q55, u55, q56, u56, q57, u57, q58, u58, q59, u59, q60, u60, q61, u61, q62, u62, q63, u63, q64, u64, q65, u65, q66, u66, q67, u67, q68, u68, q69, u69, q70, u70, q71, u71, q72, u72, q73, u73, q74, u74, q75, u75, q76, u76, q77, u77, q78, u78, q79, u79, q80, u80, q81, u81, q82, u82, q83, u83, q84, u84, q85, u85, q86, u86, q87, u87, q88, u88, q89, u89, q90, u90, q91, u91, q92, u92, q93, u93, q94, u94, q95, u95, q96, u96, q97, u97, q98, u98, q99, u99, q100, u100, q101, u101, q102, u102, q103, u103, q104, u104, q105, u105, q106, u106, q107, u107, q108, u108, q109, u109, q110, u110, q111, u111, q112, u112, q113, u113, q114, u114, q115, u115, q116, u116, q117, u117, q118, u118, q119, u119, q120, u120, q121, u121, q122, u122, q123, u123, q124, u124, q125, u125, q126, u126, q127, u127, q128, u128, q129, u129, q130, u130, q131, u131, q132, u132, q133, u133, q134, u134, q135, u135, q136, u136, oP, oR, oA, oH, oPn, oRn, oAn, oHn, bi, ld, ki, kt, kf, s_ops_nil, s_ops_cons, s_ops_nx, s_ops_pn, s_seq, s_seq_nx, s_seq_ex, s_seq_rt, s_skip, s_ret, s_exit, s_reg, s_cond, s_cond_t, s_cond_f, s_blk, s_blk_nx, s_blk_rt, s_blk_ex, s_put, s_P, s_R, s_A, s_A_some, s_C_ret, s_C_pan, s_H, s_H_ok, s_H_call, s_H_pan, s_gd, s_gd_bool, s_gd_undef, e_t, e_k, e_mv, e_pick, e_pick_b, e_bin, e_add_i64, e_add_i32, e_sub_i64, e_sub_u8, e_mul_i64, e_addU, e_mulU, e_addU32, e_mulU32, e_eql, e_neq, e_lss, e_leq, e_gtr, e_geq, e_str_eql, e_str_neq, e_iaddr, e_iaddr_int, e_lens, e_ld, e_extract, e_ex0, e_ex1, e_ex2, e_lenS, e_lenS_str, e_cii, e_cii_int, e_slsl_hm, e_sl2, e_slsl_h, e_sl1, e_slis, e_evL_nil, e_evL_cons, e_cons, e_call, e_callk, e_app, e_appk, e_store, e_stk, e_next, e_nextk, e_range, e_rangek, e_bs1, e_bs1i, e_bs0, e_mksl, e_mkslk, e_AK_sl, e_AK_it, e_AK_ptr, e_not, e_notb, e_xori, e_idxs, s_Hn, s_Hnk, s_Nx, s_Rt, s_NR_nx, s_NR_rt, s_NXT_nx, s_NXT_ex, s_NXT_rt, e_lenV_sl, e_lenV_nils, get_pk, k_bind, true_and, and_true, if_true, if_false, Bool.true_eq, beq_self_eq_true, reduceIte, Bool.false_eq_true, reduceCtorEq, bne_self_eq_false, Nat.reduceAdd, Nat.reduceLeDiff, Nat.reduceEqDiff, Nat.reduceSub, Nat.reduceBEq, Int.reduceBEq, Int.reduceNeg, Int.reduceLT, Int.reduceLE, Nat.succ_ne_self, Bool.not_true, Bool.not_false, Bool.true_beq, Bool.false_beq, decide_true, decide_false, exists_eq_left', Option.some.injEq, w_drw, w_nil, w_0, w_3, w_0nx, w_1s, w_1nx, w_1lk, w_1ls, w_2, w_2nx, w_1l, s_loop1, s_loop2, s_loop_nx, s_loop_ex, g0, g1, g5, g6, ha'.len, hb'.len, d1, dl1, dl2, q1, q2, e1, ldc, hl0, wh, wu c (by omega), wu x (by omega), wu t (by omega), n1, n2, n3, e_addU0, hos, wi0, wi1, w01, mk1, e_shr16U, w32 _ (show (x * t + c) % 65536 < 4294967296 by omega), st1, hz, d2, ne_eq, not_false_eq_true, Nat.zero_ne_one]
        refine ⟨A.length - (i + 1), by omega, i + 1, by omega, rfl, ?_, hK2, hnx2, rfl⟩
        rw [hg2, hmap, hrest.2]
        simp only [hmu, hz]
        rfl
      · have hc0 : 0 < (x * t + c) / 65536 := by omega
        generalize hcc : (x * t + c) / 65536 = c' at hc0 hq hmu
        have d2 : decide ((0 : Int) < ((c' : Nat) : Int)) = true := by simp; exact hc0
        have d3 : decide ((0 : Int) < (((0 : Nat)) : Int)) = false := by decide
        have ha2 := ha.keep hw hK2
        have hb2 := hb.keep hw hK2
        have q2' : ldv σ2 q = some (wh x) := by
          obtain ⟨q', k1, k2⟩ := ha2.elem hlt
          rw [q1] at k1
          obtain rfl := Option.some.inj k1
          rw [k2, hx]
        have hl1 := limb_call (lf := l + 3) (m := m) (i := 1) hb2
        rw [← hcf, show (((1 : Nat)) : Int) = 1 from rfl, show ([t] : List Nat).getD 1 0 = 0 from rfl] at hl1
        have ldc2 : ldv σ2 (.ptr σ.nx 0 (i + 1)) = some (.int .u32 ((0 : Nat) : Int)) := by
          simp only [ldv, blkCells, hg2, visib, if_true]
          rw [List.getElem?_append_right (by simp [hDl]), List.length_map, hDl, Nat.add_sub_cancel_left]; rfl
        have hos2 : ((owe1 σ2 0 1 (owe1 σ2 0 1 [] (.ptr σ.nx 0 (i + 1))) q).all (oweOk (σ2 :: [σ2]).reverse)) = true := by
          have he : ∀ s ∈ (σ2 :: [σ2]).reverse, s = σ2 := by simp
          rw [owe_ok q2' he, owe_ok ldc2 he]; rfl
        have n4 : x * 0 % 18446744073709551616 = 0 := by rw [Nat.mul_zero]
        have n5 : (0 + 0) % 18446744073709551616 = 0 := rfl
        have n6 : (0 + c') % 18446744073709551616 = c' := by rw [Nat.zero_add]; exact Nat.mod_eq_of_lt (by omega)
        have n7 : c' % 65536 = c' := Nat.mod_eq_of_lt hq
        have n8 : c' / 65536 = 0 := Nat.div_eq_of_lt hq
        have mk2 := e_mask16U (.sc .int) c' (by omega)
        rw [n7] at mk2
        have st2 := st_at (σ := σ2) (x := σ.nx) (o := i + 1) (k := .u32) (n := (c' : Nat)) hg2 (by simp [hDl])
        have hset2 : (D.map wh ++ V.int .u32 ((x * t + c) % 65536 : Nat) :: (.int .u32 0 :: rest)).set (i + 1) (.int .u32 (c' : Nat)) = (D ++ [(x * t + c) % 65536]).map wh ++ .int .u32 (c' : Nat) :: rest := by
          have := set_mid ((D ++ [(x * t + c) % 65536]).map wh) (V.int .u32 0) (.int .u32 (c' : Nat)) rest
          rw [List.length_map, List.length_append, hDl, List.length_singleton] at this
          rw [← this]; simp [wh]
        rw [hset2] at st2
        simp only [b20_1, b20_0, q0, u0, q1, u1, q2, u2, q3, u3, q4, u4, q5, u5, q6, u6, q7, u7, q8, u8, q9, u9, q10, u10, q11, u11, q12, u12, q13, u13, q14, u14, q15, u15, q16, u16, q17, u17, q18, u18, q19, u19, q20, u20, q21, u21, q22, u22, q23, u23, q24, u24, q25, u25, q26, u26, q27, u27, q28, u28, q29, u29, q30, u30, q31, u31, q32, u32, q33, u33, q34, u34, q35, u35, q36, u36, q37, u37, q38, u38, q39, u39, q40, u40, q41, u41, q42, u42, q43, u43, q44, u44, q45, u45, q46, u46, q47, u47, q48, u48, q49, u49, q50, u50, q51, u51, q52, u52, q53, u53, q54, u54, q55, u55, q56, u56, q57, u57, q58, u58, q59, u59, q60, u60, q61, u61, q62, u62, q63, u63, q64, u64, q65, u65, q66, u66, q67, u67, q68, u68, q69, u69, q70, u70, q71, u71, q72, u72, q73, u73, q74, u74, q75, u75, q76, u76, q77, u77, q78, u78, q79, u79, q80, u80, q81, u81, q82, u82, q83, u83, q84, u84, q85, u85, q86, u86, q87, u87, q88, u88, q89, u89, q90, u90, q91, u91, q92, u92, q93, u93, q94, u94, q95, u95, q96, u96, q97, u97, q98, u98, q99, u99, q100, u100, q101, u101, q102, u102, q103, u103, q104, u104, q105, u105, q106, u106, q107, u107, q108, u108, q109, u109, q110, u110, q111, u111, q112, u112, q113, u113, q114, u114, q115, u115, q116, u116, q117, u117, q118, u118, q119, u119, q120, u120, q121, u121, q122, u122, q123, u123, q124, u124, q125, u125, q126, u126, q127, u127, q128, u128, q129, u129, q130, u130, q131, u131, q132, u132, q133, u133, q134, u134, q135, u135, q136, u136, oP, oR, oA, oH, oPn, oRn, oAn, oHn, bi, ld, ki, kt, kf, s_ops_nil, s_ops_cons, s_ops_nx, s_ops_pn, s_seq, s_seq_nx, s_seq_ex, s_seq_rt, s_skip, s_ret, s_exit, s_reg, s_cond, s_cond_t, s_cond_f, s_blk, s_blk_nx, s_blk_rt, s_blk_ex, s_put, s_P, s_R, s_A, s_A_some, s_C_ret, s_C_pan, s_H, s_H_ok, s_H_call, s_H_pan, s_gd, s_gd_bool, s_gd_undef, e_t, e_k, e_mv, e_pick, e_pick_b, e_bin, e_add_i64, e_add_i32, e_sub_i64, e_sub_u8, e_mul_i64, e_addU, e_mulU, e_addU32, e_mulU32, e_eql, e_neq, e_lss, e_leq, e_gtr, e_geq, e_str_eql, e_str_neq, e_iaddr, e_iaddr_int, e_lens, e_ld, e_extract, e_ex0, e_ex1, e_ex2, e_lenS, e_lenS_str, e_cii, e_cii_int, e_slsl_hm, e_sl2, e_slsl_h, e_sl1, e_slis, e_evL_nil, e_evL_cons, e_cons, e_call, e_callk, e_app, e_appk, e_store, e_stk, e_next, e_nextk, e_range, e_rangek, e_bs1, e_bs1i, e_bs0, e_mksl, e_mkslk, e_AK_sl, e_AK_it, e_AK_ptr, e_not, e_notb, e_xori, e_idxs, s_Hn, s_Hnk, s_Nx, s_Rt, s_NR_nx, s_NR_rt, s_NXT_nx, s_NXT_ex, s_NXT_rt, e_lenV_sl, e_lenV_nils, get_pk, k_bind, true_and, and_true, if_true, if_false, Bool.true_eq, beq_self_eq_true, reduceIte, Bool.false_eq_true, reduceCtorEq, bne_self_eq_false, Nat.reduceAdd, Nat.reduceLeDiff, Nat.reduceEqDiff, Nat.reduceSub, Nat.reduceBEq, Int.reduceBEq, Int.reduceNeg, Int.reduceLT, Int.reduceLE, Nat.succ_ne_self, Bool.not_true, Bool.not_false, Bool.true_beq, Bool.false_beq, decide_true, decide_false, exists_eq_left', Option.some.injEq, w_drw, w_nil, w_0, w_3, w_0nx, w_1s, w_1nx, w_1lk, w_1ls, w_2, w_2nx, w_1l, s_loop1, s_loop2, s_loop_nx, s_loop_ex, g0, g1, g5, g6, ha'.len, hb'.len, d1, dl1, dl2, dl3, q1, q2, q2', e1, e2, ldc, ldc2, hl0, hl1, wh, wu c (by omega), wu x (by omega), wu t (by omega), wu 0 (by omega), n1, n2, n3, n4, n5, n6, n8, e_addU0, hos, hos2, wi0, wi1, w01, w12, mk1, mk2, e_shr16U, hcc, w32 _ (show (x * t + c) % 65536 < 4294967296 by omega), w32 c' (by omega), st1, st2, d2, d3, ne_eq, not_false_eq_true, Nat.zero_ne_one]
        refine ⟨A.length - (i + 1), by omega, i + 1, by omega, rfl, ?_, hK2.put (Nat.le_refl _) hnx2 _, by rw [nx_put]; exact hnx2, rfl⟩
        rw [H.get_put, if_pos rfl, hrest.2]
        simp only [hmu]
    · have d1 := lt_false hlt
      have hie : i = A.length := by omega
      subst hie
      simp only [b20_1, q0, u0, q1, u1, q2, u2, q3, u3, q4, u4, q5, u5, q6, u6, q7, u7, q8, u8, q9, u9, q10, u10, q11, u11, q12, u12, q13, u13, q14, u14, q15, u15, q16, u16, q17, u17, q18, u18, q19, u19, q20, u20, q21, u21, q22, u22, q23, u23, q24, u24, q25, u25, q26, u26, q27, u27, q28, u28, q29, u29, q30, u30, q31, u31, q32, u32, q33, u33, q34, u34, q35, u35, q36, u36, q37, u37, q38, u38, q39, u39, q40, u40, q41, u41, q42, u42, q43, u43, q44, u44, q45, u45, q46, u46, q47, u47, q48, u48, q49, u49, q50, u50, q51, u51, q52, u52, q53, u53, q54, u54, q55, u55, q56, u56, q57, u57, q58, u58, q59, u59, q60, u60, q61, u61, q62, u62, q63, u63, q64, u64, q65, u65, q66, u66, q67, u67, q68, u68, q69, u69, q70, u70, q71, u71, q72, u72, q73, u73, q74, u74, q75, u75, q76, u76, q77, u77, q78, u78, q79, u79, q80, u80, q81, u81, q82, u82, q83, u83, q84, u84, q85, u85, q86, u86, q87, u87, q88, u88, q89, u89, q90, u90, q91, u91, q92, u92, q93, u93, q94, u94, q95, u95, q96, u96, q97, u97, q98, u98, q99, u99, q100, u100, q101, u101, q102, u102, q103, u103, q104, u104, q105, u105, q106, u106, q107, u107, q108, u108, q109, u109, q110, u110, q111, u111, q112, u112, q113, u113, q114, u114, q115, u115, q116, u116, q117, u117, q118, u118, q119, u119, q120, u120, q121, u121, q122, u122, q123, u123, q124, u124, q125, u125, q126, u126, q127, u127, q128, u128, q129, u129, q130, u130, q131, u131, q132, u132, q133, u133, q134, u134, q135, u135, q136, u136, oP, oR, oA, oH, oPn, oRn, oAn, oHn, bi, ld, ki, kt, kf, s_ops_nil, s_ops_cons, s_ops_nx, s_ops_pn, s_seq, s_seq_nx, s_seq_ex, s_seq_rt, s_skip, s_ret, s_exit, s_reg, s_cond, s_cond_t, s_cond_f, s_blk, s_blk_nx, s_blk_rt, s_blk_ex, s_put, s_P, s_R, s_A, s_A_some, s_C_ret, s_C_pan, s_H, s_H_ok, s_H_call, s_H_pan, s_gd, s_gd_bool, s_gd_undef, e_t, e_k, e_mv, e_pick, e_pick_b, e_bin, e_add_i64, e_add_i32, e_sub_i64, e_sub_u8, e_mul_i64, e_addU, e_mulU, e_addU32, e_mulU32, e_eql, e_neq, e_lss, e_leq, e_gtr, e_geq, e_str_eql, e_str_neq, e_iaddr, e_iaddr_int, e_lens, e_ld, e_extract, e_ex0, e_ex1, e_ex2, e_lenS, e_lenS_str, e_cii, e_cii_int, e_slsl_hm, e_sl2, e_slsl_h, e_sl1, e_slis, e_evL_nil, e_evL_cons, e_cons, e_call, e_callk, e_app, e_appk, e_store, e_stk, e_next, e_nextk, e_range, e_rangek, e_bs1, e_bs1i, e_bs0, e_mksl, e_mkslk, e_AK_sl, e_AK_it, e_AK_ptr, e_not, e_notb, e_xori, e_idxs, s_Hn, s_Hnk, s_Nx, s_Rt, s_NR_nx, s_NR_rt, s_NXT_nx, s_NXT_ex, s_NXT_rt, e_lenV_sl, e_lenV_nils, get_pk, k_bind, true_and, and_true, if_true, if_false, Bool.true_eq, beq_self_eq_true, reduceIte, Bool.false_eq_true, reduceCtorEq, bne_self_eq_false, Nat.reduceAdd, Nat.reduceLeDiff, Nat.reduceEqDiff, Nat.reduceSub, Nat.reduceBEq, Int.reduceBEq, Int.reduceNeg, Int.reduceLT, Int.reduceLE, Nat.succ_ne_self, Bool.not_true, Bool.not_false, Bool.true_beq, Bool.false_beq, decide_true, decide_false, exists_eq_left', Option.some.injEq, g0, g6, (ha.keep hw hK).len, d1, g5]
      refine ⟨?_, hK⟩
      rw [hg, Nat.sub_self, mulLH, List.map_append]; rfl
  · refine ⟨0, Nat.zero_le _, rfl, by rw [H.get_new, if_pos rfl]; rfl, Keep.new _ _, by rw [nx_new]; omega, ?_⟩
    simp only [q0, u0, q1, u1, q2, u2, q3, u3, q4, u4, q5, u5, q6, u6, q7, u7, q8, u8, q9, u9, q10, u10, q11, u11, q12, u12, q13, u13, q14, u14, q15, u15, q16, u16, q17, u17, q18, u18, q19, u19, q20, u20, q21, u21, q22, u22, q23, u23, q24, u24, q25, u25, q26, u26, q27, u27, q28, u28, q29, u29, q30, u30, q31, u31, q32, u32, q33, u33, q34, u34, q35, u35, q36, u36, q37, u37, q38, u38, q39, u39, q40, u40, q41, u41, q42, u42, q43, u43, q44, u44, q45, u45, q46, u46, q47, u47, q48, u48, q49, u49, q50, u50, q51, u51, q52, u52, q53, u53, q54, u54, q55, u55, q56, u56, q57, u57, q58, u58, q59, u59, q60, u60, q61, u61, q62, u62, q63, u63, q64, u64, q65, u65, q66, u66, q67, u67, q68, u68, q69, u69, q70, u70, q71, u71, q72, u72, q73, u73, q74, u74, q75, u75, q76, u76, q77, u77, q78, u78, q79, u79, q80, u80, q81, u81, q82, u82, q83, u83, q84, u84, q85, u85, q86, u86, q87, u87, q88, u88, q89, u89, q90, u90, q91, u91, q92, u92, q93, u93, q94, u94, q95, u95, q96, u96, q97, u97, q98, u98, q99, u99, q100, u100, q101, u101, q102, u102, q103, u103, q104, u104, q105, u105, q106, u106, q107, u107, q108, u108, q109, u109, q110, u110, q111, u111, q112, u112, q113, u113, q114, u114, q115, u115, q116, u116, q117, u117, q118, u118, q119, u119, q120, u120, q121, u121, q122, u122, q123, u123, q124, u124, q125, u125, q126, u126, q127, u127, q128, u128, q129, u129, q130, u130, q131, u131, q132, u132, q133, u133, q134, u134, q135, u135, q136, u136, oP, oR, oA, oH, oPn, oRn, oAn, oHn, bi, ld, ki, kt, kf, s_ops_nil, s_ops_cons, s_ops_nx, s_ops_pn, s_seq, s_seq_nx, s_seq_ex, s_seq_rt, s_skip, s_ret, s_exit, s_reg, s_cond, s_cond_t, s_cond_f, s_blk, s_blk_nx, s_blk_rt, s_blk_ex, s_put, s_P, s_R, s_A, s_A_some, s_C_ret, s_C_pan, s_H, s_H_ok, s_H_call, s_H_pan, s_gd, s_gd_bool, s_gd_undef, e_t, e_k, e_mv, e_pick, e_pick_b, e_bin, e_add_i64, e_add_i32, e_sub_i64, e_sub_u8, e_mul_i64, e_addU, e_mulU, e_addU32, e_mulU32, e_eql, e_neq, e_lss, e_leq, e_gtr, e_geq, e_str_eql, e_str_neq, e_iaddr, e_iaddr_int, e_lens, e_ld, e_extract, e_ex0, e_ex1, e_ex2, e_lenS, e_lenS_str, e_cii, e_cii_int, e_slsl_hm, e_sl2, e_slsl_h, e_sl1, e_slis, e_evL_nil, e_evL_cons, e_cons, e_call, e_callk, e_app, e_appk, e_store, e_stk, e_next, e_nextk, e_range, e_rangek, e_bs1, e_bs1i, e_bs0, e_mksl, e_mkslk, e_AK_sl, e_AK_it, e_AK_ptr, e_not, e_notb, e_xori, e_idxs, s_Hn, s_Hnk, s_Nx, s_Rt, s_NR_nx, s_NR_rt, s_NXT_nx, s_NXT_ex, s_NXT_rt, e_lenV_sl, e_lenV_nils, get_pk, k_bind, true_and, and_true, if_true, if_false, Bool.true_eq, beq_self_eq_true, reduceIte, Bool.false_eq_true, reduceCtorEq, bne_self_eq_false, Nat.reduceAdd, Nat.reduceLeDiff, Nat.reduceEqDiff, Nat.reduceSub, Nat.reduceBEq, Int.reduceBEq, Int.reduceNeg, Int.reduceLT, Int.reduceLE, Nat.succ_ne_self, Bool.not_true, Bool.not_false, Bool.true_beq, Bool.false_beq, decide_true, decide_false, exists_eq_left', Option.some.injEq, h0, h1]
    rfl
  · rintro τ σ' ⟨hg, hK, g5⟩
    have hu : UH σ' (.sl σ.nx 0 0 (A.length + 1) (some (A.length + 1)) 0) (mulLH A t) := by
      refine ⟨Nat.le_refl _, by simp [slLen, mulL_lenH], ?_⟩
      simp only [slCells, blkCells, hg, visib, if_true, cut]
      rw [if_pos (by simp)]
      simp only [List.drop_zero, Nat.mul_one]
      rw [List.take_of_length_le (by simp)]
    obtain ⟨a', k1, k2⟩ := trimh_call (lf := lf) (m := m) hu (by rw [mulL_lenH]; omega) (by rw [mulL_lenH]; omega)
    rw [← hcf] at k1
    simp only [q0, u0, q1, u1, q2, u2, q3, u3, q4, u4, q5, u5, q6, u6, q7, u7, q8, u8, q9, u9, q10, u10, q11, u11, q12, u12, q13, u13, q14, u14, q15, u15, q16, u16, q17, u17, q18, u18, q19, u19, q20, u20, q21, u21, q22, u22, q23, u23, q24, u24, q25, u25, q26, u26, q27, u27, q28, u28, q29, u29, q30, u30, q31, u31, q32, u32, q33, u33, q34, u34, q35, u35, q36, u36, q37, u37, q38, u38, q39, u39, q40, u40, q41, u41, q42, u42, q43, u43, q44, u44, q45, u45, q46, u46, q47, u47, q48, u48, q49, u49, q50, u50, q51, u51, q52, u52, q53, u53, q54, u54, q55, u55, q56, u56, q57, u57, q58, u58, q59, u59, q60, u60, q61, u61, q62, u62, q63, u63, q64, u64, q65, u65, q66, u66, q67, u67, q68, u68, q69, u69, q70, u70, q71, u71, q72, u72, q73, u73, q74, u74, q75, u75, q76, u76, q77, u77, q78, u78, q79, u79, q80, u80, q81, u81, q82, u82, q83, u83, q84, u84, q85, u85, q86, u86, q87, u87, q88, u88, q89, u89, q90, u90, q91, u91, q92, u92, q93, u93, q94, u94, q95, u95, q96, u96, q97, u97, q98, u98, q99, u99, q100, u100, q101, u101, q102, u102, q103, u103, q104, u104, q105, u105, q106, u106, q107, u107, q108, u108, q109, u109, q110, u110, q111, u111, q112, u112, q113, u113, q114, u114, q115, u115, q116, u116, q117, u117, q118, u118, q119, u119, q120, u120, q121, u121, q122, u122, q123, u123, q124, u124, q125, u125, q126, u126, q127, u127, q128, u128, q129, u129, q130, u130, q131, u131, q132, u132, q133, u133, q134, u134, q135, u135, q136, u136, oP, oR, oA, oH, oPn, oRn, oAn, oHn, bi, ld, ki, kt, kf, s_ops_nil, s_ops_cons, s_ops_nx, s_ops_pn, s_seq, s_seq_nx, s_seq_ex, s_seq_rt, s_skip, s_ret, s_exit, s_reg, s_cond, s_cond_t, s_cond_f, s_blk, s_blk_nx, s_blk_rt, s_blk_ex, s_put, s_P, s_R, s_A, s_A_some, s_C_ret, s_C_pan, s_H, s_H_ok, s_H_call, s_H_pan, s_gd, s_gd_bool, s_gd_undef, e_t, e_k, e_mv, e_pick, e_pick_b, e_bin, e_add_i64, e_add_i32, e_sub_i64, e_sub_u8, e_mul_i64, e_addU, e_mulU, e_addU32, e_mulU32, e_eql, e_neq, e_lss, e_leq, e_gtr, e_geq, e_str_eql, e_str_neq, e_iaddr, e_iaddr_int, e_lens, e_ld, e_extract, e_ex0, e_ex1, e_ex2, e_lenS, e_lenS_str, e_cii, e_cii_int, e_slsl_hm, e_sl2, e_slsl_h, e_sl1, e_slis, e_evL_nil, e_evL_cons, e_cons, e_call, e_callk, e_app, e_appk, e_store, e_stk, e_next, e_nextk, e_range, e_rangek, e_bs1, e_bs1i, e_bs0, e_mksl, e_mkslk, e_AK_sl, e_AK_it, e_AK_ptr, e_not, e_notb, e_xori, e_idxs, s_Hn, s_Hnk, s_Nx, s_Rt, s_NR_nx, s_NR_rt, s_NXT_nx, s_NXT_ex, s_NXT_rt, e_lenV_sl, e_lenV_nils, get_pk, k_bind, true_and, and_true, if_true, if_false, Bool.true_eq, beq_self_eq_true, reduceIte, Bool.false_eq_true, reduceCtorEq, bne_self_eq_false, Nat.reduceAdd, Nat.reduceLeDiff, Nat.reduceEqDiff, Nat.reduceSub, Nat.reduceBEq, Int.reduceBEq, Int.reduceNeg, Int.reduceLT, Int.reduceLE, Nat.succ_ne_self, Bool.not_true, Bool.not_false, Bool.true_beq, Bool.false_beq, decide_true, decide_false, exists_eq_left', Option.some.injEq, g5, k1]
    exact ⟨k2, hK⟩
end Go.Proofs.YtplaefbblpiehaaEng
