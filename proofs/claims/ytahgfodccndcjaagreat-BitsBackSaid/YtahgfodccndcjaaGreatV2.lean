/- Layers 1 and 9 run on symbols: Bit, Shl of 1, power. (Numbers of seat r2.) -/
/- Layers 1 and 9 run on symbols: Shl of 1, power. (Numbers of seat r2.) -/
/- Layers 1 and 9 run on symbols: Len, Right, u. (Numbers of seat r2.) -/
/- Layer 9 run on symbols: s, Unsigned, Signed. (Numbers of seat r2.) -/
/- Layer 9 run on symbols: Unsigned, Signed, of, low, From. (Numbers of seat r2.) -/
/- Layer 9 run on symbols: low, From. (Numbers of seat r2.) -/
import Derived.Test.YtahgfodccndcjaaGreatV1
import Derived.Test.YtahgfodccndcjaaGreatM6
namespace Go.Proofs.YtahgfodccndcjaaGreatEng
open Go
set_option maxRecDepth 100000
set_option linter.unusedSimpArgs false

theorem c52_at : T1.code 52 = some c52 := by kernel_rfl
theorem rem_pos (i : Nat) : i % 64 < 64 := Nat.mod_lt _ (by decide)
theorem and1_lt (x : Nat) : x &&& 1 < 2 := by
  have : x &&& 1 ≤ 1 := Nat.and_le_right
  omega
/-- a bit -/
def bitL (A : List Nat) (i : Nat) : Bool := if i / 64 < A.length then (((A.getD (i / 64) 0 / 2 ^ (i % 64) &&& 1 : Nat) : Int) == 1) else false
/-- Bit -/
theorem nbit_call {lf m : Nat} {σ : H} {a : V} {A : List Nat} {i : Nat} (ha : U σ a A) (hA : wok A) (hi : i < 4611686018427387904) : call T1 lf (m + 1) 52 [a, .int .i64 i] σ = .ret (.bool (bitL A i)) σ := by
  have key : ∃ v σ', call T1 lf (m + 1) 52 [a, .int .i64 i] σ = .ret v σ' ∧ (v = .bool (bitL A i) ∧ σ' = σ) := by
    refine call_rt1 (p := pk 4) rfl c52_at (by simp [c52]) rfl fun cf hcf => ?_
    clear hcf
    generalize hτ : bindArgs [a, .int .i64 i] .h .lf = τ0
    have h0 : τ0.get (pk 0) = some a := by rw [← hτ]; rfl
    have h1 : τ0.get (pk 1) = some (.int .i64 i) := by rw [← hτ]; rfl
    clear hτ
    have d0 : decide ((0 : Int) ≤ (i : Int)) = true := by simp
    have eQ := fun q => e_quo64 q i hi
    have eR := fun q => e_rem64 q i
    by_cases hlt : i / 64 < A.length
    · have eB : bitL A i = (((A.getD (i / 64) 0 / 2 ^ (i % 64) &&& 1 : Nat) : Int) == 1) := if_pos hlt
      have d1 := lt_true hlt
      obtain ⟨p, hp1, hp2⟩ := ha.elem hlt
      have wU : IntKind.u64.wrap ((i % 64 : Nat) : Int) = ((i % 64 : Nat) : Int) := by
        rw [wrapU, Nat.mod_eq_of_lt (by have := rem_pos i; omega)]
      have eS := fun q => e_shrV q .u64 (A.getD (i / 64) 0) (i % 64) (by have := rem_pos i; omega)
      have eN : ∀ q, kBin .and q (some (.int .u64 (A.getD (i / 64) 0 / 2 ^ (i % 64) : Nat))) (some (.int .u64 1)) = some (.int .u64 (A.getD (i / 64) 0 / 2 ^ (i % 64) &&& 1 : Nat)) := fun q => e_andU q (A.getD (i / 64) 0 / 2 ^ (i % 64)) 1 (Nat.lt_of_le_of_lt (Nat.div_le_self _ _) (hA _)) (by decide)
      simp only [c52, QU, oP, oR, oA, oH, oPn, oRn, oAn, oHn, bi, ld, ki, kt, kf, s_ops_nil, s_ops_cons, s_ops_nx, s_ops_pn, s_seq, s_seq_nx, s_seq_ex, s_seq_rt, s_skip, s_ret, s_exit, s_reg, s_cond, s_cond_t, s_cond_f, s_blk, s_blk_nx, s_blk_rt, s_blk_ex, s_put, s_P, s_R, s_A, s_A_some, s_C_ret, s_C_pan, s_H, s_H_ok, s_H_call, s_H_pan, s_gd, s_gd_bool, s_gd_undef, e_t, e_k, e_mv, e_pick, e_pick_b, e_bin, e_add_i64, e_add_i32, e_sub_i64, e_sub_u8, e_mul_i64, e_addU, e_mulU, e_addU32, e_mulU32, e_eql, e_neq, e_lss, e_leq, e_gtr, e_geq, e_str_eql, e_str_neq, e_iaddr, e_iaddr_int, e_lens, e_ld, e_extract, e_ex0, e_ex1, e_ex2, e_lenS, e_lenS_str, e_cii, e_cii_int, e_slsl_hm, e_sl2, e_slsl_h, e_sl1, e_slis, e_evL_nil, e_evL_cons, e_cons, e_call, e_callk, e_app, e_appk, e_store, e_stk, e_next, e_nextk, e_range, e_rangek, e_bs1, e_bs1i, e_bs0, e_mksl, e_mkslk, e_AK_sl, e_AK_it, e_AK_ptr, e_not, e_notb, e_xori, e_idxs, s_Hn, s_Hnk, s_Nx, s_Rt, s_NR_nx, s_NR_rt, s_NXT_nx, s_NXT_ex, s_NXT_rt, e_lenV_sl, e_lenV_nils, get_pk, k_bind, true_and, and_true, if_true, if_false, Bool.true_eq, beq_self_eq_true, reduceIte, Bool.false_eq_true, reduceCtorEq, bne_self_eq_false, Nat.reduceAdd, Nat.reduceLeDiff, Nat.reduceEqDiff, Nat.reduceSub, Nat.reduceBEq, Int.reduceBEq, Int.reduceNeg, Int.reduceLT, Int.reduceLE, Nat.succ_ne_self, Bool.not_true, Bool.not_false, Bool.true_beq, Bool.false_beq, decide_true, decide_false, exists_eq_left', Option.some.injEq, h0, h1, d0, eQ, eR, ha.len, d1, hp1, hp2, wd, wU, eS, eN, eB]
    · have eB : bitL A i = false := if_neg hlt
      have d1 := lt_false hlt
      simp only [c52, QU, oP, oR, oA, oH, oPn, oRn, oAn, oHn, bi, ld, ki, kt, kf, s_ops_nil, s_ops_cons, s_ops_nx, s_ops_pn, s_seq, s_seq_nx, s_seq_ex, s_seq_rt, s_skip, s_ret, s_exit, s_reg, s_cond, s_cond_t, s_cond_f, s_blk, s_blk_nx, s_blk_rt, s_blk_ex, s_put, s_P, s_R, s_A, s_A_some, s_C_ret, s_C_pan, s_H, s_H_ok, s_H_call, s_H_pan, s_gd, s_gd_bool, s_gd_undef, e_t, e_k, e_mv, e_pick, e_pick_b, e_bin, e_add_i64, e_add_i32, e_sub_i64, e_sub_u8, e_mul_i64, e_addU, e_mulU, e_addU32, e_mulU32, e_eql, e_neq, e_lss, e_leq, e_gtr, e_geq, e_str_eql, e_str_neq, e_iaddr, e_iaddr_int, e_lens, e_ld, e_extract, e_ex0, e_ex1, e_ex2, e_lenS, e_lenS_str, e_cii, e_cii_int, e_slsl_hm, e_sl2, e_slsl_h, e_sl1, e_slis, e_evL_nil, e_evL_cons, e_cons, e_call, e_callk, e_app, e_appk, e_store, e_stk, e_next, e_nextk, e_range, e_rangek, e_bs1, e_bs1i, e_bs0, e_mksl, e_mkslk, e_AK_sl, e_AK_it, e_AK_ptr, e_not, e_notb, e_xori, e_idxs, s_Hn, s_Hnk, s_Nx, s_Rt, s_NR_nx, s_NR_rt, s_NXT_nx, s_NXT_ex, s_NXT_rt, e_lenV_sl, e_lenV_nils, get_pk, k_bind, true_and, and_true, if_true, if_false, Bool.true_eq, beq_self_eq_true, reduceIte, Bool.false_eq_true, reduceCtorEq, bne_self_eq_false, Nat.reduceAdd, Nat.reduceLeDiff, Nat.reduceEqDiff, Nat.reduceSub, Nat.reduceBEq, Int.reduceBEq, Int.reduceNeg, Int.reduceLT, Int.reduceLE, Nat.succ_ne_self, Bool.not_true, Bool.not_false, Bool.true_beq, Bool.false_beq, decide_true, decide_false, exists_eq_left', Option.some.injEq, h0, h1, d0, eQ, eR, ha.len, d1, eB]
  obtain ⟨v, _, h1, rfl, rfl⟩ := key
  exact h1

theorem c148_at : T1.code 148 = some c148 := by kernel_rfl
/-- shl of 1 -/
theorem shl1_call {lf m : Nat} {σ : H} {a : V} {n : Nat} (ha : U σ a [1]) (hw : WfH σ) (hn : n < 64) (hlf : 4 < lf) :
    ∃ v σ', call T1 lf (m + 1) 148 [a, .int .u64 n] σ = .ret v σ' ∧ U σ' v [2 ^ n, 0] ∧ Keep σ σ' := by
  refine call_rt1 (p := pk 4) rfl c148_at (by simp [c148]) rfl fun cf hcf => ?_
  clear hcf
  obtain ⟨l, rfl⟩ : ∃ l, lf = l + 2 := ⟨lf - 2, by omega⟩
  generalize hτ : bindArgs [a, .int .u64 n] .h .lf = τ0
  have h0 : τ0.get (pk 0) = some a := by rw [← hτ]; rfl
  have h1 : τ0.get (pk 1) = some (.int .u64 n) := by rw [← hτ]; rfl
  clear hτ
  have mk : mkV 49 8 [.int .u64 0] (.int .i64 0) (.int .i64 2) = some (.sl 0 2, .cells 49 [.int .u64 0, .int .u64 0] 0 0 (some 0) []) := by rfl
  have hlen : lenV a = some (.int .i64 1) := by have := ha.len; exact this
  have w1 : IntKind.i64.wrap ((1 : Int) + 1) = 2 := by decide
  have w2 : IntKind.i64.wrap ((0 : Int) + 1) = 1 := by decide
  have d1 : decide ((0 : Int) < 1) = true := by decide
  have d2 : decide ((1 : Int) < 1) = false := by decide
  have hn2 : 2 ^ n < 18446744073709551616 := by
    have : 2 ^ n < 2 ^ 64 := Nat.pow_lt_pow_right (by decide) hn
    exact this
  have eL : ∀ q, kBin .shl q (some (.int .u64 1)) (some (.int .u64 n)) = some (.int .u64 (1 * 2 ^ n % 18446744073709551616 : Nat)) := fun q => e_shlM q .u64 1 n hn
  rw [show (1 * 2 ^ n % 18446744073709551616) = 2 ^ n by rw [Nat.one_mul, Nat.mod_eq_of_lt hn2]] at eL
  have eO : ∀ q, kBin .or q (some (.int .u64 (2 ^ n : Nat))) (some (.int .u64 0)) = some (.int .u64 (2 ^ n ||| 0 : Nat)) := fun q => e_orU q (2 ^ n) 0 hn2 (by decide)
  rw [Nat.or_zero] at eO
  have eSb : ∀ q, kBin .sub q (some (.int .u64 64)) (some (.int .u64 n)) = some (.int .u64 (64 - n : Nat)) := fun q => e_subU q (x := 64) (y := n) (z := 64 - n) (by congr 1; omega) (by omega)
  have eR : ∀ q, kBin .shr q (some (.int .u64 1)) (some (.int .u64 (64 - n : Nat))) = some (.int .u64 (1 / 2 ^ (64 - n) : Nat)) := fun q => e_shrV q .u64 1 (64 - n) (by omega)
  rw [show 1 / 2 ^ (64 - n) = 0 by
    refine Nat.div_eq_of_lt ?_
    exact Nat.one_lt_two_pow (by omega)] at eR
  have hK1 := Keep.new σ (.cells 49 [.int .u64 0, .int .u64 0] 0 0 (some 0) [])
  obtain ⟨p, hp1, hp2⟩ := (ha.keep hw hK1).elem (i := 0) (by simp)
  have hg1 : (σ.new (.cells 49 [.int .u64 0, .int .u64 0] 0 0 (some 0) [])).get σ.nx = some (.cells 49 [.int .u64 0, .int .u64 0] 0 0 (some 0) []) := (Keep.refl _).at
  have hx1 : σ.nx.toNat < (σ.new (.cells 49 [.int .u64 0, .int .u64 0] 0 0 (some 0) [])).nx.toNat := by rw [nx_new]; omega
  generalize hS1 : σ.new (.cells 49 [.int .u64 0, .int .u64 0] 0 0 (some 0) []) = S1 at *
  have hK2 := Keep.new S1 (.cells 49 [.int .u64 (2 ^ n : Nat)] 0 0 (some 0) [])
  have hy1 : U (S1.new (.cells 49 [.int .u64 (2 ^ n : Nat)] 0 0 (some 0) [])) (.sl S1.nx 0 0 1 (some 1) 0) [2 ^ n] := UG.one (by rw [H.get_new, if_pos rfl]; rfl)
  have hg2 : (S1.new (.cells 49 [.int .u64 (2 ^ n : Nat)] 0 0 (some 0) [])).get σ.nx = some (.cells 49 [.int .u64 0, .int .u64 0] 0 0 (some 0) []) := by
    rw [H.get_new, if_neg (fun e => by rw [e] at hx1; omega)]; exact hg1
  have hx2 : σ.nx.toNat < (S1.new (.cells 49 [.int .u64 (2 ^ n : Nat)] 0 0 (some 0) [])).nx.toNat := by rw [nx_new]; omega
  generalize hS2 : S1.new (.cells 49 [.int .u64 (2 ^ n : Nat)] 0 0 (some 0) []) = S2 at *
  have key1 := app_in (f := wd) (fun _ => rfl) (σ := S2) (ty := 49) (eb := 8) (x := σ.nx) (cap := 2) (C := []) (w := 2 ^ n) (k := 0) hy1 hg2 rfl (by decide)
  have hK3 := (hK1.trans hK2).put (Nat.le_refl _) hx2 (.cells 49 (([] ++ [2 ^ n]).map wd ++ [.int .u64 0]) 0 0 (some 0) [])
  have hg3 : (S2.put σ.nx (.cells 49 (([] ++ [2 ^ n]).map wd ++ [.int .u64 0]) 0 0 (some 0) [])).get σ.nx = some (.cells 49 (([] ++ [2 ^ n]).map wd ++ [.int .u64 0]) 0 0 (some 0) []) := by rw [H.get_put, if_pos rfl]
  have hx3 : σ.nx.toNat < (S2.put σ.nx (.cells 49 (([] ++ [2 ^ n]).map wd ++ [.int .u64 0]) 0 0 (some 0) [])).nx.toNat := by rw [nx_put]; exact hx2
  generalize hS3 : S2.put σ.nx (.cells 49 (([] ++ [2 ^ n]).map wd ++ [.int .u64 0]) 0 0 (some 0) []) = S3 at *
  have hK4 := Keep.new S3 (.cells 49 [.int .u64 (0 : Nat)] 0 0 (some 0) [])
  have hy2 : U (S3.new (.cells 49 [.int .u64 (0 : Nat)] 0 0 (some 0) [])) (.sl S3.nx 0 0 1 (some 1) 0) [0] := UG.one (by rw [H.get_new, if_pos rfl]; rfl)
  have hg4 : (S3.new (.cells 49 [.int .u64 (0 : Nat)] 0 0 (some 0) [])).get σ.nx = some (.cells 49 (([] ++ [2 ^ n]).map wd ++ [.int .u64 0]) 0 0 (some 0) []) := by
    rw [H.get_new, if_neg (fun e => by rw [e] at hx3; omega)]; exact hg3
  have hx4 : σ.nx.toNat < (S3.new (.cells 49 [.int .u64 (0 : Nat)] 0 0 (some 0) [])).nx.toNat := by rw [nx_new]; omega
  generalize hS4 : S3.new (.cells 49 [.int .u64 (0 : Nat)] 0 0 (some 0) []) = S4 at *
  have key2 := app_in (f := wd) (fun _ => rfl) (σ := S4) (ty := 49) (eb := 8) (x := σ.nx) (cap := 2) (C := [2 ^ n]) (w := 0) (k := 1) hy2 hg4 rfl (by decide)
  have hK5 := (hK3.trans hK4).put (Nat.le_refl _) hx4 (.cells 49 (([2 ^ n] ++ [0]).map wd ++ []) 0 0 (some 0) [])
  have hg5 : (S4.put σ.nx (.cells 49 (([2 ^ n] ++ [0]).map wd ++ []) 0 0 (some 0) [])).get σ.nx = some (.cells 49 ([2 ^ n, 0].map wd) 0 0 (some 0) []) := by rw [H.get_put, if_pos rfl]; rfl
  generalize hS5 : S4.put σ.nx (.cells 49 (([2 ^ n] ++ [0]).map wd ++ []) 0 0 (some 0) []) = S5 at *
  have hq1 : elemAt 1 a 0 = some p := hp1
  have hq2 : ldv S1 p = some (.int .u64 1) := hp2
  simp only [c148, b148_0, QU, oP, oR, oA, oH, oPn, oRn, oAn, oHn, bi, ld, ki, kt, kf, s_ops_nil, s_ops_cons, s_ops_nx, s_ops_pn, s_seq, s_seq_nx, s_seq_ex, s_seq_rt, s_skip, s_ret, s_exit, s_reg, s_cond, s_cond_t, s_cond_f, s_blk, s_blk_nx, s_blk_rt, s_blk_ex, s_put, s_P, s_R, s_A, s_A_some, s_C_ret, s_C_pan, s_H, s_H_ok, s_H_call, s_H_pan, s_gd, s_gd_bool, s_gd_undef, e_t, e_k, e_mv, e_pick, e_pick_b, e_bin, e_add_i64, e_add_i32, e_sub_i64, e_sub_u8, e_mul_i64, e_addU, e_mulU, e_addU32, e_mulU32, e_eql, e_neq, e_lss, e_leq, e_gtr, e_geq, e_str_eql, e_str_neq, e_iaddr, e_iaddr_int, e_lens, e_ld, e_extract, e_ex0, e_ex1, e_ex2, e_lenS, e_lenS_str, e_cii, e_cii_int, e_slsl_hm, e_sl2, e_slsl_h, e_sl1, e_slis, e_evL_nil, e_evL_cons, e_cons, e_call, e_callk, e_app, e_appk, e_store, e_stk, e_next, e_nextk, e_range, e_rangek, e_bs1, e_bs1i, e_bs0, e_mksl, e_mkslk, e_AK_sl, e_AK_it, e_AK_ptr, e_not, e_notb, e_xori, e_idxs, s_Hn, s_Hnk, s_Nx, s_Rt, s_NR_nx, s_NR_rt, s_NXT_nx, s_NXT_ex, s_NXT_rt, e_lenV_sl, e_lenV_nils, get_pk, k_bind, true_and, and_true, if_true, if_false, Bool.true_eq, beq_self_eq_true, reduceIte, Bool.false_eq_true, reduceCtorEq, bne_self_eq_false, Nat.reduceAdd, Nat.reduceLeDiff, Nat.reduceEqDiff, Nat.reduceSub, Nat.reduceBEq, Int.reduceBEq, Int.reduceNeg, Int.reduceLT, Int.reduceLE, Nat.succ_ne_self, Bool.not_true, Bool.not_false, Bool.true_beq, Bool.false_beq, decide_true, decide_false, exists_eq_left', Option.some.injEq, s_loop1, s_loop2, s_loop_nx, s_loop_ex, s_loop_rt, h0, h1, hlen, w1, w2, mk, hS1, d1, d2, hq1, hq2, eL, eO, hS2, key1, hS3, eSb, eR, hS4, key2, hS5]
  exact ⟨UG.of_get hg5 (show 0 + 2 ≤ 2 by decide), hK5⟩
end Go.Proofs.YtahgfodccndcjaaGreatEng

namespace Go.Proofs.YtahgfodccndcjaaGreatEng
open Go
set_option maxRecDepth 100000
set_option linter.unusedSimpArgs false

theorem app_full {f : Nat → V} {σ : H} {ty eb : Nat} {x : Pos} {C B : List Nat} {y : V} {minv : Nat} {ex : List Nat} (hy : UG f σ y B) (hB : B ≠ []) (hx : σ.get x = some (.cells ty (C.map f) 0 minv (some 0) ex)) (hb : (C.length + B.length) * eb ≤ mostBytes) (hb2 : C.length + B.length ≤ mostBytes) :
    appV σ ty 1 eb (.sl x 0 0 C.length (some C.length) 0) y = .ok (.sl σ.nx 0 0 (C ++ B).length none 1) (σ.new (.cells ty ((C ++ B).map f) 0 0 (some 0) [])) := by
  have hn : B.length ≠ 0 := fun e => hB (List.eq_nil_of_length_eq_zero e)
  unfold appV
  rw [if_pos hy.slice, hy.2.1]
  simp only [hy.2.2, vapp, if_neg hn]
  rw [if_neg (by omega)]
  simp only [slCells, blkCells, hx, visib, if_true, cut, Nat.mul_one, Nat.zero_add, List.length_map, Nat.le_refl, List.drop_zero, vgrow]
  rw [if_pos ⟨hb, hb2, Nat.one_pos⟩]
  rw [List.take_of_length_le (by simp)]
  simp [HR.of]
theorem repl_wd : ∀ k, repl [V.int .u64 0] k = (List.replicate k 0).map wd
  | 0 => rfl
  | k + 1 => by rw [show repl [V.int .u64 0] (k + 1) = .int .u64 0 :: repl [.int .u64 0] k from rfl, repl_wd k, List.replicate_succ, List.map_cons]; rfl

theorem mk49 (K : Nat) (hK : K ≤ 256) : mkV 49 8 [.int .u64 0] (.int .i64 K) (.int .i64 K) = some (.sl K K, .cells 49 (repl [.int .u64 0] K) 0 0 (some 0) []) := by
  simp only [mkV]
  rw [if_pos ⟨Int.natCast_nonneg _, Int.le_refl _, by unfold mostBytes; simp; omega, by omega⟩]
  simp
/-- 2 to the power of w, as Shl has it before it is trimmed -/
def PWr (w : Nat) : List Nat := List.replicate (w / 64) 0 ++ [2 ^ (w % 64), 0]
theorem PWr_len (w : Nat) : (PWr w).length = w / 64 + 2 := by simp [PWr]
theorem PWr_ok (w : Nat) : wok (PWr w) := by
  refine wok_of fun x hx => ?_
  simp only [PWr, List.mem_append, List.mem_cons, List.not_mem_nil, or_false] at hx
  rcases hx with h | rfl | rfl
  · rw [(List.mem_replicate.1 h).2]; decide
  · have : 2 ^ (w % 64) < 2 ^ 64 := Nat.pow_lt_pow_right (by decide) (rem_pos w)
    exact this
  · decide
theorem val_rep : ∀ k L, val (List.replicate k 0 ++ L) = WW ^ k * val L
  | 0, L => by simp
  | k + 1, L => by
    have h1 : val (List.replicate (k + 1) 0 ++ L) = 0 + WW * val (List.replicate k 0 ++ L) := rfl
    rw [h1, val_rep k L, Nat.zero_add, ← Nat.mul_assoc, Nat.pow_succ, Nat.mul_comm WW]
theorem PWr_val (w : Nat) : val (PWr w) = 2 ^ w := by
  have h1 : val [2 ^ (w % 64), 0] = 2 ^ (w % 64) := by simp [val]
  have h2 : WW = 2 ^ 64 := by decide
  rw [PWr, val_rep, h1, h2, ← Nat.pow_mul, ← Nat.pow_add, Nat.div_add_mod]

theorem c89_at : T1.code 89 = some c89 := by kernel_rfl
theorem one_ok : wok [1] := wok_of fun x h => by rw [List.mem_singleton.1 h]; decide
/-- Shl of 1 -/
theorem shlone_call {lf m : Nat} {σ : H} {a : V} {w : Nat} (ha : U σ a [1]) (hw : WfH σ) (hwn : w ≤ 4096) (hlf : 80 < lf) :
    ∃ v σ', call T1 lf (m + 4) 89 [a, .int .i64 w] σ = .ret (.tup [v, .int .i64 0]) σ' ∧ Keep σ σ' ∧ U σ' v (trimL (PWr w)) := by
  have key : ∃ v u σ', call T1 lf (m + 4) 89 [a, .int .i64 w] σ = .ret (.tup [v, u]) σ' ∧ (u = .int .i64 0 ∧ Keep σ σ' ∧ U σ' v (trimL (PWr w))) := by
    refine call_rt2 (p := pk 4) (q := pk 5) rfl c89_at (by simp [c89]) rfl fun cf hcf => ?_
    generalize hτ : bindArgs [a, .int .i64 w] .h .lf = τ0
    have h0 : τ0.get (pk 0) = some a := by rw [← hτ]; rfl
    have h1 : τ0.get (pk 1) = some (.int .i64 w) := by rw [← hτ]; rfl
    clear hτ
    have d0 : decide ((w : Int) < 0) = false := by simp
    have d1 : decide ((262144 : Int) < (w : Int)) = false := by simp; omega
    have t1 : trimL [1] = [1] := by decide
    have hKa := Keep.new σ (.cells 23 [a] 0 0 (some 0) [])
    have e1 : kBs1 23 (some a) = some (.sl 1 1, .cells 23 [a] 0 0 (some 0) []) := e_bs1s ha.cells1
    have ga := (Keep.refl (σ.new (.cells 23 [a] 0 0 (some 0) []))).at
    have ha1 := ha.keep hw hKa
    have hw1 := hKa.2.2 hw
    have k1 := long_call (lf := lf) (m := m + 1) ga ha1 (by simp; omega) (by simp)
    rw [t1, show decide (4096 < ([1] : List Nat).length) = false by decide] at k1
    generalize hσ1 : σ.new (.cells 23 [a] 0 0 (some 0) []) = σ1 at *
    obtain ⟨b, k2, k3⟩ := trim_call (lf := lf) (m := m + 2) ha1 (by simp; omega) (by simp)
    rw [t1] at k3
    have d2 : lenV b = some (.int .i64 1) := k3.len
    have eQ := fun q => e_quo64 q w (by omega)
    have eR := fun q => e_rem64 q w
    have wU : IntKind.u64.wrap ((w % 64 : Nat) : Int) = ((w % 64 : Nat) : Int) := by
      rw [wrapU, Nat.mod_eq_of_lt (by have := rem_pos w; omega)]
    have hq : w / 64 ≤ 64 := by omega
    have mk := mk49 (w / 64) (by omega)
    have hKb := Keep.new σ1 (.cells 49 ((List.replicate (w / 64) 0).map wd) 0 0 (some 0) [])
    have gb := (Keep.refl (σ1.new (.cells 49 ((List.replicate (w / 64) 0).map wd) 0 0 (some 0) []))).at
    have ha2 := ha1.keep hw1 hKb
    have hw2 := hKb.2.2 hw1
    generalize hσ2 : σ1.new (.cells 49 ((List.replicate (w / 64) 0).map wd) 0 0 (some 0) []) = σ2 at *
    obtain ⟨b2, k4, k5⟩ := trim_call (lf := lf) (m := m + 2) ha2 (by simp; omega) (by simp)
    rw [t1] at k5
    obtain ⟨c, σ3, k6, k7, k8⟩ := shl1_call (lf := lf) (m := m + 2) k5 hw2 (rem_pos w) (by omega)
    have hw3 := k8.2.2 hw2
    have gb3 := k8.get_some hw2 gb
    have ap := app_full (f := wd) (ty := 49) (eb := 8) k7 (by simp) gb3 (by simp; unfold mostBytes; omega) (by simp; unfold mostBytes; omega)
    rw [show List.replicate (w / 64) 0 ++ [2 ^ (w % 64), 0] = PWr w from rfl, List.length_replicate] at ap
    have hKd := Keep.new σ3 (.cells 49 ((PWr w).map wd) 0 0 (some 0) [])
    have hU4 : U (σ3.new (.cells 49 ((PWr w).map wd) 0 0 (some 0) [])) (.sl σ3.nx 0 0 (PWr w).length none 1) (PWr w) := UG.of_get (Keep.refl _).at rfl
    have hw4 := hKd.2.2 hw3
    generalize hσ4 : σ3.new (.cells 49 ((PWr w).map wd) 0 0 (some 0) []) = σ4 at *
    have hl := PWr_len w
    obtain ⟨v, u, σ5, k9, k10, k11⟩ := out_call (lf := lf) (m := m) hU4 hw4 (by omega) (by omega)
    have hl2 := trimL_le (PWr w)
    rw [if_neg (by omega)] at k11
    obtain ⟨k12, rfl⟩ := k11
    rw [← hcf] at k1 k2 k4 k6 k9
    simp only [c89, QU, oP, oR, oA, oH, oPn, oRn, oAn, oHn, bi, ld, ki, kt, kf, s_ops_nil, s_ops_cons, s_ops_nx, s_ops_pn, s_seq, s_seq_nx, s_seq_ex, s_seq_rt, s_skip, s_ret, s_exit, s_reg, s_cond, s_cond_t, s_cond_f, s_blk, s_blk_nx, s_blk_rt, s_blk_ex, s_put, s_P, s_R, s_A, s_A_some, s_C_ret, s_C_pan, s_H, s_H_ok, s_H_call, s_H_pan, s_gd, s_gd_bool, s_gd_undef, e_t, e_k, e_mv, e_pick, e_pick_b, e_bin, e_add_i64, e_add_i32, e_sub_i64, e_sub_u8, e_mul_i64, e_addU, e_mulU, e_addU32, e_mulU32, e_eql, e_neq, e_lss, e_leq, e_gtr, e_geq, e_str_eql, e_str_neq, e_iaddr, e_iaddr_int, e_lens, e_ld, e_extract, e_ex0, e_ex1, e_ex2, e_lenS, e_lenS_str, e_cii, e_cii_int, e_slsl_hm, e_sl2, e_slsl_h, e_sl1, e_slis, e_evL_nil, e_evL_cons, e_cons, e_call, e_callk, e_app, e_appk, e_store, e_stk, e_next, e_nextk, e_range, e_rangek, e_bs1, e_bs1i, e_bs0, e_mksl, e_mkslk, e_AK_sl, e_AK_it, e_AK_ptr, e_not, e_notb, e_xori, e_idxs, s_Hn, s_Hnk, s_Nx, s_Rt, s_NR_nx, s_NR_rt, s_NXT_nx, s_NXT_ex, s_NXT_rt, e_lenV_sl, e_lenV_nils, get_pk, k_bind, true_and, and_true, if_true, if_false, Bool.true_eq, beq_self_eq_true, reduceIte, Bool.false_eq_true, reduceCtorEq, bne_self_eq_false, Nat.reduceAdd, Nat.reduceLeDiff, Nat.reduceEqDiff, Nat.reduceSub, Nat.reduceBEq, Int.reduceBEq, Int.reduceNeg, Int.reduceLT, Int.reduceLE, Nat.succ_ne_self, Bool.not_true, Bool.not_false, Bool.true_beq, Bool.false_beq, decide_true, decide_false, exists_eq_left', Option.some.injEq, w_drw, w_nil, w_0, w_3, w_0nx, w_1s, w_1nx, w_1lk, w_1ls, w_2, w_2nx, h0, h1, d0, d1, e1, hσ1, k1, k2, d2, eQ, eR, wU, mk, repl_wd, hσ2, k4, k6, ap, hσ4, k9, List.all_nil]
    exact ⟨_, _, rfl, rfl, rfl, hKa.trans (hKb.trans (k8.trans (hKd.trans k10))), k12⟩
  obtain ⟨v, u, σ', h1, rfl, h2⟩ := key
  exact ⟨v, σ', h1, h2⟩

theorem c54_at : T1.code 54 = some c54 := by kernel_rfl
/-- power -/
theorem power_call {lf m : Nat} {σ : H} {w : Nat} (hw : WfH σ) (hwn : w ≤ 4096) (hlf : 80 < lf) :
    ∃ v σ', call T1 lf (m + 5) 54 [.int .i64 w] σ = .ret (.agg [.bool false, v]) σ' ∧ Keep σ σ' ∧ U σ' v (trimL (PWr w)) := by
  have key : ∃ u v σ', call T1 lf (m + 5) 54 [.int .i64 w] σ = .ret (.agg [u, v]) σ' ∧ (u = .bool false ∧ Keep σ σ' ∧ U σ' v (trimL (PWr w))) := by
    refine call_rc (p := pk 2) rfl c54_at (by simp [c54]) rfl fun cf hcf => ?_
    generalize hτ : bindArgs [.int .i64 w] .h .lf = τ0
    have h0 : τ0.get (pk 0) = some (.int .i64 w) := by rw [← hτ]; rfl
    clear hτ
    have hKa := Keep.new σ (.cells 38 [.bool false, .nils] 0 0 (some 0) [])
    have hKb := Keep.new (σ.new (.cells 38 [.bool false, .nils] 0 0 (some 0) [])) (.cells 49 [.int .u64 1] 0 0 (some 0) [])
    have hw2 := (hKa.trans hKb).2.2 hw
    have hu : U ((σ.new (.cells 38 [.bool false, .nils] 0 0 (some 0) [])).new (.cells 49 [.int .u64 1] 0 0 (some 0) [])) (.sl (σ.new (.cells 38 [.bool false, .nils] 0 0 (some 0) [])).nx 0 0 1 (some 1) 0) [1] := UG.one (by rw [H.get_new, if_pos rfl]; rfl)
    obtain ⟨v, σ3, k1, k2, k3⟩ := shlone_call (lf := lf) (m := m) (w := w) hu hw2 hwn hlf
    rw [← hcf] at k1
    obtain ⟨σf, f1, f2, f3, f4⟩ := fin_cell (σ := σ) (f := wd) (ty := 38) (a := .bool false) (b := .nils) (v := .bool false) (w := v) (fun n => wd_neB n false) wd_neN (hKb.trans k2) rfl k3.one_v
    simp only [c54, QU, oP, oR, oA, oH, oPn, oRn, oAn, oHn, bi, ld, ki, kt, kf, s_ops_nil, s_ops_cons, s_ops_nx, s_ops_pn, s_seq, s_seq_nx, s_seq_ex, s_seq_rt, s_skip, s_ret, s_exit, s_reg, s_cond, s_cond_t, s_cond_f, s_blk, s_blk_nx, s_blk_rt, s_blk_ex, s_put, s_P, s_R, s_A, s_A_some, s_C_ret, s_C_pan, s_H, s_H_ok, s_H_call, s_H_pan, s_gd, s_gd_bool, s_gd_undef, e_t, e_k, e_mv, e_pick, e_pick_b, e_bin, e_add_i64, e_add_i32, e_sub_i64, e_sub_u8, e_mul_i64, e_addU, e_mulU, e_addU32, e_mulU32, e_eql, e_neq, e_lss, e_leq, e_gtr, e_geq, e_str_eql, e_str_neq, e_iaddr, e_iaddr_int, e_lens, e_ld, e_extract, e_ex0, e_ex1, e_ex2, e_lenS, e_lenS_str, e_cii, e_cii_int, e_slsl_hm, e_sl2, e_slsl_h, e_sl1, e_slis, e_evL_nil, e_evL_cons, e_cons, e_call, e_callk, e_app, e_appk, e_store, e_stk, e_next, e_nextk, e_range, e_rangek, e_bs1, e_bs1i, e_bs0, e_mksl, e_mkslk, e_AK_sl, e_AK_it, e_AK_ptr, e_not, e_notb, e_xori, e_idxs, s_Hn, s_Hnk, s_Nx, s_Rt, s_NR_nx, s_NR_rt, s_NXT_nx, s_NXT_ex, s_NXT_rt, e_lenV_sl, e_lenV_nils, get_pk, k_bind, true_and, and_true, if_true, if_false, Bool.true_eq, beq_self_eq_true, reduceIte, Bool.false_eq_true, reduceCtorEq, bne_self_eq_false, Nat.reduceAdd, Nat.reduceLeDiff, Nat.reduceEqDiff, Nat.reduceSub, Nat.reduceBEq, Int.reduceBEq, Int.reduceNeg, Int.reduceLT, Int.reduceLE, Nat.succ_ne_self, Bool.not_true, Bool.not_false, Bool.true_beq, Bool.false_beq, decide_true, decide_false, exists_eq_left', Option.some.injEq, e_alloc, e_build21, kB21, k3.cells1, List.length_singleton, h0, k1, f1]
    exact ⟨_, _, _, rfl, f2, rfl, f3, f4 _ _ k3⟩
  obtain ⟨u, v, σ', h1, rfl, h2⟩ := key
  exact ⟨v, σ', h1, h2⟩
end Go.Proofs.YtahgfodccndcjaaGreatEng

namespace Go.Proofs.YtahgfodccndcjaaGreatEng
open Go
set_option maxRecDepth 100000
set_option linter.unusedSimpArgs false

theorem c23_at : T1.code 23 = some c23 := by kernel_rfl
theorem l64_le (x : Nat) : l64 x ≤ 64 := by
  unfold l64 l64p
  have h1 := lstep_le 32 (x, 0)
  have h2 := lstep_le 16 (lstep 32 (x, 0))
  have h3 := lstep_le 8 (lstep 16 (lstep 32 (x, 0)))
  have h4 := l8_le (lstep 8 (lstep 16 (lstep 32 (x, 0)))).1
  omega
/-- how many bits a number has -/
def lenN (L : List Nat) : Nat := if L.length = 0 then 0 else 64 * (L.length - 1) + l64 (L.getD (L.length - 1) 0)
/-- Len -/
theorem nlen_call {lf m : Nat} {σ : H} {a : V} {A : List Nat} (ha : U σ a A) (hA : wok A) (hlf : A.length < lf) (hl : A.length < 17592186048512) : call T1 lf (m + 2) 23 [a] σ = .ret (.int .i64 (lenN (trimL A) : Nat)) σ := by
  have key : ∃ v σ', call T1 lf (m + 2) 23 [a] σ = .ret v σ' ∧ (v = .int .i64 (lenN (trimL A) : Nat) ∧ σ' = σ) := by
    refine call_rt1 (p := pk 2) rfl c23_at (by simp [c23]) rfl fun cf hcf => ?_
    generalize hτ : bindArgs [a] .h .lf = τ0
    have h0 : τ0.get (pk 0) = some a := by rw [← hτ]; rfl
    clear hτ
    obtain ⟨a', k1, k2⟩ := trim_call (lf := lf) (m := m) ha hlf (by omega)
    rw [← hcf] at k1
    have hLl : (trimL A).length ≤ A.length := trimL_le A
    have hO := trimL_ok hA
    generalize trimL A = L at *
    by_cases hz : L.length = 0
    · have e0 : ((L.length : Int) == 0) = true := by rw [hz]; rfl
      have eN : lenN L = 0 := if_pos hz
      simp only [c23, QU, oP, oR, oA, oH, oPn, oRn, oAn, oHn, bi, ld, ki, kt, kf, s_ops_nil, s_ops_cons, s_ops_nx, s_ops_pn, s_seq, s_seq_nx, s_seq_ex, s_seq_rt, s_skip, s_ret, s_exit, s_reg, s_cond, s_cond_t, s_cond_f, s_blk, s_blk_nx, s_blk_rt, s_blk_ex, s_put, s_P, s_R, s_A, s_A_some, s_C_ret, s_C_pan, s_H, s_H_ok, s_H_call, s_H_pan, s_gd, s_gd_bool, s_gd_undef, e_t, e_k, e_mv, e_pick, e_pick_b, e_bin, e_add_i64, e_add_i32, e_sub_i64, e_sub_u8, e_mul_i64, e_addU, e_mulU, e_addU32, e_mulU32, e_eql, e_neq, e_lss, e_leq, e_gtr, e_geq, e_str_eql, e_str_neq, e_iaddr, e_iaddr_int, e_lens, e_ld, e_extract, e_ex0, e_ex1, e_ex2, e_lenS, e_lenS_str, e_cii, e_cii_int, e_slsl_hm, e_sl2, e_slsl_h, e_sl1, e_slis, e_evL_nil, e_evL_cons, e_cons, e_call, e_callk, e_app, e_appk, e_store, e_stk, e_next, e_nextk, e_range, e_rangek, e_bs1, e_bs1i, e_bs0, e_mksl, e_mkslk, e_AK_sl, e_AK_it, e_AK_ptr, e_not, e_notb, e_xori, e_idxs, s_Hn, s_Hnk, s_Nx, s_Rt, s_NR_nx, s_NR_rt, s_NXT_nx, s_NXT_ex, s_NXT_rt, e_lenV_sl, e_lenV_nils, get_pk, k_bind, true_and, and_true, if_true, if_false, Bool.true_eq, beq_self_eq_true, reduceIte, Bool.false_eq_true, reduceCtorEq, bne_self_eq_false, Nat.reduceAdd, Nat.reduceLeDiff, Nat.reduceEqDiff, Nat.reduceSub, Nat.reduceBEq, Int.reduceBEq, Int.reduceNeg, Int.reduceLT, Int.reduceLE, Nat.succ_ne_self, Bool.not_true, Bool.not_false, Bool.true_beq, Bool.false_beq, decide_true, decide_false, exists_eq_left', Option.some.injEq, h0, k1, k2.len, e0, eN]
      rfl
    · have e0 : ((L.length : Int) == 0) = false := by simp only [beq_eq_false_iff_ne, ne_eq]; omega
      have w1 : IntKind.i64.wrap ((L.length : Int) - 1) = ((L.length - 1 : Nat) : Int) := wrap_sub (by omega) (by omega)
      have w2 : IntKind.i64.wrap ((64 : Int) * ((L.length - 1 : Nat) : Int)) = ((64 * (L.length - 1) : Nat) : Int) := by
        rw [← wrap_nat (n := 64 * (L.length - 1)) (by omega)]; congr 1
      obtain ⟨q, hq1, hq2⟩ := k2.elem (i := L.length - 1) (by omega)
      have kl := len64_call (lf := lf) (m := m) (σ := σ) (x := L.getD (L.length - 1) 0) (hO _)
      rw [← hcf] at kl
      have hle := l64_le (L.getD (L.length - 1) 0)
      have w3 : IntKind.i64.wrap (((64 * (L.length - 1) : Nat) : Int) + ((l64 (L.getD (L.length - 1) 0) : Nat) : Int)) = ((64 * (L.length - 1) + l64 (L.getD (L.length - 1) 0) : Nat) : Int) := wrap_add (by omega)
      have eN : lenN L = 64 * (L.length - 1) + l64 (L.getD (L.length - 1) 0) := if_neg hz
      simp only [c23, QU, oP, oR, oA, oH, oPn, oRn, oAn, oHn, bi, ld, ki, kt, kf, s_ops_nil, s_ops_cons, s_ops_nx, s_ops_pn, s_seq, s_seq_nx, s_seq_ex, s_seq_rt, s_skip, s_ret, s_exit, s_reg, s_cond, s_cond_t, s_cond_f, s_blk, s_blk_nx, s_blk_rt, s_blk_ex, s_put, s_P, s_R, s_A, s_A_some, s_C_ret, s_C_pan, s_H, s_H_ok, s_H_call, s_H_pan, s_gd, s_gd_bool, s_gd_undef, e_t, e_k, e_mv, e_pick, e_pick_b, e_bin, e_add_i64, e_add_i32, e_sub_i64, e_sub_u8, e_mul_i64, e_addU, e_mulU, e_addU32, e_mulU32, e_eql, e_neq, e_lss, e_leq, e_gtr, e_geq, e_str_eql, e_str_neq, e_iaddr, e_iaddr_int, e_lens, e_ld, e_extract, e_ex0, e_ex1, e_ex2, e_lenS, e_lenS_str, e_cii, e_cii_int, e_slsl_hm, e_sl2, e_slsl_h, e_sl1, e_slis, e_evL_nil, e_evL_cons, e_cons, e_call, e_callk, e_app, e_appk, e_store, e_stk, e_next, e_nextk, e_range, e_rangek, e_bs1, e_bs1i, e_bs0, e_mksl, e_mkslk, e_AK_sl, e_AK_it, e_AK_ptr, e_not, e_notb, e_xori, e_idxs, s_Hn, s_Hnk, s_Nx, s_Rt, s_NR_nx, s_NR_rt, s_NXT_nx, s_NXT_ex, s_NXT_rt, e_lenV_sl, e_lenV_nils, get_pk, k_bind, true_and, and_true, if_true, if_false, Bool.true_eq, beq_self_eq_true, reduceIte, Bool.false_eq_true, reduceCtorEq, bne_self_eq_false, Nat.reduceAdd, Nat.reduceLeDiff, Nat.reduceEqDiff, Nat.reduceSub, Nat.reduceBEq, Int.reduceBEq, Int.reduceNeg, Int.reduceLT, Int.reduceLE, Nat.succ_ne_self, Bool.not_true, Bool.not_false, Bool.true_beq, Bool.false_beq, decide_true, decide_false, exists_eq_left', Option.some.injEq, h0, k1, k2.len, e0, w1, w2, hq1, hq2, wd, kl, w3, eN]
  obtain ⟨v, _, h1, rfl, rfl⟩ := key
  exact h1


theorem lstep_up (k : Nat) {p : Nat × Nat} {x : Nat} (h : x < (p.1 + 1) * 2 ^ p.2) : x < ((lstep k p).1 + 1) * 2 ^ (lstep k p).2 := by
  unfold lstep
  split
  · simp only
    refine Nat.lt_of_lt_of_le h ?_
    have h1 : p.1 + 1 ≤ (p.1 / 2 ^ k + 1) * 2 ^ k := by
      have h2 := Nat.lt_div_mul_add (a := p.1) (Nat.two_pow_pos k)
      rw [Nat.add_mul, Nat.one_mul]
      exact h2
    rw [Nat.pow_add, Nat.mul_comm (2 ^ p.2), ← Nat.mul_assoc]
    exact Nat.mul_le_mul_right _ h1
  · exact h
theorem l8_up : ∀ i, i < 256 → i + 1 ≤ 2 ^ l8.getD i 0 := by decide
theorem l64_up {x : Nat} (hx : x < WW) : x < 2 ^ l64 x := by
  have hx' : x < 2 ^ (32 + 32) := hx
  have hp1 := lstep_lt 32 (p := (x, 0)) (b := 32) hx' (Nat.le_refl _)
  have hp2 := lstep_lt 16 (b := 16) hp1 (Nat.le_refl _)
  have hp3 := lstep_lt 8 (b := 8) hp2 (Nat.le_refl _)
  have h1 := lstep_up 8 (lstep_up 16 (lstep_up 32 (p := (x, 0)) (x := x) (by simp)))
  have h2 := l8_up _ hp3
  unfold l64 l64p
  refine Nat.lt_of_lt_of_le h1 ?_
  rw [Nat.pow_add, Nat.mul_comm (2 ^ _)]
  exact Nat.mul_le_mul_right _ h2
theorem lenN_up {L : List Nat} (hL : wok L) : val L < 2 ^ lenN L := by
  by_cases hz : L.length = 0
  · have := List.eq_nil_of_length_eq_zero hz
    subst this
    exact Nat.two_pow_pos _
  · have e : lenN L = 64 * (L.length - 1) + l64 (L.getD (L.length - 1) 0) := if_neg hz
    have h1 := val_take_succ L (L.length - 1)
    rw [List.take_of_length_le (by omega)] at h1
    have h2 := val_take_lt hL (L.length - 1)
    have h3 := l64_up (hL (L.length - 1))
    have h4 : WW ^ (L.length - 1) * (L.getD (L.length - 1) 0 + 1) ≤ WW ^ (L.length - 1) * 2 ^ l64 (L.getD (L.length - 1) 0) := Nat.mul_le_mul_left _ h3
    have h5 : WW = 2 ^ 64 := by decide
    rw [e, Nat.pow_add, Nat.pow_mul, ← h5]
    rw [Nat.mul_add, Nat.mul_one] at h4
    omega
theorem lenN_len {L : List Nat} (hL : wok L) {w : Nat} (h : lenN L ≤ w) : 64 * (L.length - 1) ≤ w ∧ val L < 2 ^ w := by
  refine ⟨?_, Nat.lt_of_lt_of_le (lenN_up hL) (Nat.pow_le_pow_right (by decide) h)⟩
  by_cases hz : L.length = 0
  · omega
  · have e : lenN L = 64 * (L.length - 1) + l64 (L.getD (L.length - 1) 0) := if_neg hz
    omega

theorem w_1lT (cf : CallF) (n : Nat) (p g : Pos) (a : Arg) (k lo hi : Nat) (hl : lo ≠ hi) (tl : Bool) (r : List DO) (τ : Tr V) (σ : H) (d : List Df) (es : List H) (os : List Owe) (hg : τ.get g = some (.bool true)) :
    runDrw cf n (⟨⟨some p, .r (.load none a), some (g, true)⟩, k, 1, lo, hi, tl⟩ :: r) τ σ d es os = kDL cf n r p τ σ d es os lo hi (a.ev τ) := by
  rw [← w_1l cf n p a k lo hi hl tl r τ σ d es os]
  simp only [runDrw, s_gd, hg, s_gd_bool, beq_self_eq_true, if_true, guardV, if_neg hl, beq_self_eq_true]
theorem w_1lF (cf : CallF) (n : Nat) (p g : Pos) (a : Arg) (k lo hi : Nat) (hl : lo ≠ hi) (tl : Bool) (r : List DO) (τ : Tr V) (σ : H) (d : List Df) (es : List H) (os : List Owe) (hg : τ.get g = some (.bool false)) :
    runDrw cf n (⟨⟨some p, .r (.load none a), some (g, true)⟩, k, 1, lo, hi, tl⟩ :: r) τ σ d es os = kD1 cf n r σ d es os (kPut n p τ σ d (some undefV)) := by
  have e : (false == true) = false := rfl
  simp only [runDrw, s_gd, hg, s_gd_bool, e, guardV, if_neg hl, if_false, Bool.false_eq_true]
  cases kPut n p τ σ d (some undefV) <;> rfl

theorem c10_at : T1.code 10 = some c10 := by kernel_rfl
/-- is it a vector? -/
def rightB (n : Int) (A : List Nat) : Bool := decide (1 ≤ n) && (decide (n ≤ 4096) && decide (((lenN (trimL A) : Nat) : Int) ≤ n))
/-- Right -/
theorem right_call {lf m : Nat} {σ : H} {a : V} {A : List Nat} {n : Int} (hw : WfH σ) (ha : U σ a A) (hA : wok A) (hlf : A.length < lf) (hl : A.length < 17592186048512) :
    ∃ σ', call T1 lf (m + 3) 10 [.agg [.int .i64 n, a]] σ = .ret (.bool (rightB n A)) σ' ∧ Keep σ σ' := by
  have key : ∃ v σ', call T1 lf (m + 3) 10 [.agg [.int .i64 n, a]] σ = .ret v σ' ∧ (v = .bool (rightB n A) ∧ Keep σ σ') := by
    refine call_rt1 (p := pk 2) rfl c10_at (by simp [c10]) rfl fun cf hcf => ?_
    generalize hτ : bindArgs [.agg [.int .i64 n, a]] .h .lf = τ0
    have h0 : τ0.get (pk 0) = some (.agg [.int .i64 n, a]) := by rw [← hτ]; rfl
    clear hτ
    have hKa := Keep.new σ (.cells 25 [.int .i64 n, a] 0 0 (some 0) [])
    have ga := (Keep.refl (σ.new (.cells 25 [.int .i64 n, a] 0 0 (some 0) []))).at
    have l0 := ld20 ga
    have l1 := ld21 ga
    have ha1 := ha.keep hw hKa
    have hw1 := hKa.2.2 hw
    have kN := nlen_call (lf := lf) (m := m) ha1 hA hlf hl
    rw [← hcf] at kN
    generalize hσ1 : σ.new (.cells 25 [.int .i64 n, a] 0 0 (some 0) []) = σ1 at *
    by_cases h1 : 1 ≤ n
    · have d1 : decide (1 ≤ n) = true := by simpa using h1
      by_cases h2 : n ≤ 4096
      · have d2 : decide (n ≤ 4096) = true := by simpa using h2
        have hos : ((owe1 σ1 0 1 [] (.ptr σ.nx 0 0)).all (oweOk (σ1 :: [σ1]).reverse)) = true := by
          rw [owe_keepR ga hw1 (fun s h => by
            simp only [List.reverse_cons, List.reverse_nil, List.nil_append, List.cons_append, List.drop_zero, List.take_succ_cons, List.take_zero, List.mem_cons, List.not_mem_nil, or_false] at h
            rcases h with rfl | rfl
            · exact Keep.refl _
            · exact Keep.refl _)]
          rfl
        have eR : rightB n A = decide (((lenN (trimL A) : Nat) : Int) ≤ n) := by rw [rightB, d1, d2, Bool.true_and, Bool.true_and]
        simp only [c10, QU, oP, oR, oA, oH, oPn, oRn, oAn, oHn, bi, ld, ki, kt, kf, s_ops_nil, s_ops_cons, s_ops_nx, s_ops_pn, s_seq, s_seq_nx, s_seq_ex, s_seq_rt, s_skip, s_ret, s_exit, s_reg, s_cond, s_cond_t, s_cond_f, s_blk, s_blk_nx, s_blk_rt, s_blk_ex, s_put, s_P, s_R, s_A, s_A_some, s_C_ret, s_C_pan, s_H, s_H_ok, s_H_call, s_H_pan, s_gd, s_gd_bool, s_gd_undef, e_t, e_k, e_mv, e_pick, e_pick_b, e_bin, e_add_i64, e_add_i32, e_sub_i64, e_sub_u8, e_mul_i64, e_addU, e_mulU, e_addU32, e_mulU32, e_eql, e_neq, e_lss, e_leq, e_gtr, e_geq, e_str_eql, e_str_neq, e_iaddr, e_iaddr_int, e_lens, e_ld, e_extract, e_ex0, e_ex1, e_ex2, e_lenS, e_lenS_str, e_cii, e_cii_int, e_slsl_hm, e_sl2, e_slsl_h, e_sl1, e_slis, e_evL_nil, e_evL_cons, e_cons, e_call, e_callk, e_app, e_appk, e_store, e_stk, e_next, e_nextk, e_range, e_rangek, e_bs1, e_bs1i, e_bs0, e_mksl, e_mkslk, e_AK_sl, e_AK_it, e_AK_ptr, e_not, e_notb, e_xori, e_idxs, s_Hn, s_Hnk, s_Nx, s_Rt, s_NR_nx, s_NR_rt, s_NXT_nx, s_NXT_ex, s_NXT_rt, e_lenV_sl, e_lenV_nils, get_pk, k_bind, true_and, and_true, if_true, if_false, Bool.true_eq, beq_self_eq_true, reduceIte, Bool.false_eq_true, reduceCtorEq, bne_self_eq_false, Nat.reduceAdd, Nat.reduceLeDiff, Nat.reduceEqDiff, Nat.reduceSub, Nat.reduceBEq, Int.reduceBEq, Int.reduceNeg, Int.reduceLT, Int.reduceLE, Nat.succ_ne_self, Bool.not_true, Bool.not_false, Bool.true_beq, Bool.false_beq, decide_true, decide_false, exists_eq_left', Option.some.injEq, w_drw, w_nil, w_0, w_3, w_0nx, w_1s, w_1nx, w_1lk, w_1ls, w_2, w_2nx, w_1lT, e_box, e_box2, e_faddr, e_fadp, h0, hσ1, l0, l1, d1, d2, kN, hos, eR, ne_eq, not_false_eq_true, Nat.zero_ne_one]
        exact hKa
      · have d2 : decide (n ≤ 4096) = false := by simpa using h2
        have eR : rightB n A = false := by rw [rightB, d1, d2]; rfl
        simp only [c10, QU, oP, oR, oA, oH, oPn, oRn, oAn, oHn, bi, ld, ki, kt, kf, s_ops_nil, s_ops_cons, s_ops_nx, s_ops_pn, s_seq, s_seq_nx, s_seq_ex, s_seq_rt, s_skip, s_ret, s_exit, s_reg, s_cond, s_cond_t, s_cond_f, s_blk, s_blk_nx, s_blk_rt, s_blk_ex, s_put, s_P, s_R, s_A, s_A_some, s_C_ret, s_C_pan, s_H, s_H_ok, s_H_call, s_H_pan, s_gd, s_gd_bool, s_gd_undef, e_t, e_k, e_mv, e_pick, e_pick_b, e_bin, e_add_i64, e_add_i32, e_sub_i64, e_sub_u8, e_mul_i64, e_addU, e_mulU, e_addU32, e_mulU32, e_eql, e_neq, e_lss, e_leq, e_gtr, e_geq, e_str_eql, e_str_neq, e_iaddr, e_iaddr_int, e_lens, e_ld, e_extract, e_ex0, e_ex1, e_ex2, e_lenS, e_lenS_str, e_cii, e_cii_int, e_slsl_hm, e_sl2, e_slsl_h, e_sl1, e_slis, e_evL_nil, e_evL_cons, e_cons, e_call, e_callk, e_app, e_appk, e_store, e_stk, e_next, e_nextk, e_range, e_rangek, e_bs1, e_bs1i, e_bs0, e_mksl, e_mkslk, e_AK_sl, e_AK_it, e_AK_ptr, e_not, e_notb, e_xori, e_idxs, s_Hn, s_Hnk, s_Nx, s_Rt, s_NR_nx, s_NR_rt, s_NXT_nx, s_NXT_ex, s_NXT_rt, e_lenV_sl, e_lenV_nils, get_pk, k_bind, true_and, and_true, if_true, if_false, Bool.true_eq, beq_self_eq_true, reduceIte, Bool.false_eq_true, reduceCtorEq, bne_self_eq_false, Nat.reduceAdd, Nat.reduceLeDiff, Nat.reduceEqDiff, Nat.reduceSub, Nat.reduceBEq, Int.reduceBEq, Int.reduceNeg, Int.reduceLT, Int.reduceLE, Nat.succ_ne_self, Bool.not_true, Bool.not_false, Bool.true_beq, Bool.false_beq, decide_true, decide_false, exists_eq_left', Option.some.injEq, w_drw, w_nil, w_0, w_3, w_0nx, w_1s, w_1nx, w_1lk, w_1ls, w_2, w_2nx, w_1lF, e_box, e_box2, e_faddr, e_fadp, h0, hσ1, l0, l1, d1, d2, eR, List.all_nil, ne_eq, not_false_eq_true, Nat.zero_ne_one]
        exact hKa
    · have d1 : decide (1 ≤ n) = false := by simpa using h1
      have eR : rightB n A = false := by rw [rightB, d1]; rfl
      simp only [c10, QU, oP, oR, oA, oH, oPn, oRn, oAn, oHn, bi, ld, ki, kt, kf, s_ops_nil, s_ops_cons, s_ops_nx, s_ops_pn, s_seq, s_seq_nx, s_seq_ex, s_seq_rt, s_skip, s_ret, s_exit, s_reg, s_cond, s_cond_t, s_cond_f, s_blk, s_blk_nx, s_blk_rt, s_blk_ex, s_put, s_P, s_R, s_A, s_A_some, s_C_ret, s_C_pan, s_H, s_H_ok, s_H_call, s_H_pan, s_gd, s_gd_bool, s_gd_undef, e_t, e_k, e_mv, e_pick, e_pick_b, e_bin, e_add_i64, e_add_i32, e_sub_i64, e_sub_u8, e_mul_i64, e_addU, e_mulU, e_addU32, e_mulU32, e_eql, e_neq, e_lss, e_leq, e_gtr, e_geq, e_str_eql, e_str_neq, e_iaddr, e_iaddr_int, e_lens, e_ld, e_extract, e_ex0, e_ex1, e_ex2, e_lenS, e_lenS_str, e_cii, e_cii_int, e_slsl_hm, e_sl2, e_slsl_h, e_sl1, e_slis, e_evL_nil, e_evL_cons, e_cons, e_call, e_callk, e_app, e_appk, e_store, e_stk, e_next, e_nextk, e_range, e_rangek, e_bs1, e_bs1i, e_bs0, e_mksl, e_mkslk, e_AK_sl, e_AK_it, e_AK_ptr, e_not, e_notb, e_xori, e_idxs, s_Hn, s_Hnk, s_Nx, s_Rt, s_NR_nx, s_NR_rt, s_NXT_nx, s_NXT_ex, s_NXT_rt, e_lenV_sl, e_lenV_nils, get_pk, k_bind, true_and, and_true, if_true, if_false, Bool.true_eq, beq_self_eq_true, reduceIte, Bool.false_eq_true, reduceCtorEq, bne_self_eq_false, Nat.reduceAdd, Nat.reduceLeDiff, Nat.reduceEqDiff, Nat.reduceSub, Nat.reduceBEq, Int.reduceBEq, Int.reduceNeg, Int.reduceLT, Int.reduceLE, Nat.succ_ne_self, Bool.not_true, Bool.not_false, Bool.true_beq, Bool.false_beq, decide_true, decide_false, exists_eq_left', Option.some.injEq, w_drw, w_nil, w_0, w_3, w_0nx, w_1s, w_1nx, w_1lk, w_1ls, w_2, w_2nx, w_1lF, e_box, e_box2, e_faddr, e_fadp, h0, hσ1, l0, l1, d1, eR, List.all_nil, ne_eq, not_false_eq_true, Nat.zero_ne_one]
      exact hKa
  obtain ⟨v, σ', h1, rfl, h2⟩ := key
  exact ⟨σ', h1, h2⟩

theorem c24_at : T1.code 24 = some c24 := by kernel_rfl
/-- u -/
theorem u_call {lf m : Nat} {σ : H} (hw : WfH σ) {a : V} {A : List Nat} {n : Int} (ha : U σ a A) (hlf : A.length < lf) (hl : A.length < 17592186048512) :
    ∃ v σ', call T1 lf (m + 4) 24 [.agg [.int .i64 n, a]] σ = .ret (.agg [.bool false, v]) σ' ∧ Keep σ σ' ∧ U σ' v (trimL A) := by
  have key : ∃ u v σ', call T1 lf (m + 4) 24 [.agg [.int .i64 n, a]] σ = .ret (.agg [u, v]) σ' ∧ (u = .bool false ∧ Keep σ σ' ∧ U σ' v (trimL A)) := by
    refine call_rc (p := pk 2) rfl c24_at (by simp [c24]) rfl fun cf hcf => ?_
    generalize hτ : bindArgs [.agg [.int .i64 n, a]] .h .lf = τ0
    have h0 : τ0.get (pk 0) = some (.agg [.int .i64 n, a]) := by rw [← hτ]; rfl
    clear hτ
    have hKa := Keep.new σ (.cells 25 [.int .i64 n, a] 0 0 (some 0) [])
    have hKb := Keep.new (σ.new (.cells 25 [.int .i64 n, a] 0 0 (some 0) [])) (.cells 38 [.bool false, .nils] 0 0 (some 0) [])
    have ga := hKb.at
    have l1 := ld21 ga
    have hw2 := (hKa.trans hKb).2.2 hw
    have ha2 := ha.keep hw (hKa.trans hKb)
    have hl2 := trimL_le A
    obtain ⟨v, σ3, k1, k2, k3⟩ := wnorm_call (lf := lf) (m := m) (b := false) hw2 ha2 hlf (by omega) (by omega)
    rw [show sgn false (trimL A) = false from rfl] at k1
    rw [← hcf] at k1
    obtain ⟨σf, f1, f2, f3, f4⟩ := fin_cell (σ := σ.new (.cells 25 [.int .i64 n, a] 0 0 (some 0) [])) (f := wd) (ty := 38) (a := .bool false) (b := .nils) (v := .bool false) (w := v) (fun n => wd_neB n false) wd_neN k2 rfl k3.one_v
    simp only [c24, QU, oP, oR, oA, oH, oPn, oRn, oAn, oHn, bi, ld, ki, kt, kf, s_ops_nil, s_ops_cons, s_ops_nx, s_ops_pn, s_seq, s_seq_nx, s_seq_ex, s_seq_rt, s_skip, s_ret, s_exit, s_reg, s_cond, s_cond_t, s_cond_f, s_blk, s_blk_nx, s_blk_rt, s_blk_ex, s_put, s_P, s_R, s_A, s_A_some, s_C_ret, s_C_pan, s_H, s_H_ok, s_H_call, s_H_pan, s_gd, s_gd_bool, s_gd_undef, e_t, e_k, e_mv, e_pick, e_pick_b, e_bin, e_add_i64, e_add_i32, e_sub_i64, e_sub_u8, e_mul_i64, e_addU, e_mulU, e_addU32, e_mulU32, e_eql, e_neq, e_lss, e_leq, e_gtr, e_geq, e_str_eql, e_str_neq, e_iaddr, e_iaddr_int, e_lens, e_ld, e_extract, e_ex0, e_ex1, e_ex2, e_lenS, e_lenS_str, e_cii, e_cii_int, e_slsl_hm, e_sl2, e_slsl_h, e_sl1, e_slis, e_evL_nil, e_evL_cons, e_cons, e_call, e_callk, e_app, e_appk, e_store, e_stk, e_next, e_nextk, e_range, e_rangek, e_bs1, e_bs1i, e_bs0, e_mksl, e_mkslk, e_AK_sl, e_AK_it, e_AK_ptr, e_not, e_notb, e_xori, e_idxs, s_Hn, s_Hnk, s_Nx, s_Rt, s_NR_nx, s_NR_rt, s_NXT_nx, s_NXT_ex, s_NXT_rt, e_lenV_sl, e_lenV_nils, get_pk, k_bind, true_and, and_true, if_true, if_false, Bool.true_eq, beq_self_eq_true, reduceIte, Bool.false_eq_true, reduceCtorEq, bne_self_eq_false, Nat.reduceAdd, Nat.reduceLeDiff, Nat.reduceEqDiff, Nat.reduceSub, Nat.reduceBEq, Int.reduceBEq, Int.reduceNeg, Int.reduceLT, Int.reduceLE, Nat.succ_ne_self, Bool.not_true, Bool.not_false, Bool.true_beq, Bool.false_beq, decide_true, decide_false, exists_eq_left', Option.some.injEq, e_box, e_box2, e_alloc, e_faddr, e_fadp, e_build21, kB21, ha.cells1, List.length_singleton, h0, l1, k1, f1]
    exact ⟨_, _, _, rfl, f2, rfl, hKa.trans f3, f4 _ _ k3⟩
  obtain ⟨u, v, σ', h1, rfl, h2⟩ := key
  exact ⟨v, σ', h1, h2⟩
end Go.Proofs.YtahgfodccndcjaaGreatEng

namespace Go.Proofs.YtahgfodccndcjaaGreatEng
open Go
set_option maxRecDepth 100000
set_option linter.unusedSimpArgs false

theorem getD_le_val : ∀ (L : List Nat) (j : Nat), L.getD j 0 ≤ val L
  | [], j => by simp
  | x :: L, 0 => by
    have h : val (x :: L) = x + WW * val L := rfl
    rw [h, List.getD_cons_zero]; omega
  | x :: L, j + 1 => by
    have h : val (x :: L) = x + WW * val L := rfl
    have h1 := getD_le_val L j
    have h2 : 1 * val L ≤ WW * val L := Nat.mul_le_mul_right _ (by decide)
    rw [h, List.getD_cons_succ]; omega
theorem bitL_pos {A : List Nat} {i : Nat} (h : bitL A i = true) : 0 < val A := by
  unfold bitL at h
  split at h
  · have h1 := getD_le_val A (i / 64)
    by_cases hz : A.getD (i / 64) 0 = 0
    · rw [hz] at h
      simp at h
    · omega
  · cases h
/-- what s answers -/
def SOut (w : Nat) (A : List Nat) (b : Bool) (D : List Nat) : Prop :=
  wok D ∧ trimd D ∧ val D < 2 ^ w ∧ ((b = false ∧ val D = val A) ∨ (b = true ∧ 0 < val D ∧ val D + val A = 2 ^ w))
theorem trimL_trimL (A : List Nat) : trimL (trimL A) = trimL A := trimL_id (trimL_trimd A)
theorem sdiff {w : Nat} {A : List Nat} (hA : wok A) (h : val A < 2 ^ w) : val (trimL (subL (trimL (trimL (PWr w))) (trimL (trimL A)))) = 2 ^ w - val A := by
  rw [trimL_trimL, trimL_trimL, trimL_val]
  have h1 : val (trimL A) < val (trimL (PWr w)) := by rw [trimL_val, trimL_val, PWr_val]; exact h
  rw [subL_val (trimL_ok (PWr_ok w)) (trimL_ok hA) (Nat.le_of_lt h1) (len_le (trimL_trimd A) (trimL_ok (PWr_ok w)) h1), trimL_val, trimL_val, PWr_val]

theorem c25_s : T1.code 25 = some c25 := by kernel_rfl
/-- s -/
theorem s_call {lf m : Nat} {σ : H} (hw : WfH σ) {a : V} {A : List Nat} {w : Nat} (h1w : 1 ≤ w) (hwn : w ≤ 4096) (ha : U σ a A) (hA : wok A) (hv : val A < 2 ^ w) (hlf : A.length < lf) (hlf2 : 80 < lf) (hl : A.length < 17592186048512) :
    ∃ b D v σ', call T1 lf (m + 7) 25 [.agg [.int .i64 w, a]] σ = .ret (.agg [.bool b, v]) σ' ∧ Keep σ σ' ∧ U σ' v D ∧ SOut w A b D := by
  have key : ∃ u v σ', call T1 lf (m + 7) 25 [.agg [.int .i64 w, a]] σ = .ret (.agg [u, v]) σ' ∧ (∃ b D, u = .bool b ∧ Keep σ σ' ∧ U σ' v D ∧ SOut w A b D) := by
    refine call_rc (p := pk 2) rfl c25_s (by simp [c25]) rfl fun cf hcf => ?_
    generalize hτ : bindArgs [.agg [.int .i64 w, a]] .h .lf = τ0
    have h0 : τ0.get (pk 0) = some (.agg [.int .i64 w, a]) := by rw [← hτ]; rfl
    clear hτ
    have hKa := Keep.new σ (.cells 25 [.int .i64 w, a] 0 0 (some 0) [])
    have hKb := Keep.new (σ.new (.cells 25 [.int .i64 w, a] 0 0 (some 0) [])) (.cells 38 [.bool false, .nils] 0 0 (some 0) [])
    have ga := hKb.at
    generalize hσ1 : σ.new (.cells 25 [.int .i64 w, a] 0 0 (some 0) []) = σ1 at *
    have gb := (Keep.refl (σ1.new (.cells 38 [.bool false, .nils] 0 0 (some 0) []))).at
    have l0 := ld20 ga
    have l1 := ld21 ga
    have lG := ldg2 ga
    have hw1 := hKa.2.2 hw
    have hw2 := hKb.2.2 hw1
    have ha2 := ha.keep hw (hKa.trans hKb)
    have wS : IntKind.i64.wrap ((w : Int) - 1) = ((w - 1 : Nat) : Int) := wrap_sub (by omega) (by omega)
    have kB := nbit_call (lf := lf) (m := m + 5) (i := w - 1) ha2 hA (by omega)
    have hltA := trimL_le A
    cases hb : bitL A (w - 1) with
    | false =>
      rw [hb] at kB
      obtain ⟨v, σ3, k1, k2, k3⟩ := u_call (lf := lf) (m := m + 2) (n := w) hw2 ha2 hlf hl
      rw [← hcf] at kB k1
      obtain ⟨σf, f1, f2, f3, f4⟩ := fin_cell (σ := σ1) (f := wd) (ty := 38) (a := .bool false) (b := .nils) (v := .bool false) (w := v) (fun n => wd_neB n false) wd_neN k2 rfl k3.one_v
      generalize hσ2 : σ1.new (.cells 38 [.bool false, .nils] 0 0 (some 0) []) = σ2 at *
      simp only [c25, QU, oP, oR, oA, oH, oPn, oRn, oAn, oHn, bi, ld, ki, kt, kf, s_ops_nil, s_ops_cons, s_ops_nx, s_ops_pn, s_seq, s_seq_nx, s_seq_ex, s_seq_rt, s_skip, s_ret, s_exit, s_reg, s_cond, s_cond_t, s_cond_f, s_blk, s_blk_nx, s_blk_rt, s_blk_ex, s_put, s_P, s_R, s_A, s_A_some, s_C_ret, s_C_pan, s_H, s_H_ok, s_H_call, s_H_pan, s_gd, s_gd_bool, s_gd_undef, e_t, e_k, e_mv, e_pick, e_pick_b, e_bin, e_add_i64, e_add_i32, e_sub_i64, e_sub_u8, e_mul_i64, e_addU, e_mulU, e_addU32, e_mulU32, e_eql, e_neq, e_lss, e_leq, e_gtr, e_geq, e_str_eql, e_str_neq, e_iaddr, e_iaddr_int, e_lens, e_ld, e_extract, e_ex0, e_ex1, e_ex2, e_lenS, e_lenS_str, e_cii, e_cii_int, e_slsl_hm, e_sl2, e_slsl_h, e_sl1, e_slis, e_evL_nil, e_evL_cons, e_cons, e_call, e_callk, e_app, e_appk, e_store, e_stk, e_next, e_nextk, e_range, e_rangek, e_bs1, e_bs1i, e_bs0, e_mksl, e_mkslk, e_AK_sl, e_AK_it, e_AK_ptr, e_not, e_notb, e_xori, e_idxs, s_Hn, s_Hnk, s_Nx, s_Rt, s_NR_nx, s_NR_rt, s_NXT_nx, s_NXT_ex, s_NXT_rt, e_lenV_sl, e_lenV_nils, get_pk, k_bind, true_and, and_true, if_true, if_false, Bool.true_eq, beq_self_eq_true, reduceIte, Bool.false_eq_true, reduceCtorEq, bne_self_eq_false, Nat.reduceAdd, Nat.reduceLeDiff, Nat.reduceEqDiff, Nat.reduceSub, Nat.reduceBEq, Int.reduceBEq, Int.reduceNeg, Int.reduceLT, Int.reduceLE, Nat.succ_ne_self, Bool.not_true, Bool.not_false, Bool.true_beq, Bool.false_beq, decide_true, decide_false, exists_eq_left', Option.some.injEq, lg, e_lg, e_box, e_box2, e_alloc, e_faddr, e_fadp, h0, hσ1, hσ2, l0, l1, lG, wS, kB, k1, f1]
      exact ⟨_, _, _, rfl, f2, _, _, rfl, hKa.trans f3, f4 _ _ k3, trimL_ok hA, trimL_trimd A, by rw [trimL_val]; exact hv, .inl ⟨rfl, trimL_val A⟩⟩
    | true =>
      rw [hb] at kB
      have hpos := bitL_pos hb
      generalize hσ2 : σ1.new (.cells 38 [.bool false, .nils] 0 0 (some 0) []) = σ2 at *
      have hKc := Keep.new σ2 (.cells 38 [.bool false, .nils] 0 0 (some 0) [])
      have gc := (Keep.refl (σ2.new (.cells 38 [.bool false, .nils] 0 0 (some 0) []))).at
      have hw3 := hKc.2.2 hw2
      have ha3 := ha2.keep hw2 hKc
      have hx12 : σ1.nx.toNat < σ2.nx.toNat := hw2 _ _ gb
      generalize hσ3 : σ2.new (.cells 38 [.bool false, .nils] 0 0 (some 0) []) = σ3 at *
      obtain ⟨v1, σ4, k1, k2, k3⟩ := u_call (lf := lf) (m := m + 2) (n := w) hw3 ha3 hlf hl
      have hw4 := k2.2.2 hw3
      obtain ⟨v2, σ5, k4, k5, k6⟩ := power_call (lf := lf) (m := m + 1) (w := w) hw4 hwn hlf2
      have hw5 := k5.2.2 hw4
      have hPl := PWr_len w
      have hPt := trimL_le (PWr w)
      have eA := trimL_val A
      have eP := trimL_val (PWr w)
      have ePv := PWr_val w
      have hlA : (trimL A).length ≤ (trimL (PWr w)).length := len_le (trimL_trimd A) (trimL_ok (PWr_ok w)) (by omega)
      obtain ⟨v3, σ6, k7, k8, k9⟩ := wsub_call (lf := lf) (m := m) hw5 (k3.keep hw4 k5) k6 (trimL_ok hA) (trimL_ok (PWr_ok w)) (by omega) (by omega) (by omega) (by omega) (by omega)
      have hD := sdiff hA hv
      have hDne : trimL (subL (trimL (trimL (PWr w))) (trimL (trimL A))) ≠ [] := by
        intro e
        rw [e] at hD
        have h0 : val ([] : List Nat) = 0 := rfl
        omega
      rw [sgn_true hDne] at k7
      rw [← hcf] at kB k1 k4 k7
      have kk := (k2.trans k5).trans k8
      have gc6 := kk.get_some hw3 gc
      have gb6 := (hKc.trans kk).get_some hw2 gb
      have t1 := st2 (v := .bool true) (w := v3) gc6 rfl k9.one_v
      have hne : σ1.nx ≠ σ2.nx := by
        intro e
        rw [e] at hx12
        omega
      have gb7 : (σ6.put σ2.nx (.cells 38 [.bool true, v3] 0 0 (some 0) [])).get σ1.nx = some (.cells 38 [.bool false, .nils] 0 0 (some 0) []) := by
        rw [H.get_put, if_neg hne]; exact gb6
      have gc7 : (σ6.put σ2.nx (.cells 38 [.bool true, v3] 0 0 (some 0) [])).get σ2.nx = some (.cells 38 [.bool true, v3] 0 0 (some 0) []) := by rw [H.get_put, if_pos rfl]
      have hK27 : Keep σ2 (σ6.put σ2.nx (.cells 38 [.bool true, v3] 0 0 (some 0) [])) := (hKc.trans kk).put (Nat.le_refl _) (kk.2.2 hw3 _ _ gc6) _
      have y7 := UG.put_var (v := .bool true) (w := v3) (fun n => wd_neB n false) wd_neN gc6 k9
      have hx7 : σ1.nx.toNat < (σ6.put σ2.nx (.cells 38 [.bool true, v3] 0 0 (some 0) [])).nx.toNat := hK27.2.2 hw2 _ _ gb7
      have hos : ((owe1 σ2 0 1 [] (.ptr σ.nx 0 0)).all (oweOk ((σ6.put σ2.nx (.cells 38 [.bool true, v3] 0 0 (some 0) [])) :: [σ6, σ5, σ4, σ3]).reverse)) = true := by
        rw [owe_keepR ga hw2 (fun s h => by
          simp only [List.reverse_cons, List.reverse_nil, List.nil_append, List.cons_append, List.drop_zero, List.take_succ_cons, List.take_zero, List.mem_cons, List.not_mem_nil, or_false] at h
          rcases h with rfl | rfl
          · exact hKc
          · exact hKc.trans k2)]
        rfl
      generalize hσ7 : σ6.put σ2.nx (.cells 38 [.bool true, v3] 0 0 (some 0) []) = σ7 at *
      have lT := ldg2 gc7
      have t2 := st2 (v := .bool true) (w := v3) gb7 rfl k9.one_v
      have gb8 : blkCells (σ7.put σ1.nx (.cells 38 [.bool true, v3] 0 0 (some 0) [])) σ1.nx 0 = some [.bool true, v3] := blk_get (by rw [H.get_put, if_pos rfl])
      have hK18 := (hKb.trans hK27).put (Nat.le_refl _) hx7 (.cells 38 [.bool true, v3] 0 0 (some 0) [])
      have y8 := UG.put_var (v := .bool true) (w := v3) (fun n => wd_neB n false) wd_neN gb7 y7
      generalize hσ8 : σ7.put σ1.nx (.cells 38 [.bool true, v3] 0 0 (some 0) []) = σ8 at *
      simp only [c25, QU, oP, oR, oA, oH, oPn, oRn, oAn, oHn, bi, ld, ki, kt, kf, s_ops_nil, s_ops_cons, s_ops_nx, s_ops_pn, s_seq, s_seq_nx, s_seq_ex, s_seq_rt, s_skip, s_ret, s_exit, s_reg, s_cond, s_cond_t, s_cond_f, s_blk, s_blk_nx, s_blk_rt, s_blk_ex, s_put, s_P, s_R, s_A, s_A_some, s_C_ret, s_C_pan, s_H, s_H_ok, s_H_call, s_H_pan, s_gd, s_gd_bool, s_gd_undef, e_t, e_k, e_mv, e_pick, e_pick_b, e_bin, e_add_i64, e_add_i32, e_sub_i64, e_sub_u8, e_mul_i64, e_addU, e_mulU, e_addU32, e_mulU32, e_eql, e_neq, e_lss, e_leq, e_gtr, e_geq, e_str_eql, e_str_neq, e_iaddr, e_iaddr_int, e_lens, e_ld, e_extract, e_ex0, e_ex1, e_ex2, e_lenS, e_lenS_str, e_cii, e_cii_int, e_slsl_hm, e_sl2, e_slsl_h, e_sl1, e_slis, e_evL_nil, e_evL_cons, e_cons, e_call, e_callk, e_app, e_appk, e_store, e_stk, e_next, e_nextk, e_range, e_rangek, e_bs1, e_bs1i, e_bs0, e_mksl, e_mkslk, e_AK_sl, e_AK_it, e_AK_ptr, e_not, e_notb, e_xori, e_idxs, s_Hn, s_Hnk, s_Nx, s_Rt, s_NR_nx, s_NR_rt, s_NXT_nx, s_NXT_ex, s_NXT_rt, e_lenV_sl, e_lenV_nils, get_pk, k_bind, true_and, and_true, if_true, if_false, Bool.true_eq, beq_self_eq_true, reduceIte, Bool.false_eq_true, reduceCtorEq, bne_self_eq_false, Nat.reduceAdd, Nat.reduceLeDiff, Nat.reduceEqDiff, Nat.reduceSub, Nat.reduceBEq, Int.reduceBEq, Int.reduceNeg, Int.reduceLT, Int.reduceLE, Nat.succ_ne_self, Bool.not_true, Bool.not_false, Bool.true_beq, Bool.false_beq, decide_true, decide_false, exists_eq_left', Option.some.injEq, w_drw, w_nil, w_0, w_3, w_0nx, w_1s, w_1nx, w_1lk, w_1ls, w_2, w_2nx, w_1l, lg, e_lg, e_box, e_box2, e_alloc, e_faddr, e_fadp, h0, hσ1, hσ2, hσ3, l0, l1, lG, wS, kB, k1, k4, k7, t1, lT, t2, hσ7, hσ8, hos, ne_eq, not_false_eq_true, Nat.zero_ne_one]
      exact ⟨_, _, _, rfl, gb8, _, _, rfl, hKa.trans hK18, y8, trimL_ok (subL_ok _ _), trimL_trimd _, by omega, .inr ⟨rfl, by omega, by omega⟩⟩
  obtain ⟨u, v, σ', h1, b, D, rfl, h2⟩ := key
  exact ⟨b, D, v, σ', h1, h2⟩
end Go.Proofs.YtahgfodccndcjaaGreatEng

namespace Go.Proofs.YtahgfodccndcjaaGreatEng
open Go
set_option maxRecDepth 100000
set_option linter.unusedSimpArgs false

theorem c11_u : T1.code 11 = some c11 := by kernel_rfl
theorem c12_s : T1.code 12 = some c12 := by kernel_rfl
/-- Unsigned, of a vector -/
theorem unsigned_call {lf m : Nat} {σ : H} (hw : WfH σ) {a : V} {A : List Nat} {n : Int} (ha : U σ a A) (hA : wok A) (hr : rightB n A = true) (hlf : A.length < lf) (hl : A.length < 17592186048512) :
    ∃ v σ', call T1 lf (m + 5) 11 [.agg [.int .i64 n, a]] σ = .ret (.tup [.agg [.bool false, v], .int .i64 0]) σ' ∧ Keep σ σ' ∧ U σ' v (trimL A) := by
  have key : ∃ u v e σ', call T1 lf (m + 5) 11 [.agg [.int .i64 n, a]] σ = .ret (.tup [.agg [u, v], e]) σ' ∧ (u = .bool false ∧ e = .int .i64 0 ∧ Keep σ σ' ∧ U σ' v (trimL A)) := by
    refine call_rtc (p := pk 2) (q := pk 3) rfl c11_u (by simp [c11]) rfl fun cf hcf => ?_
    generalize hτ : bindArgs [.agg [.int .i64 n, a]] .h .lf = τ0
    have h0 : τ0.get (pk 0) = some (.agg [.int .i64 n, a]) := by rw [← hτ]; rfl
    clear hτ
    have hKa := Keep.new σ (.cells 25 [.int .i64 n, a] 0 0 (some 0) [])
    have hKb := Keep.new (σ.new (.cells 25 [.int .i64 n, a] 0 0 (some 0) [])) (.cells 38 [.bool false, .nils] 0 0 (some 0) [])
    have ga := hKb.at
    generalize hσ1 : σ.new (.cells 25 [.int .i64 n, a] 0 0 (some 0) []) = σ1 at *
    have lG := ldg2 ga
    have hw2 := (hKa.trans hKb).2.2 hw
    have ha2 := ha.keep hw (hKa.trans hKb)
    obtain ⟨σ3, k1, k2⟩ := right_call (lf := lf) (m := m + 1) (n := n) hw2 ha2 hA hlf hl
    rw [hr] at k1
    have hw3 := k2.2.2 hw2
    have lG3 := ldg2 (k2.get_some hw2 ga)
    obtain ⟨v, σ4, k3, k4, k5⟩ := u_call (lf := lf) (m := m) (n := n) hw3 (ha2.keep hw2 k2) hlf hl
    rw [← hcf] at k1 k3
    obtain ⟨σf, f1, f2, f3, f4⟩ := fin_cell (σ := σ1) (f := wd) (ty := 38) (a := .bool false) (b := .nils) (v := .bool false) (w := v) (fun n => wd_neB n false) wd_neN (k2.trans k4) rfl k5.one_v
    generalize hσ2 : σ1.new (.cells 38 [.bool false, .nils] 0 0 (some 0) []) = σ2 at *
    simp only [c11, QU, oP, oR, oA, oH, oPn, oRn, oAn, oHn, bi, ld, ki, kt, kf, s_ops_nil, s_ops_cons, s_ops_nx, s_ops_pn, s_seq, s_seq_nx, s_seq_ex, s_seq_rt, s_skip, s_ret, s_exit, s_reg, s_cond, s_cond_t, s_cond_f, s_blk, s_blk_nx, s_blk_rt, s_blk_ex, s_put, s_P, s_R, s_A, s_A_some, s_C_ret, s_C_pan, s_H, s_H_ok, s_H_call, s_H_pan, s_gd, s_gd_bool, s_gd_undef, e_t, e_k, e_mv, e_pick, e_pick_b, e_bin, e_add_i64, e_add_i32, e_sub_i64, e_sub_u8, e_mul_i64, e_addU, e_mulU, e_addU32, e_mulU32, e_eql, e_neq, e_lss, e_leq, e_gtr, e_geq, e_str_eql, e_str_neq, e_iaddr, e_iaddr_int, e_lens, e_ld, e_extract, e_ex0, e_ex1, e_ex2, e_lenS, e_lenS_str, e_cii, e_cii_int, e_slsl_hm, e_sl2, e_slsl_h, e_sl1, e_slis, e_evL_nil, e_evL_cons, e_cons, e_call, e_callk, e_app, e_appk, e_store, e_stk, e_next, e_nextk, e_range, e_rangek, e_bs1, e_bs1i, e_bs0, e_mksl, e_mkslk, e_AK_sl, e_AK_it, e_AK_ptr, e_not, e_notb, e_xori, e_idxs, s_Hn, s_Hnk, s_Nx, s_Rt, s_NR_nx, s_NR_rt, s_NXT_nx, s_NXT_ex, s_NXT_rt, e_lenV_sl, e_lenV_nils, get_pk, k_bind, true_and, and_true, if_true, if_false, Bool.true_eq, beq_self_eq_true, reduceIte, Bool.false_eq_true, reduceCtorEq, bne_self_eq_false, Nat.reduceAdd, Nat.reduceLeDiff, Nat.reduceEqDiff, Nat.reduceSub, Nat.reduceBEq, Int.reduceBEq, Int.reduceNeg, Int.reduceLT, Int.reduceLE, Nat.succ_ne_self, Bool.not_true, Bool.not_false, Bool.true_beq, Bool.false_beq, decide_true, decide_false, exists_eq_left', Option.some.injEq, lg, e_lg, e_box, e_box2, e_alloc, h0, hσ1, hσ2, lG, lG3, k1, k3, f1]
    exact ⟨_, _, _, _, rfl, f2, rfl, rfl, rfl, hKa.trans f3, f4 _ _ k5⟩
  obtain ⟨u, v, e, σ', h1, rfl, rfl, h2⟩ := key
  exact ⟨v, σ', h1, h2⟩
/-- Signed, of a vector -/
theorem signed9_call {lf m : Nat} {σ : H} (hw : WfH σ) {a : V} {A : List Nat} {w : Nat} (h1w : 1 ≤ w) (hwn : w ≤ 4096) (ha : U σ a A) (hA : wok A) (hr : rightB w A = true) (hv : val A < 2 ^ w) (hlf : A.length < lf) (hlf2 : 80 < lf) (hl : A.length < 17592186048512) :
    ∃ b D v σ', call T1 lf (m + 8) 12 [.agg [.int .i64 w, a]] σ = .ret (.tup [.agg [.bool b, v], .int .i64 0]) σ' ∧ Keep σ σ' ∧ U σ' v D ∧ SOut w A b D := by
  have key : ∃ u v e σ', call T1 lf (m + 8) 12 [.agg [.int .i64 w, a]] σ = .ret (.tup [.agg [u, v], e]) σ' ∧ (∃ b D, u = .bool b ∧ e = .int .i64 0 ∧ Keep σ σ' ∧ U σ' v D ∧ SOut w A b D) := by
    refine call_rtc (p := pk 2) (q := pk 3) rfl c12_s (by simp [c12]) rfl fun cf hcf => ?_
    generalize hτ : bindArgs [.agg [.int .i64 w, a]] .h .lf = τ0
    have h0 : τ0.get (pk 0) = some (.agg [.int .i64 w, a]) := by rw [← hτ]; rfl
    clear hτ
    have hKa := Keep.new σ (.cells 25 [.int .i64 w, a] 0 0 (some 0) [])
    have hKb := Keep.new (σ.new (.cells 25 [.int .i64 w, a] 0 0 (some 0) [])) (.cells 38 [.bool false, .nils] 0 0 (some 0) [])
    have ga := hKb.at
    generalize hσ1 : σ.new (.cells 25 [.int .i64 w, a] 0 0 (some 0) []) = σ1 at *
    have lG := ldg2 ga
    have hw2 := (hKa.trans hKb).2.2 hw
    have ha2 := ha.keep hw (hKa.trans hKb)
    obtain ⟨σ3, k1, k2⟩ := right_call (lf := lf) (m := m + 4) (n := w) hw2 ha2 hA hlf hl
    rw [hr] at k1
    have hw3 := k2.2.2 hw2
    have lG3 := ldg2 (k2.get_some hw2 ga)
    obtain ⟨b, D, v, σ4, k3, k4, k5, k6⟩ := s_call (lf := lf) (m := m) hw3 h1w hwn (ha2.keep hw2 k2) hA hv hlf hlf2 hl
    rw [← hcf] at k1 k3
    obtain ⟨σf, f1, f2, f3, f4⟩ := fin_cell (σ := σ1) (f := wd) (ty := 38) (a := .bool false) (b := .nils) (v := .bool b) (w := v) (fun n => wd_neB n false) wd_neN (k2.trans k4) rfl k5.one_v
    generalize hσ2 : σ1.new (.cells 38 [.bool false, .nils] 0 0 (some 0) []) = σ2 at *
    simp only [c12, QU, oP, oR, oA, oH, oPn, oRn, oAn, oHn, bi, ld, ki, kt, kf, s_ops_nil, s_ops_cons, s_ops_nx, s_ops_pn, s_seq, s_seq_nx, s_seq_ex, s_seq_rt, s_skip, s_ret, s_exit, s_reg, s_cond, s_cond_t, s_cond_f, s_blk, s_blk_nx, s_blk_rt, s_blk_ex, s_put, s_P, s_R, s_A, s_A_some, s_C_ret, s_C_pan, s_H, s_H_ok, s_H_call, s_H_pan, s_gd, s_gd_bool, s_gd_undef, e_t, e_k, e_mv, e_pick, e_pick_b, e_bin, e_add_i64, e_add_i32, e_sub_i64, e_sub_u8, e_mul_i64, e_addU, e_mulU, e_addU32, e_mulU32, e_eql, e_neq, e_lss, e_leq, e_gtr, e_geq, e_str_eql, e_str_neq, e_iaddr, e_iaddr_int, e_lens, e_ld, e_extract, e_ex0, e_ex1, e_ex2, e_lenS, e_lenS_str, e_cii, e_cii_int, e_slsl_hm, e_sl2, e_slsl_h, e_sl1, e_slis, e_evL_nil, e_evL_cons, e_cons, e_call, e_callk, e_app, e_appk, e_store, e_stk, e_next, e_nextk, e_range, e_rangek, e_bs1, e_bs1i, e_bs0, e_mksl, e_mkslk, e_AK_sl, e_AK_it, e_AK_ptr, e_not, e_notb, e_xori, e_idxs, s_Hn, s_Hnk, s_Nx, s_Rt, s_NR_nx, s_NR_rt, s_NXT_nx, s_NXT_ex, s_NXT_rt, e_lenV_sl, e_lenV_nils, get_pk, k_bind, true_and, and_true, if_true, if_false, Bool.true_eq, beq_self_eq_true, reduceIte, Bool.false_eq_true, reduceCtorEq, bne_self_eq_false, Nat.reduceAdd, Nat.reduceLeDiff, Nat.reduceEqDiff, Nat.reduceSub, Nat.reduceBEq, Int.reduceBEq, Int.reduceNeg, Int.reduceLT, Int.reduceLE, Nat.succ_ne_self, Bool.not_true, Bool.not_false, Bool.true_beq, Bool.false_beq, decide_true, decide_false, exists_eq_left', Option.some.injEq, lg, e_lg, e_box, e_box2, e_alloc, h0, hσ1, hσ2, lG, lG3, k1, k3, f1]
    exact ⟨_, _, _, _, rfl, f2, rfl, _, _, rfl, rfl, hKa.trans f3, f4 _ _ k5, k6⟩
  obtain ⟨u, v, e, σ', h1, b, D, rfl, rfl, h2⟩ := key
  exact ⟨b, D, v, σ', h1, h2⟩

theorem c37_at : T1.code 37 = some c37 := by kernel_rfl
/-- of -/
theorem bof_call {lf m : Nat} {σ : H} (hw : WfH σ) {d : V} {D : List Nat} {b : Bool} {w : Nat} (hwn : w ≤ 4096) (hd : U σ d D) (hD : wok D) (hv : val D < 2 ^ w) (hlD : D.length ≤ 4096) (hlf : 5000 < lf) :
    ∃ v σ', call T1 lf (m + 7) 37 [.int .i64 w, .agg [.bool b, d]] σ = .ret (.agg [.int .i64 w, v]) σ' ∧ Keep σ σ' ∧ U σ' v (modL b (trimL D) (trimL (trimL (PWr w)))) := by
  have key : ∃ u v σ', call T1 lf (m + 7) 37 [.int .i64 w, .agg [.bool b, d]] σ = .ret (.agg [u, v]) σ' ∧ (u = .int .i64 w ∧ Keep σ σ' ∧ U σ' v (modL b (trimL D) (trimL (trimL (PWr w))))) := by
    refine call_rc (p := pk 4) rfl c37_at (by simp [c37]) rfl fun cf hcf => ?_
    generalize hτ : bindArgs [.int .i64 w, .agg [.bool b, d]] .h .lf = τ0
    have h0 : τ0.get (pk 0) = some (.int .i64 w) := by rw [← hτ]; rfl
    have h1 : τ0.get (pk 1) = some (.agg [.bool b, d]) := by rw [← hτ]; rfl
    clear hτ
    have hKa := Keep.new σ (.cells 38 [.bool b, d] 0 0 (some 0) [])
    have hKb := Keep.new (σ.new (.cells 38 [.bool b, d] 0 0 (some 0) [])) (.cells 25 [.int .i64 0, .nils] 0 0 (some 0) [])
    have ga := hKb.at
    generalize hσ1 : σ.new (.cells 38 [.bool b, d] 0 0 (some 0) []) = σ1 at *
    have gb := (Keep.refl (σ1.new (.cells 25 [.int .i64 0, .nils] 0 0 (some 0) []))).at
    have lG := ldg2 ga
    have hw1 := hKa.2.2 hw
    have hw2 := hKb.2.2 hw1
    have hd2 := hd.keep hw (hKa.trans hKb)
    generalize hσ2 : σ1.new (.cells 25 [.int .i64 0, .nils] 0 0 (some 0) []) = σ2 at *
    have hKc := Keep.new σ2 (.cells 38 [.bool false, .nils] 0 0 (some 0) [])
    have hKd := Keep.new (σ2.new (.cells 38 [.bool false, .nils] 0 0 (some 0) [])) (.cells 38 [.bool false, .nils] 0 0 (some 0) [])
    have hw4 := (hKc.trans hKd).2.2 hw2
    have hd4 := hd2.keep hw2 (hKc.trans hKd)
    obtain ⟨v1, σ5, k1, k2, k3⟩ := power_call (lf := lf) (m := m + 1) (w := w) hw4 hwn (by omega)
    have hw5 := k2.2.2 hw4
    have hPl := PWr_len w
    have hPt := trimL_le (PWr w)
    have eP := trimL_val (PWr w)
    have ePv := PWr_val w
    obtain ⟨z1, z2, v2, σ6, k4, o1, o2, k5, k6⟩ := divmod_call (lf := lf) (m := m) (x := b) hw5 (hd4.keep hw4 k2) k3 hD (trimL_ok (PWr_ok w)) (by omega) (by omega) (by omega) (by omega) (by omega) (by omega)
    obtain ⟨σ7, σ8, f1, f2, f3, f4, f5, f6⟩ := fin_cell2 (σ := σ2) (f := wd) (ty := 38) (a := .bool false) (b := .nils) (ty' := 38) (a' := .bool false) (b' := .nils) (v := z1) (w := z2) (v' := .bool false) (w' := v2) (fun n => wd_neB n false) wd_neN (fun n => wd_neB n false) wd_neN (k2.trans k5) o1 o2 rfl k6.one_v
    rw [← hcf] at k1 k4
    have l8 := ld21 f4
    have hos : ((owe1 σ2 0 1 [] (.ptr σ.nx 0 0)).all (oweOk (σ8 :: [σ7, σ6, σ5, (σ2.new (.cells 38 [.bool false, .nils] 0 0 (some 0) [])).new (.cells 38 [.bool false, .nils] 0 0 (some 0) [])]).reverse)) = true := by
      rw [owe_keepR ga hw2 (fun s h => by
        simp only [List.reverse_cons, List.reverse_nil, List.nil_append, List.cons_append, List.drop_zero, List.take_succ_cons, List.take_zero, List.mem_cons, List.not_mem_nil, or_false] at h
        rcases h with rfl | rfl
        · exact hKc.trans hKd
        · exact (hKc.trans hKd).trans k2)]
      rfl
    generalize hσ3 : σ2.new (.cells 38 [.bool false, .nils] 0 0 (some 0) []) = σ3 at *
    generalize hσ4 : σ3.new (.cells 38 [.bool false, .nils] 0 0 (some 0) []) = σ4 at *
    have y8 := f6 _ _ k6
    obtain ⟨σf, g1, g2, g3, g4⟩ := fin_cell (σ := σ1) (f := wd) (ty := 25) (a := .int .i64 0) (b := .nils) (v := .int .i64 w) (w := v2) (fun n => wd_neI n) wd_neN (hσ2 ▸ f5) rfl k6.one_v
    simp only [c37, QU, oP, oR, oA, oH, oPn, oRn, oAn, oHn, bi, ld, ki, kt, kf, s_ops_nil, s_ops_cons, s_ops_nx, s_ops_pn, s_seq, s_seq_nx, s_seq_ex, s_seq_rt, s_skip, s_ret, s_exit, s_reg, s_cond, s_cond_t, s_cond_f, s_blk, s_blk_nx, s_blk_rt, s_blk_ex, s_put, s_P, s_R, s_A, s_A_some, s_C_ret, s_C_pan, s_H, s_H_ok, s_H_call, s_H_pan, s_gd, s_gd_bool, s_gd_undef, e_t, e_k, e_mv, e_pick, e_pick_b, e_bin, e_add_i64, e_add_i32, e_sub_i64, e_sub_u8, e_mul_i64, e_addU, e_mulU, e_addU32, e_mulU32, e_eql, e_neq, e_lss, e_leq, e_gtr, e_geq, e_str_eql, e_str_neq, e_iaddr, e_iaddr_int, e_lens, e_ld, e_extract, e_ex0, e_ex1, e_ex2, e_lenS, e_lenS_str, e_cii, e_cii_int, e_slsl_hm, e_sl2, e_slsl_h, e_sl1, e_slis, e_evL_nil, e_evL_cons, e_cons, e_call, e_callk, e_app, e_appk, e_store, e_stk, e_next, e_nextk, e_range, e_rangek, e_bs1, e_bs1i, e_bs0, e_mksl, e_mkslk, e_AK_sl, e_AK_it, e_AK_ptr, e_not, e_notb, e_xori, e_idxs, s_Hn, s_Hnk, s_Nx, s_Rt, s_NR_nx, s_NR_rt, s_NXT_nx, s_NXT_ex, s_NXT_rt, e_lenV_sl, e_lenV_nils, get_pk, k_bind, true_and, and_true, if_true, if_false, Bool.true_eq, beq_self_eq_true, reduceIte, Bool.false_eq_true, reduceCtorEq, bne_self_eq_false, Nat.reduceAdd, Nat.reduceLeDiff, Nat.reduceEqDiff, Nat.reduceSub, Nat.reduceBEq, Int.reduceBEq, Int.reduceNeg, Int.reduceLT, Int.reduceLE, Nat.succ_ne_self, Bool.not_true, Bool.not_false, Bool.true_beq, Bool.false_beq, decide_true, decide_false, exists_eq_left', Option.some.injEq, w_drw, w_nil, w_0, w_3, w_0nx, w_1s, w_1nx, w_1lk, w_1ls, w_2, w_2nx, w_1g, w_1gk, lg, e_lg, e_box, e_box2, e_alloc, e_faddr, e_fadp, e_build2, kB2_one (show (V.int .i64 w).cells = [V.int .i64 w] from rfl) k6.cells1, h0, h1, hσ1, hσ2, hσ3, hσ4, lG, k1, k4, f1, f2, l8, g1, hos, ne_eq, not_false_eq_true, Nat.zero_ne_one]
    exact ⟨_, _, _, rfl, g2, rfl, hKa.trans g3, g4 _ _ y8⟩
  obtain ⟨u, v, σ', h1, rfl, h2⟩ := key
  exact ⟨v, σ', h1, h2⟩
end Go.Proofs.YtahgfodccndcjaaGreatEng

namespace Go.Proofs.YtahgfodccndcjaaGreatEng
open Go
set_option maxRecDepth 100000
set_option linter.unusedSimpArgs false

theorem c26_at9 : T1.code 26 = some c26 := by kernel_rfl
theorem c13_at9 : T1.code 13 = some c13 := by kernel_rfl
/-- low, of a number that fits -/
theorem low_call {lf m : Nat} {σ : H} (hw : WfH σ) {d : V} {D : List Nat} {b : Bool} {w : Nat} (hwn : w ≤ 4096) (hd : U σ d D) (hD : wok D) (hv : val D < 2 ^ w) (hlD : D.length ≤ (w + 63) / 64) (hlf : 5000 < lf) :
    ∃ v σ', call T1 lf (m + 8) 26 [.int .i64 w, .agg [.bool b, d]] σ = .ret (.agg [.int .i64 w, v]) σ' ∧ Keep σ σ' ∧ U σ' v (modL b (trimL D) (trimL (trimL (PWr w)))) := by
  have key : ∃ u v σ', call T1 lf (m + 8) 26 [.int .i64 w, .agg [.bool b, d]] σ = .ret (.agg [u, v]) σ' ∧ (u = .int .i64 w ∧ Keep σ σ' ∧ U σ' v (modL b (trimL D) (trimL (trimL (PWr w))))) := by
    refine call_rc (p := pk 4) rfl c26_at9 (by simp [c26]) rfl fun cf hcf => ?_
    generalize hτ : bindArgs [.int .i64 w, .agg [.bool b, d]] .h .lf = τ0
    have h0 : τ0.get (pk 0) = some (.int .i64 w) := by rw [← hτ]; rfl
    have h1 : τ0.get (pk 1) = some (.agg [.bool b, d]) := by rw [← hτ]; rfl
    clear hτ
    have hKa := Keep.new σ (.cells 38 [.bool b, d] 0 0 (some 0) [])
    have hKb := Keep.new (σ.new (.cells 38 [.bool b, d] 0 0 (some 0) [])) (.cells 25 [.int .i64 0, .nils] 0 0 (some 0) [])
    have ga := hKb.at
    generalize hσ1 : σ.new (.cells 38 [.bool b, d] 0 0 (some 0) []) = σ1 at *
    have l1 := ld21 ga
    have hw2 := (hKa.trans hKb).2.2 hw
    have hd2 := hd.keep hw (hKa.trans hKb)
    have wA : IntKind.i64.wrap ((w : Int) + 63) = ((w + 63 : Nat) : Int) := wrap_add (k := 63) (by omega)
    have eQ := fun q => e_quo64 q (w + 63) (by omega)
    obtain ⟨v1, σ3, k1, k3, k2⟩ := clonex_call (lf := lf) (m := m + 6) hd2 hw2 (by omega)
    have hw3 := k2.2.2 hw2
    have d1 : decide ((((w + 63) / 64 : Nat) : Int) < (D.length : Int)) = false := lt_false (by omega)
    have l0 := ld20 (k2.get_some hw2 ga)
    obtain ⟨v2, σ4, k4, k5, k6⟩ := bof_call (lf := lf) (m := m) (b := b) (w := w) hw3 hwn k3 hD hv (by omega) hlf
    rw [← hcf] at k1 k4
    obtain ⟨σf, f1, f2, f3, f4⟩ := fin_cell (σ := σ1) (f := wd) (ty := 25) (a := .int .i64 0) (b := .nils) (v := .int .i64 w) (w := v2) (fun n => wd_neI n) wd_neN (k2.trans k5) rfl k6.one_v
    generalize hσ2 : σ1.new (.cells 25 [.int .i64 0, .nils] 0 0 (some 0) []) = σ2 at *
    simp only [c26, QU, oP, oR, oA, oH, oPn, oRn, oAn, oHn, bi, ld, ki, kt, kf, s_ops_nil, s_ops_cons, s_ops_nx, s_ops_pn, s_seq, s_seq_nx, s_seq_ex, s_seq_rt, s_skip, s_ret, s_exit, s_reg, s_cond, s_cond_t, s_cond_f, s_blk, s_blk_nx, s_blk_rt, s_blk_ex, s_put, s_P, s_R, s_A, s_A_some, s_C_ret, s_C_pan, s_H, s_H_ok, s_H_call, s_H_pan, s_gd, s_gd_bool, s_gd_undef, e_t, e_k, e_mv, e_pick, e_pick_b, e_bin, e_add_i64, e_add_i32, e_sub_i64, e_sub_u8, e_mul_i64, e_addU, e_mulU, e_addU32, e_mulU32, e_eql, e_neq, e_lss, e_leq, e_gtr, e_geq, e_str_eql, e_str_neq, e_iaddr, e_iaddr_int, e_lens, e_ld, e_extract, e_ex0, e_ex1, e_ex2, e_lenS, e_lenS_str, e_cii, e_cii_int, e_slsl_hm, e_sl2, e_slsl_h, e_sl1, e_slis, e_evL_nil, e_evL_cons, e_cons, e_call, e_callk, e_app, e_appk, e_store, e_stk, e_next, e_nextk, e_range, e_rangek, e_bs1, e_bs1i, e_bs0, e_mksl, e_mkslk, e_AK_sl, e_AK_it, e_AK_ptr, e_not, e_notb, e_xori, e_idxs, s_Hn, s_Hnk, s_Nx, s_Rt, s_NR_nx, s_NR_rt, s_NXT_nx, s_NXT_ex, s_NXT_rt, e_lenV_sl, e_lenV_nils, get_pk, k_bind, true_and, and_true, if_true, if_false, Bool.true_eq, beq_self_eq_true, reduceIte, Bool.false_eq_true, reduceCtorEq, bne_self_eq_false, Nat.reduceAdd, Nat.reduceLeDiff, Nat.reduceEqDiff, Nat.reduceSub, Nat.reduceBEq, Int.reduceBEq, Int.reduceNeg, Int.reduceLT, Int.reduceLE, Nat.succ_ne_self, Bool.not_true, Bool.not_false, Bool.true_beq, Bool.false_beq, decide_true, decide_false, exists_eq_left', Option.some.injEq, lg, e_lg, e_box, e_box2, e_alloc, e_faddr, e_fadp, e_build2, kB2_one (show (V.bool b).cells = [V.bool b] from rfl) k3.cells1, h0, h1, hσ1, hσ2, wA, eQ, l0, l1, k1, k3.len, d1, k4, f1]
    exact ⟨_, _, _, rfl, f2, rfl, hKa.trans f3, f4 _ _ k6⟩
  obtain ⟨u, v, σ', h1, rfl, h2⟩ := key
  exact ⟨v, σ', h1, h2⟩
/-- From, of a number that fits -/
theorem from_call {lf m : Nat} {σ : H} (hw : WfH σ) {d : V} {D : List Nat} {b : Bool} {w : Nat} (h1w : 1 ≤ w) (hwn : w ≤ 4096) (hd : U σ d D) (hD : wok D) (hv : val D < 2 ^ w) (hlD : D.length ≤ (w + 63) / 64) (hlf : 5000 < lf) :
    ∃ v σ', call T1 lf (m + 9) 13 [.int .i64 w, .agg [.bool b, d]] σ = .ret (.tup [.agg [.int .i64 w, v], .int .i64 0]) σ' ∧ Keep σ σ' ∧ U σ' v (modL b (trimL D) (trimL (trimL (PWr w)))) := by
  have key : ∃ u v e σ', call T1 lf (m + 9) 13 [.int .i64 w, .agg [.bool b, d]] σ = .ret (.tup [.agg [u, v], e]) σ' ∧ (u = .int .i64 w ∧ e = .int .i64 0 ∧ Keep σ σ' ∧ U σ' v (modL b (trimL D) (trimL (trimL (PWr w))))) := by
    refine call_rtc (p := pk 4) (q := pk 5) rfl c13_at9 (by simp [c13]) rfl fun cf hcf => ?_
    generalize hτ : bindArgs [.int .i64 w, .agg [.bool b, d]] .h .lf = τ0
    have h0 : τ0.get (pk 0) = some (.int .i64 w) := by rw [← hτ]; rfl
    have h1 : τ0.get (pk 1) = some (.agg [.bool b, d]) := by rw [← hτ]; rfl
    clear hτ
    have hKa := Keep.new σ (.cells 38 [.bool b, d] 0 0 (some 0) [])
    have hKb := Keep.new (σ.new (.cells 38 [.bool b, d] 0 0 (some 0) [])) (.cells 25 [.int .i64 0, .nils] 0 0 (some 0) [])
    have ga := hKb.at
    generalize hσ1 : σ.new (.cells 38 [.bool b, d] 0 0 (some 0) []) = σ1 at *
    have lG := ldg2 ga
    have hw2 := (hKa.trans hKb).2.2 hw
    have hd2 := hd.keep hw (hKa.trans hKb)
    have d1 : decide ((w : Int) < 1) = false := by simp; omega
    have d2 : decide ((4096 : Int) < (w : Int)) = false := by simp; omega
    obtain ⟨v, σ3, k1, k2, k3⟩ := low_call (lf := lf) (m := m) (b := b) (w := w) hw2 hwn hd2 hD hv hlD hlf
    rw [← hcf] at k1
    obtain ⟨σf, f1, f2, f3, f4⟩ := fin_cell (σ := σ1) (f := wd) (ty := 25) (a := .int .i64 0) (b := .nils) (v := .int .i64 w) (w := v) (fun n => wd_neI n) wd_neN k2 rfl k3.one_v
    generalize hσ2 : σ1.new (.cells 25 [.int .i64 0, .nils] 0 0 (some 0) []) = σ2 at *
    simp only [c13, QU, oP, oR, oA, oH, oPn, oRn, oAn, oHn, bi, ld, ki, kt, kf, s_ops_nil, s_ops_cons, s_ops_nx, s_ops_pn, s_seq, s_seq_nx, s_seq_ex, s_seq_rt, s_skip, s_ret, s_exit, s_reg, s_cond, s_cond_t, s_cond_f, s_blk, s_blk_nx, s_blk_rt, s_blk_ex, s_put, s_P, s_R, s_A, s_A_some, s_C_ret, s_C_pan, s_H, s_H_ok, s_H_call, s_H_pan, s_gd, s_gd_bool, s_gd_undef, e_t, e_k, e_mv, e_pick, e_pick_b, e_bin, e_add_i64, e_add_i32, e_sub_i64, e_sub_u8, e_mul_i64, e_addU, e_mulU, e_addU32, e_mulU32, e_eql, e_neq, e_lss, e_leq, e_gtr, e_geq, e_str_eql, e_str_neq, e_iaddr, e_iaddr_int, e_lens, e_ld, e_extract, e_ex0, e_ex1, e_ex2, e_lenS, e_lenS_str, e_cii, e_cii_int, e_slsl_hm, e_sl2, e_slsl_h, e_sl1, e_slis, e_evL_nil, e_evL_cons, e_cons, e_call, e_callk, e_app, e_appk, e_store, e_stk, e_next, e_nextk, e_range, e_rangek, e_bs1, e_bs1i, e_bs0, e_mksl, e_mkslk, e_AK_sl, e_AK_it, e_AK_ptr, e_not, e_notb, e_xori, e_idxs, s_Hn, s_Hnk, s_Nx, s_Rt, s_NR_nx, s_NR_rt, s_NXT_nx, s_NXT_ex, s_NXT_rt, e_lenV_sl, e_lenV_nils, get_pk, k_bind, true_and, and_true, if_true, if_false, Bool.true_eq, beq_self_eq_true, reduceIte, Bool.false_eq_true, reduceCtorEq, bne_self_eq_false, Nat.reduceAdd, Nat.reduceLeDiff, Nat.reduceEqDiff, Nat.reduceSub, Nat.reduceBEq, Int.reduceBEq, Int.reduceNeg, Int.reduceLT, Int.reduceLE, Nat.succ_ne_self, Bool.not_true, Bool.not_false, Bool.true_beq, Bool.false_beq, decide_true, decide_false, exists_eq_left', Option.some.injEq, lg, e_lg, e_box, e_box2, e_alloc, h0, h1, hσ1, hσ2, lG, d1, d2, k1, f1]
    exact ⟨_, _, _, _, rfl, f2, rfl, rfl, rfl, hKa.trans f3, f4 _ _ k3⟩
  obtain ⟨u, v, e, σ', h1, rfl, rfl, h2⟩ := key
  exact ⟨v, σ', h1, h2⟩

/- ---- what it says ---- -/
theorem modL_val {b : Bool} {D : List Nat} {w : Nat} (hD : wok D) (hv : val D < 2 ^ w) :
    val (modL b (trimL D) (trimL (trimL (PWr w)))) = (if b = true ∧ 0 < val D then 2 ^ w - val D else val D) := by
  by_cases hz : trimL D = []
  · have h0 : val D = 0 := by rw [← trimL_val, hz]; rfl
    have hs : ¬ sgn b (trimL D) = true := by rw [hz]; simp [sgn]
    rw [modL, if_neg hs, trimL_val, if_neg (by omega)]
  · have hpos : 0 < val D := by
      have h1 := trimd_ge (trimL_trimd D) (fun e => hz (List.eq_nil_of_length_eq_zero e))
      rw [trimL_val] at h1
      exact Nat.lt_of_lt_of_le (Nat.pow_pos (by decide)) h1
    cases b with
    | false =>
      rw [modL, if_neg (show ¬ sgn false (trimL D) = true by simp [sgn]), trimL_val, if_neg (by simp)]
    | true =>
      rw [modL, if_pos (sgn_true hz), if_pos ⟨rfl, hpos⟩]
      have h2 := sdiff hD hv
      rwa [trimL_trimL D] at h2
theorem modL_ok {b : Bool} {D P : List Nat} (hD : wok D) : wok (modL b (trimL D) P) ∧ trimd (modL b (trimL D) P) := by
  unfold modL
  split
  · exact ⟨trimL_ok (subL_ok _ _), trimL_trimd _⟩
  · exact ⟨trimL_ok hD, trimL_trimd _⟩
/-- what comes back of what s answers -/
theorem sout_back {w : Nat} {A : List Nat} {b : Bool} {D : List Nat} (hA : wok A) (h : SOut w A b D) : modL b (trimL D) (trimL (trimL (PWr w))) = trimL A := by
  obtain ⟨h1, h2, h3, h4⟩ := h
  obtain ⟨m1, m2⟩ := modL_ok (b := b) (P := trimL (trimL (PWr w))) h1
  refine trimd_inj m1 (trimL_ok hA) m2 (trimL_trimd A) ?_
  rw [modL_val h1 h3, trimL_val]
  rcases h4 with ⟨rfl, h5⟩ | ⟨rfl, h5, h6⟩
  · rw [if_neg (by simp)]; exact h5
  · rw [if_pos ⟨rfl, h5⟩]; omega
theorem fits_len {w : Nat} {D : List Nat} (ht : trimd D) (hv : val D < 2 ^ w) : D.length ≤ (w + 63) / 64 := by
  refine Nat.le_of_not_lt fun hlt => ?_
  have h1 := trimd_ge ht (by omega)
  have h2 : WW = 2 ^ 64 := by decide
  have h3 : 2 ^ w ≤ WW ^ (D.length - 1) := by
    rw [h2, ← Nat.pow_mul]
    exact Nat.pow_le_pow_right (by decide) (by omega)
  omega
end Go.Proofs.YtahgfodccndcjaaGreatEng

