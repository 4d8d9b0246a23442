/- Layer 9 run on symbols: prefixes; Parse. (Numbers of seat r2.) -/
import Derived.Test.YtahgfodccndcjaaGreatN7
namespace Go.Proofs.YtahgfodccndcjaaGreatEng
open Go
set_option maxRecDepth 100000
set_option linter.unusedSimpArgs false

theorem c27_at : T1.code 27 = some c27 := by kernel_rfl
theorem c14_at : T1.code 14 = some c14 := by kernel_rfl
theorem c5_at : T1.code 5 = some c5 := by kernel_rfl

theorem slis_take {s : List Nat} {n : Nat} (h : n ≤ s.length) : kSlis (some (.str s)) (some (.int .i64 (n : Nat))) = some (.str (s.take n)) := by
  simp only [kSlis, bnd_nat n s.length s.length h]
def kSlisLo : Option V → Option V → Option V
  | some (.str s), some l => match bnd (some l) 0 s.length with
    | some l => some (.str (s.drop l))
    | none => none
  | _, _ => none
theorem e_slis_lo (τ : Tr V) (a l : Arg) : POp.ev τ (.slis a (some l) none) = kSlisLo (a.ev τ) (l.ev τ) := by
  simp only [POp.ev, ofOpt]
  cases a.ev τ with
  | none => rfl
  | some v =>
    cases l.ev τ with
    | none => cases v <;> rfl
    | some x =>
      cases v with
      | str s =>
        simp only [kSlisLo, bnd_none]
        cases hb : bnd (some x) 0 s.length with
        | none => rfl
        | some k =>
          simp only []
          rw [List.take_of_length_le (by simp)]
      | _ => rfl
theorem slis_drop {s : List Nat} {n : Nat} (h : n ≤ s.length) : kSlisLo (some (.str s)) (some (.int .i64 (n : Nat))) = some (.str (s.drop n)) := by
  simp only [kSlisLo, bnd_nat n 0 s.length h]

def hasP (s p : List Nat) : Bool := decide (p.length ≤ s.length) && natEq (s.take p.length) p
theorem hasp27_call {lf m : Nat} {σ : H} {s p : List Nat} : call T1 lf (m + 1) 27 [.str s, .str p] σ = .ret (.bool (hasP s p)) σ := by
  have key : ∃ v σ', call T1 lf (m + 1) 27 [.str s, .str p] σ = .ret v σ' ∧ (v = .bool (hasP s p) ∧ σ' = σ) := by
    refine call_rt1 (p := pk 4) rfl c27_at (by simp [c27]) rfl fun cf hcf => ?_
    clear hcf
    generalize hτ : bindArgs [.str s, .str p] .h .lf = τ0
    have h0 : τ0.get (pk 0) = some (.str s) := by rw [← hτ]; rfl
    have h1 : τ0.get (pk 1) = some (.str p) := by rw [← hτ]; rfl
    clear hτ
    by_cases h : p.length ≤ s.length
    · have d1 : decide ((p.length : Int) ≤ (s.length : Int)) = true := by simp; exact h
      have d2 : hasP s p = natEq (s.take p.length) p := by simp [hasP, h]
      simp only [c27, QU, oP, oR, oA, oH, oPn, oRn, oAn, oHn, bi, ld, ki, kt, kf, s_ops_nil, s_ops_cons, s_ops_nx, s_ops_pn, s_seq, s_seq_nx, s_seq_ex, s_seq_rt, s_skip, s_ret, s_exit, s_reg, s_cond, s_cond_t, s_cond_f, s_blk, s_blk_nx, s_blk_rt, s_blk_ex, s_put, s_P, s_R, s_A, s_A_some, s_C_ret, s_C_pan, s_H, s_H_ok, s_H_call, s_H_pan, s_gd, s_gd_bool, s_gd_undef, e_t, e_k, e_mv, e_pick, e_pick_b, e_bin, e_add_i64, e_add_i32, e_sub_i64, e_sub_u8, e_mul_i64, e_addU, e_mulU, e_addU32, e_mulU32, e_eql, e_neq, e_lss, e_leq, e_gtr, e_geq, e_str_eql, e_str_neq, e_iaddr, e_iaddr_int, e_lens, e_ld, e_extract, e_ex0, e_ex1, e_ex2, e_lenS, e_lenS_str, e_cii, e_cii_int, e_slsl_hm, e_sl2, e_slsl_h, e_sl1, e_slis, e_evL_nil, e_evL_cons, e_cons, e_call, e_callk, e_app, e_appk, e_store, e_stk, e_next, e_nextk, e_range, e_rangek, e_bs1, e_bs1i, e_bs0, e_mksl, e_mkslk, e_AK_sl, e_AK_it, e_AK_ptr, e_not, e_notb, e_xori, e_idxs, s_Hn, s_Hnk, s_Nx, s_Rt, s_NR_nx, s_NR_rt, s_NXT_nx, s_NXT_ex, s_NXT_rt, e_lenV_sl, e_lenV_nils, get_pk, k_bind, true_and, and_true, if_true, if_false, Bool.true_eq, beq_self_eq_true, reduceIte, Bool.false_eq_true, reduceCtorEq, bne_self_eq_false, Nat.reduceAdd, Nat.reduceLeDiff, Nat.reduceEqDiff, Nat.reduceSub, Nat.reduceBEq, Int.reduceBEq, Int.reduceNeg, Int.reduceLT, Int.reduceLE, Nat.succ_ne_self, Bool.not_true, Bool.not_false, Bool.true_beq, Bool.false_beq, decide_true, decide_false, exists_eq_left', Option.some.injEq, h0, h1, d1, d2, slis_take h]
    · have d1 : decide ((p.length : Int) ≤ (s.length : Int)) = false := by simp; omega
      have d2 : hasP s p = false := by simp [hasP, h]
      simp only [c27, QU, oP, oR, oA, oH, oPn, oRn, oAn, oHn, bi, ld, ki, kt, kf, s_ops_nil, s_ops_cons, s_ops_nx, s_ops_pn, s_seq, s_seq_nx, s_seq_ex, s_seq_rt, s_skip, s_ret, s_exit, s_reg, s_cond, s_cond_t, s_cond_f, s_blk, s_blk_nx, s_blk_rt, s_blk_ex, s_put, s_P, s_R, s_A, s_A_some, s_C_ret, s_C_pan, s_H, s_H_ok, s_H_call, s_H_pan, s_gd, s_gd_bool, s_gd_undef, e_t, e_k, e_mv, e_pick, e_pick_b, e_bin, e_add_i64, e_add_i32, e_sub_i64, e_sub_u8, e_mul_i64, e_addU, e_mulU, e_addU32, e_mulU32, e_eql, e_neq, e_lss, e_leq, e_gtr, e_geq, e_str_eql, e_str_neq, e_iaddr, e_iaddr_int, e_lens, e_ld, e_extract, e_ex0, e_ex1, e_ex2, e_lenS, e_lenS_str, e_cii, e_cii_int, e_slsl_hm, e_sl2, e_slsl_h, e_sl1, e_slis, e_evL_nil, e_evL_cons, e_cons, e_call, e_callk, e_app, e_appk, e_store, e_stk, e_next, e_nextk, e_range, e_rangek, e_bs1, e_bs1i, e_bs0, e_mksl, e_mkslk, e_AK_sl, e_AK_it, e_AK_ptr, e_not, e_notb, e_xori, e_idxs, s_Hn, s_Hnk, s_Nx, s_Rt, s_NR_nx, s_NR_rt, s_NXT_nx, s_NXT_ex, s_NXT_rt, e_lenV_sl, e_lenV_nils, get_pk, k_bind, true_and, and_true, if_true, if_false, Bool.true_eq, beq_self_eq_true, reduceIte, Bool.false_eq_true, reduceCtorEq, bne_self_eq_false, Nat.reduceAdd, Nat.reduceLeDiff, Nat.reduceEqDiff, Nat.reduceSub, Nat.reduceBEq, Int.reduceBEq, Int.reduceNeg, Int.reduceLT, Int.reduceLE, Nat.succ_ne_self, Bool.not_true, Bool.not_false, Bool.true_beq, Bool.false_beq, decide_true, decide_false, exists_eq_left', Option.some.injEq, h0, h1, d1, d2]
  obtain ⟨v, _, h1, rfl, rfl⟩ := key
  exact h1
theorem hasp_call {lf m : Nat} {σ : H} {s p : List Nat} : call T1 lf (m + 2) 14 [.str s, .str p] σ = .ret (.bool (hasP s p)) σ := by
  have key : ∃ v σ', call T1 lf (m + 2) 14 [.str s, .str p] σ = .ret v σ' ∧ (v = .bool (hasP s p) ∧ σ' = σ) := by
    refine call_rt1 (p := pk 4) rfl c14_at (by simp [c14]) rfl fun cf hcf => ?_
    generalize hτ : bindArgs [.str s, .str p] .h .lf = τ0
    have h0 : τ0.get (pk 0) = some (.str s) := by rw [← hτ]; rfl
    have h1 : τ0.get (pk 1) = some (.str p) := by rw [← hτ]; rfl
    clear hτ
    have k := hasp27_call (lf := lf) (m := m) (σ := σ) (s := s) (p := p)
    rw [← hcf] at k
    simp only [c14, QU, oP, oR, oA, oH, oPn, oRn, oAn, oHn, bi, ld, ki, kt, kf, s_ops_nil, s_ops_cons, s_ops_nx, s_ops_pn, s_seq, s_seq_nx, s_seq_ex, s_seq_rt, s_skip, s_ret, s_exit, s_reg, s_cond, s_cond_t, s_cond_f, s_blk, s_blk_nx, s_blk_rt, s_blk_ex, s_put, s_P, s_R, s_A, s_A_some, s_C_ret, s_C_pan, s_H, s_H_ok, s_H_call, s_H_pan, s_gd, s_gd_bool, s_gd_undef, e_t, e_k, e_mv, e_pick, e_pick_b, e_bin, e_add_i64, e_add_i32, e_sub_i64, e_sub_u8, e_mul_i64, e_addU, e_mulU, e_addU32, e_mulU32, e_eql, e_neq, e_lss, e_leq, e_gtr, e_geq, e_str_eql, e_str_neq, e_iaddr, e_iaddr_int, e_lens, e_ld, e_extract, e_ex0, e_ex1, e_ex2, e_lenS, e_lenS_str, e_cii, e_cii_int, e_slsl_hm, e_sl2, e_slsl_h, e_sl1, e_slis, e_evL_nil, e_evL_cons, e_cons, e_call, e_callk, e_app, e_appk, e_store, e_stk, e_next, e_nextk, e_range, e_rangek, e_bs1, e_bs1i, e_bs0, e_mksl, e_mkslk, e_AK_sl, e_AK_it, e_AK_ptr, e_not, e_notb, e_xori, e_idxs, s_Hn, s_Hnk, s_Nx, s_Rt, s_NR_nx, s_NR_rt, s_NXT_nx, s_NXT_ex, s_NXT_rt, e_lenV_sl, e_lenV_nils, get_pk, k_bind, true_and, and_true, if_true, if_false, Bool.true_eq, beq_self_eq_true, reduceIte, Bool.false_eq_true, reduceCtorEq, bne_self_eq_false, Nat.reduceAdd, Nat.reduceLeDiff, Nat.reduceEqDiff, Nat.reduceSub, Nat.reduceBEq, Int.reduceBEq, Int.reduceNeg, Int.reduceLT, Int.reduceLE, Nat.succ_ne_self, Bool.not_true, Bool.not_false, Bool.true_beq, Bool.false_beq, decide_true, decide_false, exists_eq_left', Option.some.injEq, h0, h1, k]
  obtain ⟨v, _, h1, rfl, rfl⟩ := key
  exact h1

/- a result that lies in a variable of two cells -/
theorem call_rtc {T : Tab} {f : Nat} {c : CFun} {p q : Pos} {lf m : Nat} {args : List V} {σ : H} {Post : V → V → V → H → Prop} (hi : T.intr f = none) (hc : T.code f = some c) (hl : args.length ≤ c.n) (hr : c.res = [.cell p (some 2), .t q])
    (h : ∀ cf, cf = call T lf m → Rt (exec cf lf c.n c.body (bindArgs args .h .lf) σ []) fun τ σ' => ∃ x v w u, τ.get p = some (.ptr x 0 0) ∧ blkCells σ' x 0 = some [v, w] ∧ τ.get q = some u ∧ Post v w u σ') :
    ∃ v w u σ', call T lf (m + 1) f args σ = .ret (.tup [.agg [v, w], u]) σ' ∧ Post v w u σ' := by
  obtain ⟨τ, σ', h1, x, v, w, u, h2, h3, h4, h5⟩ := (h _ rfl).elim
  refine ⟨v, w, u, σ', ?_, h5⟩
  rw [call_def hi hc lf m args σ hl, h1, fin_rt, hr]
  simp [retOf, resV, resAll, resOne, h2, h3, h4, pick1, cut]
/-- a write of both cells -/
theorem st2 {σ : H} {ty : Nat} {x : Pos} {a b v w : V} {ex : List Nat} {minv : Nat} (hx : σ.get x = some (.cells ty [a, b] 0 minv (some 0) ex)) (hv : v.one = true) (hw : w.one = true) :
    stV σ 2 (.ptr x 0 0) (.agg [v, w]) = .ok undefV (σ.put x (.cells ty [v, w] 0 0 (some 0) ex)) := by
  simp only [stV, V.cells, List.length_cons, List.length_nil, Nat.zero_add, Nat.reduceAdd, if_true, putCells, hx]
  rw [if_pos ⟨trivial, Nat.zero_le _, Nat.le_refl _, by simp [hv, hw]⟩]
  rfl
end Go.Proofs.YtahgfodccndcjaaGreatEng
