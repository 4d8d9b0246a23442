/- Layer 9 run on symbols: prefixes; Parse. (Numbers of seat r2.) -/
/- Layer 9 run on symbols: Parse. (Numbers of seat r2.) -/
/- A digit's value in any base. -/
/- Layer 1: plain facts of numbers as halves of 16 bits. -/
/- Symbolic runs: regions whose order is open. -/
/- Layer 9's reference run on symbols: Parse's list of bits. (Numbers of seat r2.) -/
import Derived.Test.YtahgfodccndcjaaGreatN7
namespace Go.Proofs.YtahgfodccndcjaaGreatEng
open Go
set_option maxRecDepth 100000
set_option linter.unusedSimpArgs false

theorem c27_at : T1.code 27 = some c27 := by kernel_rfl
theorem c14_at : T1.code 14 = some c14 := by kernel_rfl
theorem c5_at : T1.code 5 = some c5 := by kernel_rfl

theorem slis_take {s : List Nat} {n : Nat} (h : n ≤ s.length) : kSlis (some (.str s)) (some (.int .i64 (n : Nat))) = some (.str (s.take n)) := by
  simp only [kSlis, bnd_nat n s.length s.length h]
def kSlisLo : Option V → Option V → Option V
  | some (.str s), some l => match bnd (some l) 0 s.length with
    | some l => some (.str (s.drop l))
    | none => none
  | _, _ => none
theorem e_slis_lo (τ : Tr V) (a l : Arg) : POp.ev τ (.slis a (some l) none) = kSlisLo (a.ev τ) (l.ev τ) := by
  simp only [POp.ev, ofOpt]
  cases a.ev τ with
  | none => rfl
  | some v =>
    cases l.ev τ with
    | none => cases v <;> rfl
    | some x =>
      cases v with
      | str s =>
        simp only [kSlisLo, bnd_none]
        cases hb : bnd (some x) 0 s.length with
        | none => rfl
        | some k =>
          simp only []
          rw [List.take_of_length_le (by simp)]
      | _ => rfl
theorem slis_drop {s : List Nat} {n : Nat} (h : n ≤ s.length) : kSlisLo (some (.str s)) (some (.int .i64 (n : Nat))) = some (.str (s.drop n)) := by
  simp only [kSlisLo, bnd_nat n 0 s.length h]

def hasP (s p : List Nat) : Bool := decide (p.length ≤ s.length) && natEq (s.take p.length) p
theorem hasp27_call {lf m : Nat} {σ : H} {s p : List Nat} : call T1 lf (m + 1) 27 [.str s, .str p] σ = .ret (.bool (hasP s p)) σ := by
  have key : ∃ v σ', call T1 lf (m + 1) 27 [.str s, .str p] σ = .ret v σ' ∧ (v = .bool (hasP s p) ∧ σ' = σ) := by
    refine call_rt1 (p := pk 4) rfl c27_at (by simp [c27]) rfl fun cf hcf => ?_
    clear hcf
    generalize hτ : bindArgs [.str s, .str p] .h .lf = τ0
    have h0 : τ0.get (pk 0) = some (.str s) := by rw [← hτ]; rfl
    have h1 : τ0.get (pk 1) = some (.str p) := by rw [← hτ]; rfl
    clear hτ
    by_cases h : p.length ≤ s.length
    · have d1 : decide ((p.length : Int) ≤ (s.length : Int)) = true := by simp; exact h
      have d2 : hasP s p = natEq (s.take p.length) p := by simp [hasP, h]
      simp only [c27, q0, u0, q1, u1, q2, u2, q3, u3, q4, u4, q5, u5, q6, u6, q7, u7, q8, u8, q9, u9, q10, u10, q11, u11, q12, u12, q13, u13, q14, u14, q15, u15, q16, u16, q17, u17, q18, u18, q19, u19, q20, u20, q21, u21, q22, u22, q23, u23, q24, u24, q25, u25, q26, u26, q27, u27, q28, u28, q29, u29, q30, u30, q31, u31, q32, u32, q33, u33, q34, u34, q35, u35, q36, u36, q37, u37, q38, u38, q39, u39, q40, u40, q41, u41, q42, u42, q43, u43, q44, u44, q45, u45, q46, u46, q47, u47, q48, u48, q49, u49, q50, u50, q51, u51, q52, u52, q53, u53, q54, u54, q55, u55, q56, u56, q57, u57, q58, u58, q59, u59, q60, u60, q61, u61, q62, u62, q63, u63, q64, u64, q65, u65, q66, u66, q67, u67, q68, u68, q69, u69, q70, u70, q71, u71, q72, u72, q73, u73, q74, u74, q75, u75, q76, u76, q77, u77, q78, u78, q79, u79, q80, u80, q81, u81, q82, u82, q83, u83, q84, u84, q85, u85, q86, u86, q87, u87, q88, u88, q89, u89, q90, u90, q91, u91, q92, u92, q93, u93, q94, u94, q95, u95, q96, u96, q97, u97, q98, u98, q99, u99, q100, u100, q101, u101, q102, u102, q103, u103, q104, u104, q105, u105, q106, u106, q107, u107, q108, u108, q109, u109, q110, u110, q111, u111, q112, u112, q113, u113, q114, u114, q115, u115, q116, u116, q117, u117, q118, u118, q119, u119, q120, u120, q121, u121, q122, u122, q123, u123, q124, u124, q125, u125, q126, u126, q127, u127, q128, u128, q129, u129, q130, u130, q131, u131, q132, u132, q133, u133, q134, u134, q135, u135, q136, u136, oP, oR, oA, oH, oPn, oRn, oAn, oHn, bi, ld, ki, kt, kf, s_ops_nil, s_ops_cons, s_ops_nx, s_ops_pn, s_seq, s_seq_nx, s_seq_ex, s_seq_rt, s_skip, s_ret, s_exit, s_reg, s_cond, s_cond_t, s_cond_f, s_blk, s_blk_nx, s_blk_rt, s_blk_ex, s_put, s_P, s_R, s_A, s_A_some, s_C_ret, s_C_pan, s_H, s_H_ok, s_H_call, s_H_pan, s_gd, s_gd_bool, s_gd_undef, e_t, e_k, e_mv, e_pick, e_pick_b, e_bin, e_add_i64, e_add_i32, e_sub_i64, e_sub_u8, e_mul_i64, e_addU, e_mulU, e_addU32, e_mulU32, e_eql, e_neq, e_lss, e_leq, e_gtr, e_geq, e_str_eql, e_str_neq, e_iaddr, e_iaddr_int, e_lens, e_ld, e_extract, e_ex0, e_ex1, e_ex2, e_lenS, e_lenS_str, e_cii, e_cii_int, e_slsl_hm, e_sl2, e_slsl_h, e_sl1, e_slis, e_evL_nil, e_evL_cons, e_cons, e_call, e_callk, e_app, e_appk, e_store, e_stk, e_next, e_nextk, e_range, e_rangek, e_bs1, e_bs1i, e_bs0, e_mksl, e_mkslk, e_AK_sl, e_AK_it, e_AK_ptr, e_not, e_notb, e_xori, e_idxs, s_Hn, s_Hnk, s_Nx, s_Rt, s_NR_nx, s_NR_rt, s_NXT_nx, s_NXT_ex, s_NXT_rt, e_lenV_sl, e_lenV_nils, get_pk, k_bind, true_and, and_true, if_true, if_false, Bool.true_eq, beq_self_eq_true, reduceIte, Bool.false_eq_true, reduceCtorEq, bne_self_eq_false, Nat.reduceAdd, Nat.reduceLeDiff, Nat.reduceEqDiff, Nat.reduceSub, Nat.reduceBEq, Int.reduceBEq, Int.reduceNeg, Int.reduceLT, Int.reduceLE, Nat.succ_ne_self, Bool.not_true, Bool.not_false, Bool.true_beq, Bool.false_beq, decide_true, decide_false, exists_eq_left', Option.some.injEq, h0, h1, d1, d2, slis_take h]
    · have d1 : decide ((p.length : Int) ≤ (s.length : Int)) = false := by simp; omega
      have d2 : hasP s p = false := by simp [hasP, h]
      simp only [c27, q0, u0, q1, u1, q2, u2, q3, u3, q4, u4, q5, u5, q6, u6, q7, u7, q8, u8, q9, u9, q10, u10, q11, u11, q12, u12, q13, u13, q14, u14, q15, u15, q16, u16, q17, u17, q18, u18, q19, u19, q20, u20, q21, u21, q22, u22, q23, u23, q24, u24, q25, u25, q26, u26, q27, u27, q28, u28, q29, u29, q30, u30, q31, u31, q32, u32, q33, u33, q34, u34, q35, u35, q36, u36, q37, u37, q38, u38, q39, u39, q40, u40, q41, u41, q42, u42, q43, u43, q44, u44, q45, u45, q46, u46, q47, u47, q48, u48, q49, u49, q50, u50, q51, u51, q52, u52, q53, u53, q54, u54, q55, u55, q56, u56, q57, u57, q58, u58, q59, u59, q60, u60, q61, u61, q62, u62, q63, u63, q64, u64, q65, u65, q66, u66, q67, u67, q68, u68, q69, u69, q70, u70, q71, u71, q72, u72, q73, u73, q74, u74, q75, u75, q76, u76, q77, u77, q78, u78, q79, u79, q80, u80, q81, u81, q82, u82, q83, u83, q84, u84, q85, u85, q86, u86, q87, u87, q88, u88, q89, u89, q90, u90, q91, u91, q92, u92, q93, u93, q94, u94, q95, u95, q96, u96, q97, u97, q98, u98, q99, u99, q100, u100, q101, u101, q102, u102, q103, u103, q104, u104, q105, u105, q106, u106, q107, u107, q108, u108, q109, u109, q110, u110, q111, u111, q112, u112, q113, u113, q114, u114, q115, u115, q116, u116, q117, u117, q118, u118, q119, u119, q120, u120, q121, u121, q122, u122, q123, u123, q124, u124, q125, u125, q126, u126, q127, u127, q128, u128, q129, u129, q130, u130, q131, u131, q132, u132, q133, u133, q134, u134, q135, u135, q136, u136, oP, oR, oA, oH, oPn, oRn, oAn, oHn, bi, ld, ki, kt, kf, s_ops_nil, s_ops_cons, s_ops_nx, s_ops_pn, s_seq, s_seq_nx, s_seq_ex, s_seq_rt, s_skip, s_ret, s_exit, s_reg, s_cond, s_cond_t, s_cond_f, s_blk, s_blk_nx, s_blk_rt, s_blk_ex, s_put, s_P, s_R, s_A, s_A_some, s_C_ret, s_C_pan, s_H, s_H_ok, s_H_call, s_H_pan, s_gd, s_gd_bool, s_gd_undef, e_t, e_k, e_mv, e_pick, e_pick_b, e_bin, e_add_i64, e_add_i32, e_sub_i64, e_sub_u8, e_mul_i64, e_addU, e_mulU, e_addU32, e_mulU32, e_eql, e_neq, e_lss, e_leq, e_gtr, e_geq, e_str_eql, e_str_neq, e_iaddr, e_iaddr_int, e_lens, e_ld, e_extract, e_ex0, e_ex1, e_ex2, e_lenS, e_lenS_str, e_cii, e_cii_int, e_slsl_hm, e_sl2, e_slsl_h, e_sl1, e_slis, e_evL_nil, e_evL_cons, e_cons, e_call, e_callk, e_app, e_appk, e_store, e_stk, e_next, e_nextk, e_range, e_rangek, e_bs1, e_bs1i, e_bs0, e_mksl, e_mkslk, e_AK_sl, e_AK_it, e_AK_ptr, e_not, e_notb, e_xori, e_idxs, s_Hn, s_Hnk, s_Nx, s_Rt, s_NR_nx, s_NR_rt, s_NXT_nx, s_NXT_ex, s_NXT_rt, e_lenV_sl, e_lenV_nils, get_pk, k_bind, true_and, and_true, if_true, if_false, Bool.true_eq, beq_self_eq_true, reduceIte, Bool.false_eq_true, reduceCtorEq, bne_self_eq_false, Nat.reduceAdd, Nat.reduceLeDiff, Nat.reduceEqDiff, Nat.reduceSub, Nat.reduceBEq, Int.reduceBEq, Int.reduceNeg, Int.reduceLT, Int.reduceLE, Nat.succ_ne_self, Bool.not_true, Bool.not_false, Bool.true_beq, Bool.false_beq, decide_true, decide_false, exists_eq_left', Option.some.injEq, h0, h1, d1, d2]
  obtain ⟨v, _, h1, rfl, rfl⟩ := key
  exact h1
theorem hasp_call {lf m : Nat} {σ : H} {s p : List Nat} : call T1 lf (m + 2) 14 [.str s, .str p] σ = .ret (.bool (hasP s p)) σ := by
  have key : ∃ v σ', call T1 lf (m + 2) 14 [.str s, .str p] σ = .ret v σ' ∧ (v = .bool (hasP s p) ∧ σ' = σ) := by
    refine call_rt1 (p := pk 4) rfl c14_at (by simp [c14]) rfl fun cf hcf => ?_
    generalize hτ : bindArgs [.str s, .str p] .h .lf = τ0
    have h0 : τ0.get (pk 0) = some (.str s) := by rw [← hτ]; rfl
    have h1 : τ0.get (pk 1) = some (.str p) := by rw [← hτ]; rfl
    clear hτ
    have k := hasp27_call (lf := lf) (m := m) (σ := σ) (s := s) (p := p)
    rw [← hcf] at k
    simp only [c14, q0, u0, q1, u1, q2, u2, q3, u3, q4, u4, q5, u5, q6, u6, q7, u7, q8, u8, q9, u9, q10, u10, q11, u11, q12, u12, q13, u13, q14, u14, q15, u15, q16, u16, q17, u17, q18, u18, q19, u19, q20, u20, q21, u21, q22, u22, q23, u23, q24, u24, q25, u25, q26, u26, q27, u27, q28, u28, q29, u29, q30, u30, q31, u31, q32, u32, q33, u33, q34, u34, q35, u35, q36, u36, q37, u37, q38, u38, q39, u39, q40, u40, q41, u41, q42, u42, q43, u43, q44, u44, q45, u45, q46, u46, q47, u47, q48, u48, q49, u49, q50, u50, q51, u51, q52, u52, q53, u53, q54, u54, q55, u55, q56, u56, q57, u57, q58, u58, q59, u59, q60, u60, q61, u61, q62, u62, q63, u63, q64, u64, q65, u65, q66, u66, q67, u67, q68, u68, q69, u69, q70, u70, q71, u71, q72, u72, q73, u73, q74, u74, q75, u75, q76, u76, q77, u77, q78, u78, q79, u79, q80, u80, q81, u81, q82, u82, q83, u83, q84, u84, q85, u85, q86, u86, q87, u87, q88, u88, q89, u89, q90, u90, q91, u91, q92, u92, q93, u93, q94, u94, q95, u95, q96, u96, q97, u97, q98, u98, q99, u99, q100, u100, q101, u101, q102, u102, q103, u103, q104, u104, q105, u105, q106, u106, q107, u107, q108, u108, q109, u109, q110, u110, q111, u111, q112, u112, q113, u113, q114, u114, q115, u115, q116, u116, q117, u117, q118, u118, q119, u119, q120, u120, q121, u121, q122, u122, q123, u123, q124, u124, q125, u125, q126, u126, q127, u127, q128, u128, q129, u129, q130, u130, q131, u131, q132, u132, q133, u133, q134, u134, q135, u135, q136, u136, oP, oR, oA, oH, oPn, oRn, oAn, oHn, bi, ld, ki, kt, kf, s_ops_nil, s_ops_cons, s_ops_nx, s_ops_pn, s_seq, s_seq_nx, s_seq_ex, s_seq_rt, s_skip, s_ret, s_exit, s_reg, s_cond, s_cond_t, s_cond_f, s_blk, s_blk_nx, s_blk_rt, s_blk_ex, s_put, s_P, s_R, s_A, s_A_some, s_C_ret, s_C_pan, s_H, s_H_ok, s_H_call, s_H_pan, s_gd, s_gd_bool, s_gd_undef, e_t, e_k, e_mv, e_pick, e_pick_b, e_bin, e_add_i64, e_add_i32, e_sub_i64, e_sub_u8, e_mul_i64, e_addU, e_mulU, e_addU32, e_mulU32, e_eql, e_neq, e_lss, e_leq, e_gtr, e_geq, e_str_eql, e_str_neq, e_iaddr, e_iaddr_int, e_lens, e_ld, e_extract, e_ex0, e_ex1, e_ex2, e_lenS, e_lenS_str, e_cii, e_cii_int, e_slsl_hm, e_sl2, e_slsl_h, e_sl1, e_slis, e_evL_nil, e_evL_cons, e_cons, e_call, e_callk, e_app, e_appk, e_store, e_stk, e_next, e_nextk, e_range, e_rangek, e_bs1, e_bs1i, e_bs0, e_mksl, e_mkslk, e_AK_sl, e_AK_it, e_AK_ptr, e_not, e_notb, e_xori, e_idxs, s_Hn, s_Hnk, s_Nx, s_Rt, s_NR_nx, s_NR_rt, s_NXT_nx, s_NXT_ex, s_NXT_rt, e_lenV_sl, e_lenV_nils, get_pk, k_bind, true_and, and_true, if_true, if_false, Bool.true_eq, beq_self_eq_true, reduceIte, Bool.false_eq_true, reduceCtorEq, bne_self_eq_false, Nat.reduceAdd, Nat.reduceLeDiff, Nat.reduceEqDiff, Nat.reduceSub, Nat.reduceBEq, Int.reduceBEq, Int.reduceNeg, Int.reduceLT, Int.reduceLE, Nat.succ_ne_self, Bool.not_true, Bool.not_false, Bool.true_beq, Bool.false_beq, decide_true, decide_false, exists_eq_left', Option.some.injEq, h0, h1, k]
  obtain ⟨v, _, h1, rfl, rfl⟩ := key
  exact h1

/- a result that lies in a variable of two cells -/
theorem call_rtc {T : Tab} {f : Nat} {c : CFun} {p q : Pos} {lf m : Nat} {args : List V} {σ : H} {Post : V → V → V → H → Prop} (hi : T.intr f = none) (hc : T.code f = some c) (hl : args.length ≤ c.n) (hr : c.res = [.cell p (some 2), .t q])
    (h : ∀ cf, cf = call T lf m → Rt (exec cf lf c.n c.body (bindArgs args .h .lf) σ []) fun τ σ' => ∃ x v w u, τ.get p = some (.ptr x 0 0) ∧ blkCells σ' x 0 = some [v, w] ∧ τ.get q = some u ∧ Post v w u σ') :
    ∃ v w u σ', call T lf (m + 1) f args σ = .ret (.tup [.agg [v, w], u]) σ' ∧ Post v w u σ' := by
  obtain ⟨τ, σ', h1, x, v, w, u, h2, h3, h4, h5⟩ := (h _ rfl).elim
  refine ⟨v, w, u, σ', ?_, h5⟩
  rw [call_def hi hc lf m args σ hl, h1, fin_rt, hr]
  simp [retOf, resV, resAll, resOne, h2, h3, h4, pick1, cut]
/-- a write of both cells -/
theorem st2 {σ : H} {ty : Nat} {x : Pos} {a b v w : V} {ex : List Nat} {minv : Nat} (hx : σ.get x = some (.cells ty [a, b] 0 minv (some 0) ex)) (hv : v.one = true) (hw : w.one = true) :
    stV σ 2 (.ptr x 0 0) (.agg [v, w]) = .ok undefV (σ.put x (.cells ty [v, w] 0 0 (some 0) ex)) := by
  simp only [stV, V.cells, List.length_cons, List.length_nil, Nat.zero_add, Nat.reduceAdd, if_true, putCells, hx]
  rw [if_pos ⟨trivial, Nat.zero_le _, Nat.le_refl _, by simp [hv, hw]⟩]
  rfl
end Go.Proofs.YtahgfodccndcjaaGreatEng

namespace Go.Proofs.YtahgfodccndcjaaGreatEng
open Go
set_option maxRecDepth 100000
set_option linter.unusedSimpArgs false

theorem e_build0 (τ : Tr V) (zs : List V) : POp.ev τ (.build zs []) = some (.agg zs) := rfl
def kB2 : Option V → Option V → Option V
  | some v, some w => if v.cells.length = 1 ∧ w.cells.length = 1 then some (.agg (v.cells ++ w.cells)) else none
  | _, _ => none
theorem e_build2 (τ : Tr V) (z0 z1 : V) (a b : Arg) : POp.ev τ (.build [z0, z1] [(0, 1, a), (1, 1, b)]) = kB2 (a.ev τ) (b.ev τ) := by
  simp only [POp.ev, evParts]
  cases a.ev τ with
  | none => rfl
  | some v =>
    cases b.ev τ with
    | none => rfl
    | some w =>
      simp only [kB2]
      cases hv : v.cells with
      | nil => simp [fillL, hv]
      | cons c0 c =>
        cases c with
        | nil =>
          cases hw : w.cells with
          | nil => simp [fillL, hv, hw]
          | cons d0 d =>
            cases d with
            | nil => simp [fillL, hv, hw]
            | cons => simp [fillL, hv, hw]
        | cons => simp [fillL, hv]
theorem kB2_one {v w : V} (hv : v.cells = [v]) (hw : w.cells = [w]) : kB2 (some v) (some w) = some (.agg [v, w]) := by simp [kB2, hv, hw]
theorem e_alloc (τ : Tr V) (ty : Nat) (zs : List V) : AOp.ev τ (.alloc ty zs) = some (.ptr, .cells ty zs 0 0 (some 0) []) := rfl

/-- each digit's bits; the base -/
def eachOf (s : List Nat) : Nat := if hasP s [35, 120] then 4 else 1
def baseOf (s : List Nat) : Nat := if hasP s [35, 120] then 16 else 2
def isP (s : List Nat) : Prop := hasP s [35, 120] = true ∨ hasP s [35, 98] = true
/-- what reading a vector gives -/
def BitsOut (s : List Nat) (v w u : V) (σ' : H) : Prop :=
  (4098 < s.length ∧ v = .int .i64 0 ∧ w = .nils ∧ u = .int .i64 2) ∨
  (s.length ≤ 4098 ∧ ¬ (isP s ∧ goodS (s.drop 2) (baseOf s)) ∧ v = .int .i64 0 ∧ w = .nils ∧ u = .int .i64 13) ∨
  (s.length ≤ 4098 ∧ isP s ∧ goodS (s.drop 2) (baseOf s) ∧ 4096 < eachOf s * (s.length - 2) ∧ v = .int .i64 0 ∧ w = .nils ∧ u = .int .i64 55) ∨
  (s.length ≤ 4098 ∧ isP s ∧ goodS (s.drop 2) (baseOf s) ∧ eachOf s * (s.length - 2) ≤ 4096 ∧ v = .int .i64 (eachOf s * (s.length - 2) : Nat) ∧ u = .int .i64 0 ∧
    ∃ A, U σ' w A ∧ wok A ∧ trimd A ∧ A.length ≤ 4096 ∧ val A = num (s.drop 2) (baseOf s) (s.length - 2))

theorem num_lt (s : List Nat) {base : Nat} (hd : ∀ i, dg s base i < base) : ∀ i, num s base i < base ^ i
  | 0 => Nat.one_pos
  | i + 1 => by
    have ih := num_lt s hd i
    have h := hd i
    simp only [num, Nat.pow_succ]
    have : (num s base i + 1) * base ≤ base ^ i * base := Nat.mul_le_mul_right _ ih
    rw [Nat.add_mul, Nat.one_mul] at this
    omega
theorem pow16 (k : Nat) : 16 ^ (16 * k) = bigOf k := by
  show 16 ^ (16 * k) = WW ^ k
  rw [Nat.pow_mul]
theorem pow16_le {n k : Nat} (h : n ≤ 16 * k) : 16 ^ n ≤ bigOf k := by
  rw [← pow16]; exact Nat.pow_le_pow_right (by decide) h
theorem bigOf_mono {a b : Nat} (h : a < b) : bigOf a < bigOf b := Nat.pow_lt_pow_right (by decide) h
theorem small_big {n b : Nat} (hb : b ≤ 16) (hn : n ≤ 4096) : b ^ n < BIG :=
  Nat.lt_of_le_of_lt (Nat.le_trans (Nat.pow_le_pow_left hb n) (pow16_le (k := 256) hn)) (bigOf_mono (a := 256) (b := 4096) (by decide))
theorem dg_lt {s : List Nat} {base : Nat} (hb : 0 < base) (i : Nat) : dg s base i < base := by
  unfold dg
  by_cases h : 0 ≤ valR (s.getD i 0 : Nat) base
  · exact valR_lt h
  · omega

theorem bparse_call {lf m : Nat} {σ : H} (hw : WfH σ) {s : List Nat} (hlf : s.length < lf) (hlf2 : 32768 < lf) (hs63 : s.length < 9223372036854775808) :
    ∃ v w u σ', call T1 lf (m + 5) 5 [.str s] σ = .ret (.tup [.agg [v, w], u]) σ' ∧ Keep σ σ' ∧ BitsOut s v w u σ' := by
  refine call_rtc (p := pk 2) (q := pk 3) rfl c5_at (by simp [c5]) rfl fun cf hcf => ?_
  generalize hτ : bindArgs [.str s] .h .lf = τ0
  have h0 : τ0.get (pk 0) = some (.str s) := by rw [← hτ]; rfl
  clear hτ
  have hK0 := Keep.new σ (.cells 25 [.int .i64 0, .nils] 0 0 (some 0) [])
  have hg0 : (σ.new (.cells 25 [.int .i64 0, .nils] 0 0 (some 0) [])).get σ.nx = some (.cells 25 [.int .i64 0, .nils] 0 0 (some 0) []) := by rw [H.get_new, if_pos rfl]
  have hw0 := hK0.2.2 hw
  have hnx0 : σ.nx.toNat < (σ.new (.cells 25 [.int .i64 0, .nils] 0 0 (some 0) [])).nx.toNat := by rw [nx_new]; omega
  generalize hσ0 : σ.new (.cells 25 [.int .i64 0, .nils] 0 0 (some 0) []) = σ0 at hK0 hg0 hw0 hnx0
  -- the end: both cells are written
  have fin : ∀ (σ1 : H) (v w : V), Keep σ0 σ1 → v.one = true → w.one = true → ∃ σ2, stV σ1 2 (.ptr σ.nx 0 0) (.agg [v, w]) = .ok undefV σ2 ∧ blkCells σ2 σ.nx 0 = some [v, w] ∧ Keep σ σ2 ∧ (∀ a A, U σ1 a A → U σ2 a A) := by
    intro σ1 v w hK hv hw'
    have hg1 : σ1.get σ.nx = some (.cells 25 [.int .i64 0, .nils] 0 0 (some 0) []) := by rw [hK.2.1 σ.nx hnx0]; exact hg0
    refine ⟨_, st2 hg1 hv hw', by simp only [blkCells, H.get_put, if_true, visib], (hK0.trans hK).put (Nat.le_refl _) (Nat.lt_of_lt_of_le hnx0 hK.1) _, fun a A hU => ?_⟩
    obtain ⟨u1, u2, u3⟩ := hU
    refine ⟨u1, u2, ?_⟩
    cases a with
    | sl x ver o len cap es =>
      simp only [slCells, blkCells] at u3 ⊢
      by_cases e : x = σ.nx
      · subst e
        rw [hg1] at u3
        rw [H.get_put, if_pos rfl]
        simp only [visib] at u3 ⊢
        by_cases hver : ver = 0
        · subst hver
          simp only [if_true] at u3 ⊢
          obtain ⟨c1, c2⟩ := cut_some u3
          cases A with
          | nil =>
            simp only [List.length_nil, Nat.zero_mul, Nat.add_zero, cut, List.take_zero, List.map_nil] at c1 ⊢
            rw [if_pos (by simpa using c1)]
          | cons n A =>
            exfalso
            have hm : wd n ∈ ((n :: A).map wd) := by simp
            rw [c2] at hm
            have := List.mem_of_mem_drop (List.mem_of_mem_take hm)
            simp [wd] at this
        · rw [if_neg hver, if_neg (by omega)] at u3
          simp at u3
      · rw [H.get_put, if_neg e]; exact u3
    | nils => exact u3
    | ros => exact u3
    | _ => simp [okSl] at u1
  have hone : ∀ {σ : H} {a : V} {A : List Nat}, U σ a A → a.one = true := fun {σ a A} h => by
    obtain ⟨h1, _, _⟩ := h
    cases a <;> first | rfl | simp [okSl] at h1
  obtain ⟨σa, f1, f2, f3, _⟩ := fin σ0 (.int .i64 0) .nils (Keep.refl _) rfl rfl
  by_cases hlong : 4098 < s.length
  · have d1 : decide ((4098 : Int) < ((s.length : Nat) : Int)) = true := by simp; omega
    simp only [c5, q0, u0, q1, u1, q2, u2, q3, u3, q4, u4, q5, u5, q6, u6, q7, u7, q8, u8, q9, u9, q10, u10, q11, u11, q12, u12, q13, u13, q14, u14, q15, u15, q16, u16, q17, u17, q18, u18, q19, u19, q20, u20, q21, u21, q22, u22, q23, u23, q24, u24, q25, u25, q26, u26, q27, u27, q28, u28, q29, u29, q30, u30, q31, u31, q32, u32, q33, u33, q34, u34, q35, u35, q36, u36, q37, u37, q38, u38, q39, u39, q40, u40, q41, u41, q42, u42, q43, u43, q44, u44, q45, u45, q46, u46, q47, u47, q48, u48, q49, u49, q50, u50, q51, u51, q52, u52, q53, u53, q54, u54, q55, u55, q56, u56, q57, u57, q58, u58, q59, u59, q60, u60, q61, u61, q62, u62, q63, u63, q64, u64, q65, u65, q66, u66, q67, u67, q68, u68, q69, u69, q70, u70, q71, u71, q72, u72, q73, u73, q74, u74, q75, u75, q76, u76, q77, u77, q78, u78, q79, u79, q80, u80, q81, u81, q82, u82, q83, u83, q84, u84, q85, u85, q86, u86, q87, u87, q88, u88, q89, u89, q90, u90, q91, u91, q92, u92, q93, u93, q94, u94, q95, u95, q96, u96, q97, u97, q98, u98, q99, u99, q100, u100, q101, u101, q102, u102, q103, u103, q104, u104, q105, u105, q106, u106, q107, u107, q108, u108, q109, u109, q110, u110, q111, u111, q112, u112, q113, u113, q114, u114, q115, u115, q116, u116, q117, u117, q118, u118, q119, u119, q120, u120, q121, u121, q122, u122, q123, u123, q124, u124, q125, u125, q126, u126, q127, u127, q128, u128, q129, u129, q130, u130, q131, u131, q132, u132, q133, u133, q134, u134, q135, u135, q136, u136, oP, oR, oA, oH, oPn, oRn, oAn, oHn, bi, ld, ki, kt, kf, s_ops_nil, s_ops_cons, s_ops_nx, s_ops_pn, s_seq, s_seq_nx, s_seq_ex, s_seq_rt, s_skip, s_ret, s_exit, s_reg, s_cond, s_cond_t, s_cond_f, s_blk, s_blk_nx, s_blk_rt, s_blk_ex, s_put, s_P, s_R, s_A, s_A_some, s_C_ret, s_C_pan, s_H, s_H_ok, s_H_call, s_H_pan, s_gd, s_gd_bool, s_gd_undef, e_t, e_k, e_mv, e_pick, e_pick_b, e_bin, e_add_i64, e_add_i32, e_sub_i64, e_sub_u8, e_mul_i64, e_addU, e_mulU, e_addU32, e_mulU32, e_eql, e_neq, e_lss, e_leq, e_gtr, e_geq, e_str_eql, e_str_neq, e_iaddr, e_iaddr_int, e_lens, e_ld, e_extract, e_ex0, e_ex1, e_ex2, e_lenS, e_lenS_str, e_cii, e_cii_int, e_slsl_hm, e_sl2, e_slsl_h, e_sl1, e_slis, e_evL_nil, e_evL_cons, e_cons, e_call, e_callk, e_app, e_appk, e_store, e_stk, e_next, e_nextk, e_range, e_rangek, e_bs1, e_bs1i, e_bs0, e_mksl, e_mkslk, e_AK_sl, e_AK_it, e_AK_ptr, e_not, e_notb, e_xori, e_idxs, s_Hn, s_Hnk, s_Nx, s_Rt, s_NR_nx, s_NR_rt, s_NXT_nx, s_NXT_ex, s_NXT_rt, e_lenV_sl, e_lenV_nils, get_pk, k_bind, true_and, and_true, if_true, if_false, Bool.true_eq, beq_self_eq_true, reduceIte, Bool.false_eq_true, reduceCtorEq, bne_self_eq_false, Nat.reduceAdd, Nat.reduceLeDiff, Nat.reduceEqDiff, Nat.reduceSub, Nat.reduceBEq, Int.reduceBEq, Int.reduceNeg, Int.reduceLT, Int.reduceLE, Nat.succ_ne_self, Bool.not_true, Bool.not_false, Bool.true_beq, Bool.false_beq, decide_true, decide_false, exists_eq_left', Option.some.injEq, e_alloc, e_build0, h0, d1, hσ0, f1]
    exact ⟨σ.nx, _, _, _, rfl, f2, rfl, f3, .inl ⟨hlong, rfl, rfl, rfl⟩⟩
  · have d1 : decide ((4098 : Int) < ((s.length : Nat) : Int)) = false := by simp; omega
    have k1 := hasp_call (lf := lf) (m := m + 2) (σ := σ0) (s := s) (p := [35, 120])
    have k2 := hasp_call (lf := lf) (m := m + 2) (σ := σ0) (s := s) (p := [35, 98])
    rw [← hcf] at k1 k2
    -- behind the looks at the prefix
    have h2 : isP s → 2 ≤ s.length := by
      rintro (h | h) <;>
      · simp only [hasP, Bool.and_eq_true, decide_eq_true_eq] at h
        simpa using h.1
    -- the tail, once the base is chosen
    have main : ∀ (each : Nat), isP s → eachOf s = each → each ≤ 4 → ∃ v1 e1 σ1, cf 15 [.str (s.drop 2), .int .i64 (baseOf s)] σ0 = .ret (.tup [v1, .int .i64 e1]) σ1 ∧ v1.one = true ∧
        ((e1 ≠ 0 ∧ ∃ σ2, stV σ1 2 (.ptr σ.nx 0 0) (.agg [.int .i64 0, .nils]) = .ok undefV σ2 ∧ blkCells σ2 σ.nx 0 = some [.int .i64 0, .nils] ∧ Keep σ σ2 ∧ ¬ goodS (s.drop 2) (baseOf s)) ∨
         (e1 = 0 ∧ goodS (s.drop 2) (baseOf s) ∧ (∃ σ2, stV σ1 2 (.ptr σ.nx 0 0) (.agg [.int .i64 0, .nils]) = .ok undefV σ2 ∧ blkCells σ2 σ.nx 0 = some [.int .i64 0, .nils] ∧ Keep σ σ2) ∧
          ∃ σ2 A, stV σ1 2 (.ptr σ.nx 0 0) (.agg [.int .i64 (each * (s.length - 2) : Nat), v1]) = .ok undefV σ2 ∧ blkCells σ2 σ.nx 0 = some [.int .i64 (each * (s.length - 2) : Nat), v1] ∧ Keep σ σ2 ∧ U σ2 v1 A ∧ wok A ∧ trimd A ∧ A.length ≤ 4096 ∧ val A = num (s.drop 2) (baseOf s) (s.length - 2))) := by
      intro each hP he he4
      have hb : baseOf s = 2 ∨ baseOf s = 10 ∨ baseOf s = 16 := by unfold baseOf; split <;> simp
      have hdl : (s.drop 2).length = s.length - 2 := by simp
      obtain ⟨v1, u1, σ1, q1, q2, q3⟩ := parse_call (lf := lf) (m := m) (σ := σ0) hw0 (s := s.drop 2) (base := baseOf s) hb (by rw [hdl]; omega) (by omega) (by rw [hdl]; omega)
      rw [← hcf] at q1
      have hsmall : num (s.drop 2) (baseOf s) (s.drop 2).length < BIG := by
        refine Nat.lt_trans (num_lt _ (fun i => dg_lt (by rcases hb with h | h | h <;> omega) i) _) (small_big (by rcases hb with h | h | h <;> omega) (by rw [hdl]; omega))
      rcases q3 with ⟨n1, rfl, rfl⟩ | ⟨n1, n2, rfl, rfl⟩ | ⟨n1, n2, rfl, A, a1, a2, a3, a4, a5⟩
      · obtain ⟨σ2, g1, g2, g3, _⟩ := fin σ1 (.int .i64 0) .nils q2 rfl rfl
        exact ⟨_, _, _, q1, rfl, .inl ⟨by decide, σ2, g1, g2, g3, n1⟩⟩
      · exact absurd n2 (Nat.not_le_of_lt hsmall)
      · obtain ⟨σ2, g1, g2, g3, _⟩ := fin σ1 (.int .i64 0) .nils q2 rfl rfl
        obtain ⟨σ3, g4, g5, g6, g7⟩ := fin σ1 (.int .i64 (each * (s.length - 2) : Nat)) v1 q2 rfl (hone a1)
        exact ⟨_, _, _, q1, hone a1, .inr ⟨rfl, n1, ⟨σ2, g1, g2, g3⟩, σ3, A, g4, g5, g6, g7 _ _ a1, a2, a3, a4, by rw [a5, hdl]⟩⟩
    have cellsOne : ∀ v : V, v.one = true → v.cells = [v] := fun v h => by cases v <;> first | rfl | simp [V.one] at h
    by_cases hx : hasP s [35, 120] = true
    · have hP : isP s := .inl hx
      have hl2 := h2 hP
      have hb : baseOf s = 16 := by simp [baseOf, hx]
      have he : eachOf s = 4 := by simp [eachOf, hx]
      obtain ⟨v1, e1, σ1, q1, hv1, q2⟩ := main 4 hP he (by omega)
      rw [hb, show (((16 : Nat)) : Int) = 16 from rfl] at q1
      have sd : kSlisLo (some (.str s)) (some (.int .i64 2)) = some (.str (s.drop 2)) := slis_drop (n := 2) hl2
      have w1 : IntKind.i64.wrap ((s.length : Int) - 2) = ((s.length - 2 : Nat) : Int) := by rw [← wrap_nat (n := s.length - 2) (by omega)]; congr 1; omega
      have w2 : IntKind.i64.wrap ((4 : Int) * ((s.length - 2 : Nat) : Int)) = ((4 * (s.length - 2) : Nat) : Int) := by rw [← wrap_nat (n := 4 * (s.length - 2)) (by omega)]; congr 1
      rw [hx] at k1
      rcases q2 with ⟨ne, σ2, g1, g2, g3, hbad⟩ | ⟨rfl, hgood, ⟨σ2, g1, g2, g3⟩, σ3, A, g4, g5, g6, g7, g8, g9, g10, g11⟩
      · have d2 : (e1 != 0) = true := by simpa using ne
        simp only [c5, q0, u0, q1, u1, q2, u2, q3, u3, q4, u4, q5, u5, q6, u6, q7, u7, q8, u8, q9, u9, q10, u10, q11, u11, q12, u12, q13, u13, q14, u14, q15, u15, q16, u16, q17, u17, q18, u18, q19, u19, q20, u20, q21, u21, q22, u22, q23, u23, q24, u24, q25, u25, q26, u26, q27, u27, q28, u28, q29, u29, q30, u30, q31, u31, q32, u32, q33, u33, q34, u34, q35, u35, q36, u36, q37, u37, q38, u38, q39, u39, q40, u40, q41, u41, q42, u42, q43, u43, q44, u44, q45, u45, q46, u46, q47, u47, q48, u48, q49, u49, q50, u50, q51, u51, q52, u52, q53, u53, q54, u54, q55, u55, q56, u56, q57, u57, q58, u58, q59, u59, q60, u60, q61, u61, q62, u62, q63, u63, q64, u64, q65, u65, q66, u66, q67, u67, q68, u68, q69, u69, q70, u70, q71, u71, q72, u72, q73, u73, q74, u74, q75, u75, q76, u76, q77, u77, q78, u78, q79, u79, q80, u80, q81, u81, q82, u82, q83, u83, q84, u84, q85, u85, q86, u86, q87, u87, q88, u88, q89, u89, q90, u90, q91, u91, q92, u92, q93, u93, q94, u94, q95, u95, q96, u96, q97, u97, q98, u98, q99, u99, q100, u100, q101, u101, q102, u102, q103, u103, q104, u104, q105, u105, q106, u106, q107, u107, q108, u108, q109, u109, q110, u110, q111, u111, q112, u112, q113, u113, q114, u114, q115, u115, q116, u116, q117, u117, q118, u118, q119, u119, q120, u120, q121, u121, q122, u122, q123, u123, q124, u124, q125, u125, q126, u126, q127, u127, q128, u128, q129, u129, q130, u130, q131, u131, q132, u132, q133, u133, q134, u134, q135, u135, q136, u136, oP, oR, oA, oH, oPn, oRn, oAn, oHn, bi, ld, ki, kt, kf, s_ops_nil, s_ops_cons, s_ops_nx, s_ops_pn, s_seq, s_seq_nx, s_seq_ex, s_seq_rt, s_skip, s_ret, s_exit, s_reg, s_cond, s_cond_t, s_cond_f, s_blk, s_blk_nx, s_blk_rt, s_blk_ex, s_put, s_P, s_R, s_A, s_A_some, s_C_ret, s_C_pan, s_H, s_H_ok, s_H_call, s_H_pan, s_gd, s_gd_bool, s_gd_undef, e_t, e_k, e_mv, e_pick, e_pick_b, e_bin, e_add_i64, e_add_i32, e_sub_i64, e_sub_u8, e_mul_i64, e_addU, e_mulU, e_addU32, e_mulU32, e_eql, e_neq, e_lss, e_leq, e_gtr, e_geq, e_str_eql, e_str_neq, e_iaddr, e_iaddr_int, e_lens, e_ld, e_extract, e_ex0, e_ex1, e_ex2, e_lenS, e_lenS_str, e_cii, e_cii_int, e_slsl_hm, e_sl2, e_slsl_h, e_sl1, e_slis, e_evL_nil, e_evL_cons, e_cons, e_call, e_callk, e_app, e_appk, e_store, e_stk, e_next, e_nextk, e_range, e_rangek, e_bs1, e_bs1i, e_bs0, e_mksl, e_mkslk, e_AK_sl, e_AK_it, e_AK_ptr, e_not, e_notb, e_xori, e_idxs, s_Hn, s_Hnk, s_Nx, s_Rt, s_NR_nx, s_NR_rt, s_NXT_nx, s_NXT_ex, s_NXT_rt, e_lenV_sl, e_lenV_nils, get_pk, k_bind, true_and, and_true, if_true, if_false, Bool.true_eq, beq_self_eq_true, reduceIte, Bool.false_eq_true, reduceCtorEq, bne_self_eq_false, Nat.reduceAdd, Nat.reduceLeDiff, Nat.reduceEqDiff, Nat.reduceSub, Nat.reduceBEq, Int.reduceBEq, Int.reduceNeg, Int.reduceLT, Int.reduceLE, Nat.succ_ne_self, Bool.not_true, Bool.not_false, Bool.true_beq, Bool.false_beq, decide_true, decide_false, exists_eq_left', Option.some.injEq, e_alloc, e_build0, e_slis_lo, h0, d1, hσ0, k1, sd, q1, d2, g1]
        exact ⟨σ.nx, _, _, _, rfl, g2, rfl, g3, .inr (.inl ⟨by omega, fun h => hbad h.2, rfl, rfl, rfl⟩)⟩
      · have d2 : ((0 : Int) != 0) = false := by decide
        by_cases hwide : 4096 < 4 * (s.length - 2)
        · have d3 : decide ((4096 : Int) < ((4 * (s.length - 2) : Nat) : Int)) = true := by simp; omega
          simp only [c5, q0, u0, q1, u1, q2, u2, q3, u3, q4, u4, q5, u5, q6, u6, q7, u7, q8, u8, q9, u9, q10, u10, q11, u11, q12, u12, q13, u13, q14, u14, q15, u15, q16, u16, q17, u17, q18, u18, q19, u19, q20, u20, q21, u21, q22, u22, q23, u23, q24, u24, q25, u25, q26, u26, q27, u27, q28, u28, q29, u29, q30, u30, q31, u31, q32, u32, q33, u33, q34, u34, q35, u35, q36, u36, q37, u37, q38, u38, q39, u39, q40, u40, q41, u41, q42, u42, q43, u43, q44, u44, q45, u45, q46, u46, q47, u47, q48, u48, q49, u49, q50, u50, q51, u51, q52, u52, q53, u53, q54, u54, q55, u55, q56, u56, q57, u57, q58, u58, q59, u59, q60, u60, q61, u61, q62, u62, q63, u63, q64, u64, q65, u65, q66, u66, q67, u67, q68, u68, q69, u69, q70, u70, q71, u71, q72, u72, q73, u73, q74, u74, q75, u75, q76, u76, q77, u77, q78, u78, q79, u79, q80, u80, q81, u81, q82, u82, q83, u83, q84, u84, q85, u85, q86, u86, q87, u87, q88, u88, q89, u89, q90, u90, q91, u91, q92, u92, q93, u93, q94, u94, q95, u95, q96, u96, q97, u97, q98, u98, q99, u99, q100, u100, q101, u101, q102, u102, q103, u103, q104, u104, q105, u105, q106, u106, q107, u107, q108, u108, q109, u109, q110, u110, q111, u111, q112, u112, q113, u113, q114, u114, q115, u115, q116, u116, q117, u117, q118, u118, q119, u119, q120, u120, q121, u121, q122, u122, q123, u123, q124, u124, q125, u125, q126, u126, q127, u127, q128, u128, q129, u129, q130, u130, q131, u131, q132, u132, q133, u133, q134, u134, q135, u135, q136, u136, oP, oR, oA, oH, oPn, oRn, oAn, oHn, bi, ld, ki, kt, kf, s_ops_nil, s_ops_cons, s_ops_nx, s_ops_pn, s_seq, s_seq_nx, s_seq_ex, s_seq_rt, s_skip, s_ret, s_exit, s_reg, s_cond, s_cond_t, s_cond_f, s_blk, s_blk_nx, s_blk_rt, s_blk_ex, s_put, s_P, s_R, s_A, s_A_some, s_C_ret, s_C_pan, s_H, s_H_ok, s_H_call, s_H_pan, s_gd, s_gd_bool, s_gd_undef, e_t, e_k, e_mv, e_pick, e_pick_b, e_bin, e_add_i64, e_add_i32, e_sub_i64, e_sub_u8, e_mul_i64, e_addU, e_mulU, e_addU32, e_mulU32, e_eql, e_neq, e_lss, e_leq, e_gtr, e_geq, e_str_eql, e_str_neq, e_iaddr, e_iaddr_int, e_lens, e_ld, e_extract, e_ex0, e_ex1, e_ex2, e_lenS, e_lenS_str, e_cii, e_cii_int, e_slsl_hm, e_sl2, e_slsl_h, e_sl1, e_slis, e_evL_nil, e_evL_cons, e_cons, e_call, e_callk, e_app, e_appk, e_store, e_stk, e_next, e_nextk, e_range, e_rangek, e_bs1, e_bs1i, e_bs0, e_mksl, e_mkslk, e_AK_sl, e_AK_it, e_AK_ptr, e_not, e_notb, e_xori, e_idxs, s_Hn, s_Hnk, s_Nx, s_Rt, s_NR_nx, s_NR_rt, s_NXT_nx, s_NXT_ex, s_NXT_rt, e_lenV_sl, e_lenV_nils, get_pk, k_bind, true_and, and_true, if_true, if_false, Bool.true_eq, beq_self_eq_true, reduceIte, Bool.false_eq_true, reduceCtorEq, bne_self_eq_false, Nat.reduceAdd, Nat.reduceLeDiff, Nat.reduceEqDiff, Nat.reduceSub, Nat.reduceBEq, Int.reduceBEq, Int.reduceNeg, Int.reduceLT, Int.reduceLE, Nat.succ_ne_self, Bool.not_true, Bool.not_false, Bool.true_beq, Bool.false_beq, decide_true, decide_false, exists_eq_left', Option.some.injEq, e_alloc, e_build0, e_slis_lo, h0, d1, hσ0, k1, sd, q1, d2, w1, w2, d3, g1]
          exact ⟨σ.nx, _, _, _, rfl, g2, rfl, g3, .inr (.inr (.inl ⟨by omega, hP, hgood, by rw [he]; exact hwide, rfl, rfl, rfl⟩))⟩
        · have d3 : decide ((4096 : Int) < ((4 * (s.length - 2) : Nat) : Int)) = false := by simp; omega
          have kb : kB2 (some (.int .i64 (4 * (s.length - 2) : Nat))) (some v1) = some (.agg [.int .i64 (4 * (s.length - 2) : Nat), v1]) := kB2_one rfl (cellsOne v1 hv1)
          simp only [c5, q0, u0, q1, u1, q2, u2, q3, u3, q4, u4, q5, u5, q6, u6, q7, u7, q8, u8, q9, u9, q10, u10, q11, u11, q12, u12, q13, u13, q14, u14, q15, u15, q16, u16, q17, u17, q18, u18, q19, u19, q20, u20, q21, u21, q22, u22, q23, u23, q24, u24, q25, u25, q26, u26, q27, u27, q28, u28, q29, u29, q30, u30, q31, u31, q32, u32, q33, u33, q34, u34, q35, u35, q36, u36, q37, u37, q38, u38, q39, u39, q40, u40, q41, u41, q42, u42, q43, u43, q44, u44, q45, u45, q46, u46, q47, u47, q48, u48, q49, u49, q50, u50, q51, u51, q52, u52, q53, u53, q54, u54, q55, u55, q56, u56, q57, u57, q58, u58, q59, u59, q60, u60, q61, u61, q62, u62, q63, u63, q64, u64, q65, u65, q66, u66, q67, u67, q68, u68, q69, u69, q70, u70, q71, u71, q72, u72, q73, u73, q74, u74, q75, u75, q76, u76, q77, u77, q78, u78, q79, u79, q80, u80, q81, u81, q82, u82, q83, u83, q84, u84, q85, u85, q86, u86, q87, u87, q88, u88, q89, u89, q90, u90, q91, u91, q92, u92, q93, u93, q94, u94, q95, u95, q96, u96, q97, u97, q98, u98, q99, u99, q100, u100, q101, u101, q102, u102, q103, u103, q104, u104, q105, u105, q106, u106, q107, u107, q108, u108, q109, u109, q110, u110, q111, u111, q112, u112, q113, u113, q114, u114, q115, u115, q116, u116, q117, u117, q118, u118, q119, u119, q120, u120, q121, u121, q122, u122, q123, u123, q124, u124, q125, u125, q126, u126, q127, u127, q128, u128, q129, u129, q130, u130, q131, u131, q132, u132, q133, u133, q134, u134, q135, u135, q136, u136, oP, oR, oA, oH, oPn, oRn, oAn, oHn, bi, ld, ki, kt, kf, s_ops_nil, s_ops_cons, s_ops_nx, s_ops_pn, s_seq, s_seq_nx, s_seq_ex, s_seq_rt, s_skip, s_ret, s_exit, s_reg, s_cond, s_cond_t, s_cond_f, s_blk, s_blk_nx, s_blk_rt, s_blk_ex, s_put, s_P, s_R, s_A, s_A_some, s_C_ret, s_C_pan, s_H, s_H_ok, s_H_call, s_H_pan, s_gd, s_gd_bool, s_gd_undef, e_t, e_k, e_mv, e_pick, e_pick_b, e_bin, e_add_i64, e_add_i32, e_sub_i64, e_sub_u8, e_mul_i64, e_addU, e_mulU, e_addU32, e_mulU32, e_eql, e_neq, e_lss, e_leq, e_gtr, e_geq, e_str_eql, e_str_neq, e_iaddr, e_iaddr_int, e_lens, e_ld, e_extract, e_ex0, e_ex1, e_ex2, e_lenS, e_lenS_str, e_cii, e_cii_int, e_slsl_hm, e_sl2, e_slsl_h, e_sl1, e_slis, e_evL_nil, e_evL_cons, e_cons, e_call, e_callk, e_app, e_appk, e_store, e_stk, e_next, e_nextk, e_range, e_rangek, e_bs1, e_bs1i, e_bs0, e_mksl, e_mkslk, e_AK_sl, e_AK_it, e_AK_ptr, e_not, e_notb, e_xori, e_idxs, s_Hn, s_Hnk, s_Nx, s_Rt, s_NR_nx, s_NR_rt, s_NXT_nx, s_NXT_ex, s_NXT_rt, e_lenV_sl, e_lenV_nils, get_pk, k_bind, true_and, and_true, if_true, if_false, Bool.true_eq, beq_self_eq_true, reduceIte, Bool.false_eq_true, reduceCtorEq, bne_self_eq_false, Nat.reduceAdd, Nat.reduceLeDiff, Nat.reduceEqDiff, Nat.reduceSub, Nat.reduceBEq, Int.reduceBEq, Int.reduceNeg, Int.reduceLT, Int.reduceLE, Nat.succ_ne_self, Bool.not_true, Bool.not_false, Bool.true_beq, Bool.false_beq, decide_true, decide_false, exists_eq_left', Option.some.injEq, e_alloc, e_build0, e_build2, e_slis_lo, h0, d1, hσ0, k1, sd, q1, d2, w1, w2, d3, kb, g4]
          exact ⟨σ.nx, _, _, _, rfl, g5, rfl, g6, .inr (.inr (.inr ⟨by omega, hP, hgood, by rw [he]; omega, by rw [he], rfl, A, g7, g8, g9, g10, g11⟩))⟩
    · have hx' : hasP s [35, 120] = false := by simpa using hx
      have hb : baseOf s = 2 := by simp [baseOf, hx']
      have he : eachOf s = 1 := by simp [eachOf, hx']
      rw [hx'] at k1
      by_cases hbb : hasP s [35, 98] = true
      · have hP : isP s := .inr hbb
        have hl2 := h2 hP
        obtain ⟨v1, e1, σ1, q1, hv1, q2⟩ := main 1 hP he (by omega)
        rw [hb, show (((2 : Nat)) : Int) = 2 from rfl] at q1
        have sd : kSlisLo (some (.str s)) (some (.int .i64 2)) = some (.str (s.drop 2)) := slis_drop (n := 2) hl2
        have w1 : IntKind.i64.wrap ((s.length : Int) - 2) = ((s.length - 2 : Nat) : Int) := by rw [← wrap_nat (n := s.length - 2) (by omega)]; congr 1; omega
        have w2 : IntKind.i64.wrap ((1 : Int) * ((s.length - 2 : Nat) : Int)) = ((1 * (s.length - 2) : Nat) : Int) := by rw [← wrap_nat (n := 1 * (s.length - 2)) (by omega)]; congr 1
        rw [hbb] at k2
        rcases q2 with ⟨ne, σ2, g1, g2, g3, hbad⟩ | ⟨rfl, hgood, ⟨σ2, g1, g2, g3⟩, σ3, A, g4, g5, g6, g7, g8, g9, g10, g11⟩
        · have d2 : (e1 != 0) = true := by simpa using ne
          simp only [c5, q0, u0, q1, u1, q2, u2, q3, u3, q4, u4, q5, u5, q6, u6, q7, u7, q8, u8, q9, u9, q10, u10, q11, u11, q12, u12, q13, u13, q14, u14, q15, u15, q16, u16, q17, u17, q18, u18, q19, u19, q20, u20, q21, u21, q22, u22, q23, u23, q24, u24, q25, u25, q26, u26, q27, u27, q28, u28, q29, u29, q30, u30, q31, u31, q32, u32, q33, u33, q34, u34, q35, u35, q36, u36, q37, u37, q38, u38, q39, u39, q40, u40, q41, u41, q42, u42, q43, u43, q44, u44, q45, u45, q46, u46, q47, u47, q48, u48, q49, u49, q50, u50, q51, u51, q52, u52, q53, u53, q54, u54, q55, u55, q56, u56, q57, u57, q58, u58, q59, u59, q60, u60, q61, u61, q62, u62, q63, u63, q64, u64, q65, u65, q66, u66, q67, u67, q68, u68, q69, u69, q70, u70, q71, u71, q72, u72, q73, u73, q74, u74, q75, u75, q76, u76, q77, u77, q78, u78, q79, u79, q80, u80, q81, u81, q82, u82, q83, u83, q84, u84, q85, u85, q86, u86, q87, u87, q88, u88, q89, u89, q90, u90, q91, u91, q92, u92, q93, u93, q94, u94, q95, u95, q96, u96, q97, u97, q98, u98, q99, u99, q100, u100, q101, u101, q102, u102, q103, u103, q104, u104, q105, u105, q106, u106, q107, u107, q108, u108, q109, u109, q110, u110, q111, u111, q112, u112, q113, u113, q114, u114, q115, u115, q116, u116, q117, u117, q118, u118, q119, u119, q120, u120, q121, u121, q122, u122, q123, u123, q124, u124, q125, u125, q126, u126, q127, u127, q128, u128, q129, u129, q130, u130, q131, u131, q132, u132, q133, u133, q134, u134, q135, u135, q136, u136, oP, oR, oA, oH, oPn, oRn, oAn, oHn, bi, ld, ki, kt, kf, s_ops_nil, s_ops_cons, s_ops_nx, s_ops_pn, s_seq, s_seq_nx, s_seq_ex, s_seq_rt, s_skip, s_ret, s_exit, s_reg, s_cond, s_cond_t, s_cond_f, s_blk, s_blk_nx, s_blk_rt, s_blk_ex, s_put, s_P, s_R, s_A, s_A_some, s_C_ret, s_C_pan, s_H, s_H_ok, s_H_call, s_H_pan, s_gd, s_gd_bool, s_gd_undef, e_t, e_k, e_mv, e_pick, e_pick_b, e_bin, e_add_i64, e_add_i32, e_sub_i64, e_sub_u8, e_mul_i64, e_addU, e_mulU, e_addU32, e_mulU32, e_eql, e_neq, e_lss, e_leq, e_gtr, e_geq, e_str_eql, e_str_neq, e_iaddr, e_iaddr_int, e_lens, e_ld, e_extract, e_ex0, e_ex1, e_ex2, e_lenS, e_lenS_str, e_cii, e_cii_int, e_slsl_hm, e_sl2, e_slsl_h, e_sl1, e_slis, e_evL_nil, e_evL_cons, e_cons, e_call, e_callk, e_app, e_appk, e_store, e_stk, e_next, e_nextk, e_range, e_rangek, e_bs1, e_bs1i, e_bs0, e_mksl, e_mkslk, e_AK_sl, e_AK_it, e_AK_ptr, e_not, e_notb, e_xori, e_idxs, s_Hn, s_Hnk, s_Nx, s_Rt, s_NR_nx, s_NR_rt, s_NXT_nx, s_NXT_ex, s_NXT_rt, e_lenV_sl, e_lenV_nils, get_pk, k_bind, true_and, and_true, if_true, if_false, Bool.true_eq, beq_self_eq_true, reduceIte, Bool.false_eq_true, reduceCtorEq, bne_self_eq_false, Nat.reduceAdd, Nat.reduceLeDiff, Nat.reduceEqDiff, Nat.reduceSub, Nat.reduceBEq, Int.reduceBEq, Int.reduceNeg, Int.reduceLT, Int.reduceLE, Nat.succ_ne_self, Bool.not_true, Bool.not_false, Bool.true_beq, Bool.false_beq, decide_true, decide_false, exists_eq_left', Option.some.injEq, e_alloc, e_build0, e_slis_lo, h0, d1, hσ0, k1, k2, sd, q1, d2, g1]
          exact ⟨σ.nx, _, _, _, rfl, g2, rfl, g3, .inr (.inl ⟨by omega, fun h => hbad h.2, rfl, rfl, rfl⟩)⟩
        · have d2 : ((0 : Int) != 0) = false := by decide
          have hwide : ¬ 4096 < 1 * (s.length - 2) := by omega
          have d3 : decide ((4096 : Int) < ((1 * (s.length - 2) : Nat) : Int)) = false := by simp; omega
          have kb : kB2 (some (.int .i64 (1 * (s.length - 2) : Nat))) (some v1) = some (.agg [.int .i64 (1 * (s.length - 2) : Nat), v1]) := kB2_one rfl (cellsOne v1 hv1)
          simp only [c5, q0, u0, q1, u1, q2, u2, q3, u3, q4, u4, q5, u5, q6, u6, q7, u7, q8, u8, q9, u9, q10, u10, q11, u11, q12, u12, q13, u13, q14, u14, q15, u15, q16, u16, q17, u17, q18, u18, q19, u19, q20, u20, q21, u21, q22, u22, q23, u23, q24, u24, q25, u25, q26, u26, q27, u27, q28, u28, q29, u29, q30, u30, q31, u31, q32, u32, q33, u33, q34, u34, q35, u35, q36, u36, q37, u37, q38, u38, q39, u39, q40, u40, q41, u41, q42, u42, q43, u43, q44, u44, q45, u45, q46, u46, q47, u47, q48, u48, q49, u49, q50, u50, q51, u51, q52, u52, q53, u53, q54, u54, q55, u55, q56, u56, q57, u57, q58, u58, q59, u59, q60, u60, q61, u61, q62, u62, q63, u63, q64, u64, q65, u65, q66, u66, q67, u67, q68, u68, q69, u69, q70, u70, q71, u71, q72, u72, q73, u73, q74, u74, q75, u75, q76, u76, q77, u77, q78, u78, q79, u79, q80, u80, q81, u81, q82, u82, q83, u83, q84, u84, q85, u85, q86, u86, q87, u87, q88, u88, q89, u89, q90, u90, q91, u91, q92, u92, q93, u93, q94, u94, q95, u95, q96, u96, q97, u97, q98, u98, q99, u99, q100, u100, q101, u101, q102, u102, q103, u103, q104, u104, q105, u105, q106, u106, q107, u107, q108, u108, q109, u109, q110, u110, q111, u111, q112, u112, q113, u113, q114, u114, q115, u115, q116, u116, q117, u117, q118, u118, q119, u119, q120, u120, q121, u121, q122, u122, q123, u123, q124, u124, q125, u125, q126, u126, q127, u127, q128, u128, q129, u129, q130, u130, q131, u131, q132, u132, q133, u133, q134, u134, q135, u135, q136, u136, oP, oR, oA, oH, oPn, oRn, oAn, oHn, bi, ld, ki, kt, kf, s_ops_nil, s_ops_cons, s_ops_nx, s_ops_pn, s_seq, s_seq_nx, s_seq_ex, s_seq_rt, s_skip, s_ret, s_exit, s_reg, s_cond, s_cond_t, s_cond_f, s_blk, s_blk_nx, s_blk_rt, s_blk_ex, s_put, s_P, s_R, s_A, s_A_some, s_C_ret, s_C_pan, s_H, s_H_ok, s_H_call, s_H_pan, s_gd, s_gd_bool, s_gd_undef, e_t, e_k, e_mv, e_pick, e_pick_b, e_bin, e_add_i64, e_add_i32, e_sub_i64, e_sub_u8, e_mul_i64, e_addU, e_mulU, e_addU32, e_mulU32, e_eql, e_neq, e_lss, e_leq, e_gtr, e_geq, e_str_eql, e_str_neq, e_iaddr, e_iaddr_int, e_lens, e_ld, e_extract, e_ex0, e_ex1, e_ex2, e_lenS, e_lenS_str, e_cii, e_cii_int, e_slsl_hm, e_sl2, e_slsl_h, e_sl1, e_slis, e_evL_nil, e_evL_cons, e_cons, e_call, e_callk, e_app, e_appk, e_store, e_stk, e_next, e_nextk, e_range, e_rangek, e_bs1, e_bs1i, e_bs0, e_mksl, e_mkslk, e_AK_sl, e_AK_it, e_AK_ptr, e_not, e_notb, e_xori, e_idxs, s_Hn, s_Hnk, s_Nx, s_Rt, s_NR_nx, s_NR_rt, s_NXT_nx, s_NXT_ex, s_NXT_rt, e_lenV_sl, e_lenV_nils, get_pk, k_bind, true_and, and_true, if_true, if_false, Bool.true_eq, beq_self_eq_true, reduceIte, Bool.false_eq_true, reduceCtorEq, bne_self_eq_false, Nat.reduceAdd, Nat.reduceLeDiff, Nat.reduceEqDiff, Nat.reduceSub, Nat.reduceBEq, Int.reduceBEq, Int.reduceNeg, Int.reduceLT, Int.reduceLE, Nat.succ_ne_self, Bool.not_true, Bool.not_false, Bool.true_beq, Bool.false_beq, decide_true, decide_false, exists_eq_left', Option.some.injEq, e_alloc, e_build0, e_build2, e_slis_lo, h0, d1, hσ0, k1, k2, sd, q1, d2, w1, w2, d3, kb, g4]
          exact ⟨σ.nx, _, _, _, rfl, g5, rfl, g6, .inr (.inr (.inr ⟨by omega, hP, hgood, by rw [he]; omega, by rw [he], rfl, A, g7, g8, g9, g10, g11⟩))⟩
      · have hbb' : hasP s [35, 98] = false := by simpa using hbb
        rw [hbb'] at k2
        simp only [c5, q0, u0, q1, u1, q2, u2, q3, u3, q4, u4, q5, u5, q6, u6, q7, u7, q8, u8, q9, u9, q10, u10, q11, u11, q12, u12, q13, u13, q14, u14, q15, u15, q16, u16, q17, u17, q18, u18, q19, u19, q20, u20, q21, u21, q22, u22, q23, u23, q24, u24, q25, u25, q26, u26, q27, u27, q28, u28, q29, u29, q30, u30, q31, u31, q32, u32, q33, u33, q34, u34, q35, u35, q36, u36, q37, u37, q38, u38, q39, u39, q40, u40, q41, u41, q42, u42, q43, u43, q44, u44, q45, u45, q46, u46, q47, u47, q48, u48, q49, u49, q50, u50, q51, u51, q52, u52, q53, u53, q54, u54, q55, u55, q56, u56, q57, u57, q58, u58, q59, u59, q60, u60, q61, u61, q62, u62, q63, u63, q64, u64, q65, u65, q66, u66, q67, u67, q68, u68, q69, u69, q70, u70, q71, u71, q72, u72, q73, u73, q74, u74, q75, u75, q76, u76, q77, u77, q78, u78, q79, u79, q80, u80, q81, u81, q82, u82, q83, u83, q84, u84, q85, u85, q86, u86, q87, u87, q88, u88, q89, u89, q90, u90, q91, u91, q92, u92, q93, u93, q94, u94, q95, u95, q96, u96, q97, u97, q98, u98, q99, u99, q100, u100, q101, u101, q102, u102, q103, u103, q104, u104, q105, u105, q106, u106, q107, u107, q108, u108, q109, u109, q110, u110, q111, u111, q112, u112, q113, u113, q114, u114, q115, u115, q116, u116, q117, u117, q118, u118, q119, u119, q120, u120, q121, u121, q122, u122, q123, u123, q124, u124, q125, u125, q126, u126, q127, u127, q128, u128, q129, u129, q130, u130, q131, u131, q132, u132, q133, u133, q134, u134, q135, u135, q136, u136, oP, oR, oA, oH, oPn, oRn, oAn, oHn, bi, ld, ki, kt, kf, s_ops_nil, s_ops_cons, s_ops_nx, s_ops_pn, s_seq, s_seq_nx, s_seq_ex, s_seq_rt, s_skip, s_ret, s_exit, s_reg, s_cond, s_cond_t, s_cond_f, s_blk, s_blk_nx, s_blk_rt, s_blk_ex, s_put, s_P, s_R, s_A, s_A_some, s_C_ret, s_C_pan, s_H, s_H_ok, s_H_call, s_H_pan, s_gd, s_gd_bool, s_gd_undef, e_t, e_k, e_mv, e_pick, e_pick_b, e_bin, e_add_i64, e_add_i32, e_sub_i64, e_sub_u8, e_mul_i64, e_addU, e_mulU, e_addU32, e_mulU32, e_eql, e_neq, e_lss, e_leq, e_gtr, e_geq, e_str_eql, e_str_neq, e_iaddr, e_iaddr_int, e_lens, e_ld, e_extract, e_ex0, e_ex1, e_ex2, e_lenS, e_lenS_str, e_cii, e_cii_int, e_slsl_hm, e_sl2, e_slsl_h, e_sl1, e_slis, e_evL_nil, e_evL_cons, e_cons, e_call, e_callk, e_app, e_appk, e_store, e_stk, e_next, e_nextk, e_range, e_rangek, e_bs1, e_bs1i, e_bs0, e_mksl, e_mkslk, e_AK_sl, e_AK_it, e_AK_ptr, e_not, e_notb, e_xori, e_idxs, s_Hn, s_Hnk, s_Nx, s_Rt, s_NR_nx, s_NR_rt, s_NXT_nx, s_NXT_ex, s_NXT_rt, e_lenV_sl, e_lenV_nils, get_pk, k_bind, true_and, and_true, if_true, if_false, Bool.true_eq, beq_self_eq_true, reduceIte, Bool.false_eq_true, reduceCtorEq, bne_self_eq_false, Nat.reduceAdd, Nat.reduceLeDiff, Nat.reduceEqDiff, Nat.reduceSub, Nat.reduceBEq, Int.reduceBEq, Int.reduceNeg, Int.reduceLT, Int.reduceLE, Nat.succ_ne_self, Bool.not_true, Bool.not_false, Bool.true_beq, Bool.false_beq, decide_true, decide_false, exists_eq_left', Option.some.injEq, e_alloc, e_build0, h0, d1, hσ0, k1, k2, f1]
        exact ⟨σ.nx, _, _, _, rfl, f2, rfl, f3, .inr (.inl ⟨by omega, fun h => by rcases h.1 with h | h; exact hx h; exact hbb h, rfl, rfl, rfl⟩)⟩
end Go.Proofs.YtahgfodccndcjaaGreatEng

namespace Go.Proofs.YtahgfodccndcjaaGreatEng
open Go
set_option maxRecDepth 100000
set_option linter.unusedSimpArgs false

theorem c16_at : T1.code 16 = some c16 := by kernel_rfl
/-- a digit's value in any base -/
def digR (c : Nat) : Int := valR c 16
/-- digit -/
theorem digit_call {lf m : Nat} {σ : H} {c : Nat} (hc : c < 256) : call T1 lf (m + 1) 16 [.int .u8 c] σ = .ret (.int .i64 (digR c)) σ := by
  have key : ∃ v σ', call T1 lf (m + 1) 16 [.int .u8 c] σ = .ret v σ' ∧ (v = .int .i64 (digR c) ∧ σ' = σ) := by
    refine call_rt1 (p := pk 2) rfl c16_at (by simp [c16]) rfl fun cf hcf => ?_
    clear hcf
    generalize hτ : bindArgs [.int .u8 (c : Int)] .h .lf = τ0
    have h0 : τ0.get (pk 0) = some (.int .u8 c) := by rw [← hτ]; rfl
    clear hτ
    have w8 : ∀ n : Nat, n < 256 → IntKind.u8.wrap (n : Int) = (n : Int) := fun n hn => by simp [IntKind.wrap, IntKind.bits, IntKind.signed]; omega
    have wsub : ∀ k : Nat, k ≤ c → IntKind.u8.wrap ((c : Int) - (k : Int)) = ((c - k : Nat) : Int) := fun k hk => by rw [← w8 (c - k) (by omega)]; congr 1; omega
    have wi : ∀ n : Nat, n < 256 → IntKind.i64.wrap (n : Int) = (n : Int) := fun n hn => wrap_nat (by omega)
    have wi10 : ∀ n : Nat, n < 256 → IntKind.i64.wrap ((n : Int) + 10) = ((n + 10 : Nat) : Int) := fun n hn => wrap_add (k := 10) (by omega)
    have le : ∀ a b : Nat, a ≤ b → decide ((a : Int) ≤ (b : Int)) = true := fun a b h => by simp; exact h
    have nle : ∀ a b : Nat, ¬ a ≤ b → decide ((a : Int) ≤ (b : Int)) = false := fun a b h => by simp; omega
    have dR : ∀ z : Int, (∀ c' : Int, c' = (c : Int) → valR c' 16 = z) → digR c = z := fun z h => h _ rfl
    by_cases hA : c < 48
    · have f0 : decide ((48 : Int) ≤ (c : Int)) = false := nle 48 c (by omega)
      have f1 : decide ((97 : Int) ≤ (c : Int)) = false := nle 97 c (by omega)
      have f2 : decide ((65 : Int) ≤ (c : Int)) = false := nle 65 c (by omega)
      have hd : digR c = -1 := dR _ fun c' h => by subst h; unfold valR; rw [if_neg (by omega), if_neg (by omega), if_neg (by omega)]
      simp only [c16, q0, u0, q1, u1, q2, u2, q3, u3, q4, u4, q5, u5, q6, u6, q7, u7, q8, u8, q9, u9, q10, u10, q11, u11, q12, u12, q13, u13, q14, u14, q15, u15, q16, u16, q17, u17, q18, u18, q19, u19, q20, u20, q21, u21, q22, u22, q23, u23, q24, u24, q25, u25, q26, u26, q27, u27, q28, u28, q29, u29, q30, u30, q31, u31, q32, u32, q33, u33, q34, u34, q35, u35, q36, u36, q37, u37, q38, u38, q39, u39, q40, u40, q41, u41, q42, u42, q43, u43, q44, u44, q45, u45, q46, u46, q47, u47, q48, u48, q49, u49, q50, u50, q51, u51, q52, u52, q53, u53, q54, u54, q55, u55, q56, u56, q57, u57, q58, u58, q59, u59, q60, u60, q61, u61, q62, u62, q63, u63, q64, u64, q65, u65, q66, u66, q67, u67, q68, u68, q69, u69, q70, u70, q71, u71, q72, u72, q73, u73, q74, u74, q75, u75, q76, u76, q77, u77, q78, u78, q79, u79, q80, u80, q81, u81, q82, u82, q83, u83, q84, u84, q85, u85, q86, u86, q87, u87, q88, u88, q89, u89, q90, u90, q91, u91, q92, u92, q93, u93, q94, u94, q95, u95, q96, u96, q97, u97, q98, u98, q99, u99, q100, u100, q101, u101, q102, u102, q103, u103, q104, u104, q105, u105, q106, u106, q107, u107, q108, u108, q109, u109, q110, u110, q111, u111, q112, u112, q113, u113, q114, u114, q115, u115, q116, u116, q117, u117, q118, u118, q119, u119, q120, u120, q121, u121, q122, u122, q123, u123, q124, u124, q125, u125, q126, u126, q127, u127, q128, u128, q129, u129, q130, u130, q131, u131, q132, u132, q133, u133, q134, u134, q135, u135, q136, u136, oP, oR, oA, oH, oPn, oRn, oAn, oHn, bi, ld, ki, kt, kf, s_ops_nil, s_ops_cons, s_ops_nx, s_ops_pn, s_seq, s_seq_nx, s_seq_ex, s_seq_rt, s_skip, s_ret, s_exit, s_reg, s_cond, s_cond_t, s_cond_f, s_blk, s_blk_nx, s_blk_rt, s_blk_ex, s_put, s_P, s_R, s_A, s_A_some, s_C_ret, s_C_pan, s_H, s_H_ok, s_H_call, s_H_pan, s_gd, s_gd_bool, s_gd_undef, e_t, e_k, e_mv, e_pick, e_pick_b, e_bin, e_add_i64, e_add_i32, e_sub_i64, e_sub_u8, e_mul_i64, e_addU, e_mulU, e_addU32, e_mulU32, e_eql, e_neq, e_lss, e_leq, e_gtr, e_geq, e_str_eql, e_str_neq, e_iaddr, e_iaddr_int, e_lens, e_ld, e_extract, e_ex0, e_ex1, e_ex2, e_lenS, e_lenS_str, e_cii, e_cii_int, e_slsl_hm, e_sl2, e_slsl_h, e_sl1, e_slis, e_evL_nil, e_evL_cons, e_cons, e_call, e_callk, e_app, e_appk, e_store, e_stk, e_next, e_nextk, e_range, e_rangek, e_bs1, e_bs1i, e_bs0, e_mksl, e_mkslk, e_AK_sl, e_AK_it, e_AK_ptr, e_not, e_notb, e_xori, e_idxs, s_Hn, s_Hnk, s_Nx, s_Rt, s_NR_nx, s_NR_rt, s_NXT_nx, s_NXT_ex, s_NXT_rt, e_lenV_sl, e_lenV_nils, get_pk, k_bind, true_and, and_true, if_true, if_false, Bool.true_eq, beq_self_eq_true, reduceIte, Bool.false_eq_true, reduceCtorEq, bne_self_eq_false, Nat.reduceAdd, Nat.reduceLeDiff, Nat.reduceEqDiff, Nat.reduceSub, Nat.reduceBEq, Int.reduceBEq, Int.reduceNeg, Int.reduceLT, Int.reduceLE, Nat.succ_ne_self, Bool.not_true, Bool.not_false, Bool.true_beq, Bool.false_beq, decide_true, decide_false, exists_eq_left', Option.some.injEq, h0, hd, f0, f1, f2]
    by_cases hA : c < 58
    · have f0 : decide ((48 : Int) ≤ (c : Int)) = true := le 48 c (by omega)
      have f1 : decide ((c : Int) ≤ (57 : Int)) = true := le c 57 (by omega)
      have hd : digR c = ((c - 48 : Nat) : Int) := dR _ fun c' h => by subst h; unfold valR; rw [if_pos (by omega), if_pos (by omega)]; omega
      have g1 : IntKind.u8.wrap ((c : Int) - 48) = ((c - 48 : Nat) : Int) := wsub 48 (by omega)
      simp only [c16, q0, u0, q1, u1, q2, u2, q3, u3, q4, u4, q5, u5, q6, u6, q7, u7, q8, u8, q9, u9, q10, u10, q11, u11, q12, u12, q13, u13, q14, u14, q15, u15, q16, u16, q17, u17, q18, u18, q19, u19, q20, u20, q21, u21, q22, u22, q23, u23, q24, u24, q25, u25, q26, u26, q27, u27, q28, u28, q29, u29, q30, u30, q31, u31, q32, u32, q33, u33, q34, u34, q35, u35, q36, u36, q37, u37, q38, u38, q39, u39, q40, u40, q41, u41, q42, u42, q43, u43, q44, u44, q45, u45, q46, u46, q47, u47, q48, u48, q49, u49, q50, u50, q51, u51, q52, u52, q53, u53, q54, u54, q55, u55, q56, u56, q57, u57, q58, u58, q59, u59, q60, u60, q61, u61, q62, u62, q63, u63, q64, u64, q65, u65, q66, u66, q67, u67, q68, u68, q69, u69, q70, u70, q71, u71, q72, u72, q73, u73, q74, u74, q75, u75, q76, u76, q77, u77, q78, u78, q79, u79, q80, u80, q81, u81, q82, u82, q83, u83, q84, u84, q85, u85, q86, u86, q87, u87, q88, u88, q89, u89, q90, u90, q91, u91, q92, u92, q93, u93, q94, u94, q95, u95, q96, u96, q97, u97, q98, u98, q99, u99, q100, u100, q101, u101, q102, u102, q103, u103, q104, u104, q105, u105, q106, u106, q107, u107, q108, u108, q109, u109, q110, u110, q111, u111, q112, u112, q113, u113, q114, u114, q115, u115, q116, u116, q117, u117, q118, u118, q119, u119, q120, u120, q121, u121, q122, u122, q123, u123, q124, u124, q125, u125, q126, u126, q127, u127, q128, u128, q129, u129, q130, u130, q131, u131, q132, u132, q133, u133, q134, u134, q135, u135, q136, u136, oP, oR, oA, oH, oPn, oRn, oAn, oHn, bi, ld, ki, kt, kf, s_ops_nil, s_ops_cons, s_ops_nx, s_ops_pn, s_seq, s_seq_nx, s_seq_ex, s_seq_rt, s_skip, s_ret, s_exit, s_reg, s_cond, s_cond_t, s_cond_f, s_blk, s_blk_nx, s_blk_rt, s_blk_ex, s_put, s_P, s_R, s_A, s_A_some, s_C_ret, s_C_pan, s_H, s_H_ok, s_H_call, s_H_pan, s_gd, s_gd_bool, s_gd_undef, e_t, e_k, e_mv, e_pick, e_pick_b, e_bin, e_add_i64, e_add_i32, e_sub_i64, e_sub_u8, e_mul_i64, e_addU, e_mulU, e_addU32, e_mulU32, e_eql, e_neq, e_lss, e_leq, e_gtr, e_geq, e_str_eql, e_str_neq, e_iaddr, e_iaddr_int, e_lens, e_ld, e_extract, e_ex0, e_ex1, e_ex2, e_lenS, e_lenS_str, e_cii, e_cii_int, e_slsl_hm, e_sl2, e_slsl_h, e_sl1, e_slis, e_evL_nil, e_evL_cons, e_cons, e_call, e_callk, e_app, e_appk, e_store, e_stk, e_next, e_nextk, e_range, e_rangek, e_bs1, e_bs1i, e_bs0, e_mksl, e_mkslk, e_AK_sl, e_AK_it, e_AK_ptr, e_not, e_notb, e_xori, e_idxs, s_Hn, s_Hnk, s_Nx, s_Rt, s_NR_nx, s_NR_rt, s_NXT_nx, s_NXT_ex, s_NXT_rt, e_lenV_sl, e_lenV_nils, get_pk, k_bind, true_and, and_true, if_true, if_false, Bool.true_eq, beq_self_eq_true, reduceIte, Bool.false_eq_true, reduceCtorEq, bne_self_eq_false, Nat.reduceAdd, Nat.reduceLeDiff, Nat.reduceEqDiff, Nat.reduceSub, Nat.reduceBEq, Int.reduceBEq, Int.reduceNeg, Int.reduceLT, Int.reduceLE, Nat.succ_ne_self, Bool.not_true, Bool.not_false, Bool.true_beq, Bool.false_beq, decide_true, decide_false, exists_eq_left', Option.some.injEq, h0, hd, g1, wi _ (show c - 48 < 256 by omega), f0, f1]
    by_cases hA : c < 65
    · have f0 : decide ((48 : Int) ≤ (c : Int)) = true := le 48 c (by omega)
      have f1 : decide ((c : Int) ≤ (57 : Int)) = false := nle c 57 (by omega)
      have f2 : decide ((97 : Int) ≤ (c : Int)) = false := nle 97 c (by omega)
      have f3 : decide ((65 : Int) ≤ (c : Int)) = false := nle 65 c (by omega)
      have hd : digR c = -1 := dR _ fun c' h => by subst h; unfold valR; rw [if_neg (by omega), if_neg (by omega), if_neg (by omega)]
      simp only [c16, q0, u0, q1, u1, q2, u2, q3, u3, q4, u4, q5, u5, q6, u6, q7, u7, q8, u8, q9, u9, q10, u10, q11, u11, q12, u12, q13, u13, q14, u14, q15, u15, q16, u16, q17, u17, q18, u18, q19, u19, q20, u20, q21, u21, q22, u22, q23, u23, q24, u24, q25, u25, q26, u26, q27, u27, q28, u28, q29, u29, q30, u30, q31, u31, q32, u32, q33, u33, q34, u34, q35, u35, q36, u36, q37, u37, q38, u38, q39, u39, q40, u40, q41, u41, q42, u42, q43, u43, q44, u44, q45, u45, q46, u46, q47, u47, q48, u48, q49, u49, q50, u50, q51, u51, q52, u52, q53, u53, q54, u54, q55, u55, q56, u56, q57, u57, q58, u58, q59, u59, q60, u60, q61, u61, q62, u62, q63, u63, q64, u64, q65, u65, q66, u66, q67, u67, q68, u68, q69, u69, q70, u70, q71, u71, q72, u72, q73, u73, q74, u74, q75, u75, q76, u76, q77, u77, q78, u78, q79, u79, q80, u80, q81, u81, q82, u82, q83, u83, q84, u84, q85, u85, q86, u86, q87, u87, q88, u88, q89, u89, q90, u90, q91, u91, q92, u92, q93, u93, q94, u94, q95, u95, q96, u96, q97, u97, q98, u98, q99, u99, q100, u100, q101, u101, q102, u102, q103, u103, q104, u104, q105, u105, q106, u106, q107, u107, q108, u108, q109, u109, q110, u110, q111, u111, q112, u112, q113, u113, q114, u114, q115, u115, q116, u116, q117, u117, q118, u118, q119, u119, q120, u120, q121, u121, q122, u122, q123, u123, q124, u124, q125, u125, q126, u126, q127, u127, q128, u128, q129, u129, q130, u130, q131, u131, q132, u132, q133, u133, q134, u134, q135, u135, q136, u136, oP, oR, oA, oH, oPn, oRn, oAn, oHn, bi, ld, ki, kt, kf, s_ops_nil, s_ops_cons, s_ops_nx, s_ops_pn, s_seq, s_seq_nx, s_seq_ex, s_seq_rt, s_skip, s_ret, s_exit, s_reg, s_cond, s_cond_t, s_cond_f, s_blk, s_blk_nx, s_blk_rt, s_blk_ex, s_put, s_P, s_R, s_A, s_A_some, s_C_ret, s_C_pan, s_H, s_H_ok, s_H_call, s_H_pan, s_gd, s_gd_bool, s_gd_undef, e_t, e_k, e_mv, e_pick, e_pick_b, e_bin, e_add_i64, e_add_i32, e_sub_i64, e_sub_u8, e_mul_i64, e_addU, e_mulU, e_addU32, e_mulU32, e_eql, e_neq, e_lss, e_leq, e_gtr, e_geq, e_str_eql, e_str_neq, e_iaddr, e_iaddr_int, e_lens, e_ld, e_extract, e_ex0, e_ex1, e_ex2, e_lenS, e_lenS_str, e_cii, e_cii_int, e_slsl_hm, e_sl2, e_slsl_h, e_sl1, e_slis, e_evL_nil, e_evL_cons, e_cons, e_call, e_callk, e_app, e_appk, e_store, e_stk, e_next, e_nextk, e_range, e_rangek, e_bs1, e_bs1i, e_bs0, e_mksl, e_mkslk, e_AK_sl, e_AK_it, e_AK_ptr, e_not, e_notb, e_xori, e_idxs, s_Hn, s_Hnk, s_Nx, s_Rt, s_NR_nx, s_NR_rt, s_NXT_nx, s_NXT_ex, s_NXT_rt, e_lenV_sl, e_lenV_nils, get_pk, k_bind, true_and, and_true, if_true, if_false, Bool.true_eq, beq_self_eq_true, reduceIte, Bool.false_eq_true, reduceCtorEq, bne_self_eq_false, Nat.reduceAdd, Nat.reduceLeDiff, Nat.reduceEqDiff, Nat.reduceSub, Nat.reduceBEq, Int.reduceBEq, Int.reduceNeg, Int.reduceLT, Int.reduceLE, Nat.succ_ne_self, Bool.not_true, Bool.not_false, Bool.true_beq, Bool.false_beq, decide_true, decide_false, exists_eq_left', Option.some.injEq, h0, hd, f0, f1, f2, f3]
    by_cases hA : c < 71
    · have f0 : decide ((48 : Int) ≤ (c : Int)) = true := le 48 c (by omega)
      have f1 : decide ((c : Int) ≤ (57 : Int)) = false := nle c 57 (by omega)
      have f2 : decide ((97 : Int) ≤ (c : Int)) = false := nle 97 c (by omega)
      have f3 : decide ((65 : Int) ≤ (c : Int)) = true := le 65 c (by omega)
      have f4 : decide ((c : Int) ≤ (70 : Int)) = true := le c 70 (by omega)
      have hd : digR c = ((c - 65 + 10 : Nat) : Int) := dR _ fun c' h => by subst h; unfold valR; rw [if_neg (by omega), if_neg (by omega), if_pos (by omega), if_pos (by omega)]; omega
      have g1 : IntKind.u8.wrap ((c : Int) - 65) = ((c - 65 : Nat) : Int) := wsub 65 (by omega)
      simp only [c16, q0, u0, q1, u1, q2, u2, q3, u3, q4, u4, q5, u5, q6, u6, q7, u7, q8, u8, q9, u9, q10, u10, q11, u11, q12, u12, q13, u13, q14, u14, q15, u15, q16, u16, q17, u17, q18, u18, q19, u19, q20, u20, q21, u21, q22, u22, q23, u23, q24, u24, q25, u25, q26, u26, q27, u27, q28, u28, q29, u29, q30, u30, q31, u31, q32, u32, q33, u33, q34, u34, q35, u35, q36, u36, q37, u37, q38, u38, q39, u39, q40, u40, q41, u41, q42, u42, q43, u43, q44, u44, q45, u45, q46, u46, q47, u47, q48, u48, q49, u49, q50, u50, q51, u51, q52, u52, q53, u53, q54, u54, q55, u55, q56, u56, q57, u57, q58, u58, q59, u59, q60, u60, q61, u61, q62, u62, q63, u63, q64, u64, q65, u65, q66, u66, q67, u67, q68, u68, q69, u69, q70, u70, q71, u71, q72, u72, q73, u73, q74, u74, q75, u75, q76, u76, q77, u77, q78, u78, q79, u79, q80, u80, q81, u81, q82, u82, q83, u83, q84, u84, q85, u85, q86, u86, q87, u87, q88, u88, q89, u89, q90, u90, q91, u91, q92, u92, q93, u93, q94, u94, q95, u95, q96, u96, q97, u97, q98, u98, q99, u99, q100, u100, q101, u101, q102, u102, q103, u103, q104, u104, q105, u105, q106, u106, q107, u107, q108, u108, q109, u109, q110, u110, q111, u111, q112, u112, q113, u113, q114, u114, q115, u115, q116, u116, q117, u117, q118, u118, q119, u119, q120, u120, q121, u121, q122, u122, q123, u123, q124, u124, q125, u125, q126, u126, q127, u127, q128, u128, q129, u129, q130, u130, q131, u131, q132, u132, q133, u133, q134, u134, q135, u135, q136, u136, oP, oR, oA, oH, oPn, oRn, oAn, oHn, bi, ld, ki, kt, kf, s_ops_nil, s_ops_cons, s_ops_nx, s_ops_pn, s_seq, s_seq_nx, s_seq_ex, s_seq_rt, s_skip, s_ret, s_exit, s_reg, s_cond, s_cond_t, s_cond_f, s_blk, s_blk_nx, s_blk_rt, s_blk_ex, s_put, s_P, s_R, s_A, s_A_some, s_C_ret, s_C_pan, s_H, s_H_ok, s_H_call, s_H_pan, s_gd, s_gd_bool, s_gd_undef, e_t, e_k, e_mv, e_pick, e_pick_b, e_bin, e_add_i64, e_add_i32, e_sub_i64, e_sub_u8, e_mul_i64, e_addU, e_mulU, e_addU32, e_mulU32, e_eql, e_neq, e_lss, e_leq, e_gtr, e_geq, e_str_eql, e_str_neq, e_iaddr, e_iaddr_int, e_lens, e_ld, e_extract, e_ex0, e_ex1, e_ex2, e_lenS, e_lenS_str, e_cii, e_cii_int, e_slsl_hm, e_sl2, e_slsl_h, e_sl1, e_slis, e_evL_nil, e_evL_cons, e_cons, e_call, e_callk, e_app, e_appk, e_store, e_stk, e_next, e_nextk, e_range, e_rangek, e_bs1, e_bs1i, e_bs0, e_mksl, e_mkslk, e_AK_sl, e_AK_it, e_AK_ptr, e_not, e_notb, e_xori, e_idxs, s_Hn, s_Hnk, s_Nx, s_Rt, s_NR_nx, s_NR_rt, s_NXT_nx, s_NXT_ex, s_NXT_rt, e_lenV_sl, e_lenV_nils, get_pk, k_bind, true_and, and_true, if_true, if_false, Bool.true_eq, beq_self_eq_true, reduceIte, Bool.false_eq_true, reduceCtorEq, bne_self_eq_false, Nat.reduceAdd, Nat.reduceLeDiff, Nat.reduceEqDiff, Nat.reduceSub, Nat.reduceBEq, Int.reduceBEq, Int.reduceNeg, Int.reduceLT, Int.reduceLE, Nat.succ_ne_self, Bool.not_true, Bool.not_false, Bool.true_beq, Bool.false_beq, decide_true, decide_false, exists_eq_left', Option.some.injEq, h0, hd, g1, wi _ (show c - 65 < 256 by omega), wi10 _ (show c - 65 < 256 by omega), f0, f1, f2, f3, f4]
    by_cases hA : c < 97
    · have f0 : decide ((48 : Int) ≤ (c : Int)) = true := le 48 c (by omega)
      have f1 : decide ((c : Int) ≤ (57 : Int)) = false := nle c 57 (by omega)
      have f2 : decide ((97 : Int) ≤ (c : Int)) = false := nle 97 c (by omega)
      have f3 : decide ((65 : Int) ≤ (c : Int)) = true := le 65 c (by omega)
      have f4 : decide ((c : Int) ≤ (70 : Int)) = false := nle c 70 (by omega)
      have hd : digR c = -1 := dR _ fun c' h => by subst h; unfold valR; rw [if_neg (by omega), if_neg (by omega), if_neg (by omega)]
      simp only [c16, q0, u0, q1, u1, q2, u2, q3, u3, q4, u4, q5, u5, q6, u6, q7, u7, q8, u8, q9, u9, q10, u10, q11, u11, q12, u12, q13, u13, q14, u14, q15, u15, q16, u16, q17, u17, q18, u18, q19, u19, q20, u20, q21, u21, q22, u22, q23, u23, q24, u24, q25, u25, q26, u26, q27, u27, q28, u28, q29, u29, q30, u30, q31, u31, q32, u32, q33, u33, q34, u34, q35, u35, q36, u36, q37, u37, q38, u38, q39, u39, q40, u40, q41, u41, q42, u42, q43, u43, q44, u44, q45, u45, q46, u46, q47, u47, q48, u48, q49, u49, q50, u50, q51, u51, q52, u52, q53, u53, q54, u54, q55, u55, q56, u56, q57, u57, q58, u58, q59, u59, q60, u60, q61, u61, q62, u62, q63, u63, q64, u64, q65, u65, q66, u66, q67, u67, q68, u68, q69, u69, q70, u70, q71, u71, q72, u72, q73, u73, q74, u74, q75, u75, q76, u76, q77, u77, q78, u78, q79, u79, q80, u80, q81, u81, q82, u82, q83, u83, q84, u84, q85, u85, q86, u86, q87, u87, q88, u88, q89, u89, q90, u90, q91, u91, q92, u92, q93, u93, q94, u94, q95, u95, q96, u96, q97, u97, q98, u98, q99, u99, q100, u100, q101, u101, q102, u102, q103, u103, q104, u104, q105, u105, q106, u106, q107, u107, q108, u108, q109, u109, q110, u110, q111, u111, q112, u112, q113, u113, q114, u114, q115, u115, q116, u116, q117, u117, q118, u118, q119, u119, q120, u120, q121, u121, q122, u122, q123, u123, q124, u124, q125, u125, q126, u126, q127, u127, q128, u128, q129, u129, q130, u130, q131, u131, q132, u132, q133, u133, q134, u134, q135, u135, q136, u136, oP, oR, oA, oH, oPn, oRn, oAn, oHn, bi, ld, ki, kt, kf, s_ops_nil, s_ops_cons, s_ops_nx, s_ops_pn, s_seq, s_seq_nx, s_seq_ex, s_seq_rt, s_skip, s_ret, s_exit, s_reg, s_cond, s_cond_t, s_cond_f, s_blk, s_blk_nx, s_blk_rt, s_blk_ex, s_put, s_P, s_R, s_A, s_A_some, s_C_ret, s_C_pan, s_H, s_H_ok, s_H_call, s_H_pan, s_gd, s_gd_bool, s_gd_undef, e_t, e_k, e_mv, e_pick, e_pick_b, e_bin, e_add_i64, e_add_i32, e_sub_i64, e_sub_u8, e_mul_i64, e_addU, e_mulU, e_addU32, e_mulU32, e_eql, e_neq, e_lss, e_leq, e_gtr, e_geq, e_str_eql, e_str_neq, e_iaddr, e_iaddr_int, e_lens, e_ld, e_extract, e_ex0, e_ex1, e_ex2, e_lenS, e_lenS_str, e_cii, e_cii_int, e_slsl_hm, e_sl2, e_slsl_h, e_sl1, e_slis, e_evL_nil, e_evL_cons, e_cons, e_call, e_callk, e_app, e_appk, e_store, e_stk, e_next, e_nextk, e_range, e_rangek, e_bs1, e_bs1i, e_bs0, e_mksl, e_mkslk, e_AK_sl, e_AK_it, e_AK_ptr, e_not, e_notb, e_xori, e_idxs, s_Hn, s_Hnk, s_Nx, s_Rt, s_NR_nx, s_NR_rt, s_NXT_nx, s_NXT_ex, s_NXT_rt, e_lenV_sl, e_lenV_nils, get_pk, k_bind, true_and, and_true, if_true, if_false, Bool.true_eq, beq_self_eq_true, reduceIte, Bool.false_eq_true, reduceCtorEq, bne_self_eq_false, Nat.reduceAdd, Nat.reduceLeDiff, Nat.reduceEqDiff, Nat.reduceSub, Nat.reduceBEq, Int.reduceBEq, Int.reduceNeg, Int.reduceLT, Int.reduceLE, Nat.succ_ne_self, Bool.not_true, Bool.not_false, Bool.true_beq, Bool.false_beq, decide_true, decide_false, exists_eq_left', Option.some.injEq, h0, hd, f0, f1, f2, f3, f4]
    by_cases hA : c < 103
    · have f0 : decide ((48 : Int) ≤ (c : Int)) = true := le 48 c (by omega)
      have f1 : decide ((c : Int) ≤ (57 : Int)) = false := nle c 57 (by omega)
      have f2 : decide ((97 : Int) ≤ (c : Int)) = true := le 97 c (by omega)
      have f3 : decide ((c : Int) ≤ (102 : Int)) = true := le c 102 (by omega)
      have hd : digR c = ((c - 97 + 10 : Nat) : Int) := dR _ fun c' h => by subst h; unfold valR; rw [if_neg (by omega), if_pos (by omega), if_pos (by omega)]; omega
      have g1 : IntKind.u8.wrap ((c : Int) - 97) = ((c - 97 : Nat) : Int) := wsub 97 (by omega)
      simp only [c16, q0, u0, q1, u1, q2, u2, q3, u3, q4, u4, q5, u5, q6, u6, q7, u7, q8, u8, q9, u9, q10, u10, q11, u11, q12, u12, q13, u13, q14, u14, q15, u15, q16, u16, q17, u17, q18, u18, q19, u19, q20, u20, q21, u21, q22, u22, q23, u23, q24, u24, q25, u25, q26, u26, q27, u27, q28, u28, q29, u29, q30, u30, q31, u31, q32, u32, q33, u33, q34, u34, q35, u35, q36, u36, q37, u37, q38, u38, q39, u39, q40, u40, q41, u41, q42, u42, q43, u43, q44, u44, q45, u45, q46, u46, q47, u47, q48, u48, q49, u49, q50, u50, q51, u51, q52, u52, q53, u53, q54, u54, q55, u55, q56, u56, q57, u57, q58, u58, q59, u59, q60, u60, q61, u61, q62, u62, q63, u63, q64, u64, q65, u65, q66, u66, q67, u67, q68, u68, q69, u69, q70, u70, q71, u71, q72, u72, q73, u73, q74, u74, q75, u75, q76, u76, q77, u77, q78, u78, q79, u79, q80, u80, q81, u81, q82, u82, q83, u83, q84, u84, q85, u85, q86, u86, q87, u87, q88, u88, q89, u89, q90, u90, q91, u91, q92, u92, q93, u93, q94, u94, q95, u95, q96, u96, q97, u97, q98, u98, q99, u99, q100, u100, q101, u101, q102, u102, q103, u103, q104, u104, q105, u105, q106, u106, q107, u107, q108, u108, q109, u109, q110, u110, q111, u111, q112, u112, q113, u113, q114, u114, q115, u115, q116, u116, q117, u117, q118, u118, q119, u119, q120, u120, q121, u121, q122, u122, q123, u123, q124, u124, q125, u125, q126, u126, q127, u127, q128, u128, q129, u129, q130, u130, q131, u131, q132, u132, q133, u133, q134, u134, q135, u135, q136, u136, oP, oR, oA, oH, oPn, oRn, oAn, oHn, bi, ld, ki, kt, kf, s_ops_nil, s_ops_cons, s_ops_nx, s_ops_pn, s_seq, s_seq_nx, s_seq_ex, s_seq_rt, s_skip, s_ret, s_exit, s_reg, s_cond, s_cond_t, s_cond_f, s_blk, s_blk_nx, s_blk_rt, s_blk_ex, s_put, s_P, s_R, s_A, s_A_some, s_C_ret, s_C_pan, s_H, s_H_ok, s_H_call, s_H_pan, s_gd, s_gd_bool, s_gd_undef, e_t, e_k, e_mv, e_pick, e_pick_b, e_bin, e_add_i64, e_add_i32, e_sub_i64, e_sub_u8, e_mul_i64, e_addU, e_mulU, e_addU32, e_mulU32, e_eql, e_neq, e_lss, e_leq, e_gtr, e_geq, e_str_eql, e_str_neq, e_iaddr, e_iaddr_int, e_lens, e_ld, e_extract, e_ex0, e_ex1, e_ex2, e_lenS, e_lenS_str, e_cii, e_cii_int, e_slsl_hm, e_sl2, e_slsl_h, e_sl1, e_slis, e_evL_nil, e_evL_cons, e_cons, e_call, e_callk, e_app, e_appk, e_store, e_stk, e_next, e_nextk, e_range, e_rangek, e_bs1, e_bs1i, e_bs0, e_mksl, e_mkslk, e_AK_sl, e_AK_it, e_AK_ptr, e_not, e_notb, e_xori, e_idxs, s_Hn, s_Hnk, s_Nx, s_Rt, s_NR_nx, s_NR_rt, s_NXT_nx, s_NXT_ex, s_NXT_rt, e_lenV_sl, e_lenV_nils, get_pk, k_bind, true_and, and_true, if_true, if_false, Bool.true_eq, beq_self_eq_true, reduceIte, Bool.false_eq_true, reduceCtorEq, bne_self_eq_false, Nat.reduceAdd, Nat.reduceLeDiff, Nat.reduceEqDiff, Nat.reduceSub, Nat.reduceBEq, Int.reduceBEq, Int.reduceNeg, Int.reduceLT, Int.reduceLE, Nat.succ_ne_self, Bool.not_true, Bool.not_false, Bool.true_beq, Bool.false_beq, decide_true, decide_false, exists_eq_left', Option.some.injEq, h0, hd, g1, wi _ (show c - 97 < 256 by omega), wi10 _ (show c - 97 < 256 by omega), f0, f1, f2, f3]
    have f0 : decide ((48 : Int) ≤ (c : Int)) = true := le 48 c (by omega)
    have f1 : decide ((c : Int) ≤ (57 : Int)) = false := nle c 57 (by omega)
    have f2 : decide ((97 : Int) ≤ (c : Int)) = true := le 97 c (by omega)
    have f3 : decide ((c : Int) ≤ (102 : Int)) = false := nle c 102 (by omega)
    have f4 : decide ((65 : Int) ≤ (c : Int)) = true := le 65 c (by omega)
    have f5 : decide ((c : Int) ≤ (70 : Int)) = false := nle c 70 (by omega)
    have hd : digR c = -1 := dR _ fun c' h => by subst h; unfold valR; rw [if_neg (by omega), if_neg (by omega), if_neg (by omega)]
    simp only [c16, q0, u0, q1, u1, q2, u2, q3, u3, q4, u4, q5, u5, q6, u6, q7, u7, q8, u8, q9, u9, q10, u10, q11, u11, q12, u12, q13, u13, q14, u14, q15, u15, q16, u16, q17, u17, q18, u18, q19, u19, q20, u20, q21, u21, q22, u22, q23, u23, q24, u24, q25, u25, q26, u26, q27, u27, q28, u28, q29, u29, q30, u30, q31, u31, q32, u32, q33, u33, q34, u34, q35, u35, q36, u36, q37, u37, q38, u38, q39, u39, q40, u40, q41, u41, q42, u42, q43, u43, q44, u44, q45, u45, q46, u46, q47, u47, q48, u48, q49, u49, q50, u50, q51, u51, q52, u52, q53, u53, q54, u54, q55, u55, q56, u56, q57, u57, q58, u58, q59, u59, q60, u60, q61, u61, q62, u62, q63, u63, q64, u64, q65, u65, q66, u66, q67, u67, q68, u68, q69, u69, q70, u70, q71, u71, q72, u72, q73, u73, q74, u74, q75, u75, q76, u76, q77, u77, q78, u78, q79, u79, q80, u80, q81, u81, q82, u82, q83, u83, q84, u84, q85, u85, q86, u86, q87, u87, q88, u88, q89, u89, q90, u90, q91, u91, q92, u92, q93, u93, q94, u94, q95, u95, q96, u96, q97, u97, q98, u98, q99, u99, q100, u100, q101, u101, q102, u102, q103, u103, q104, u104, q105, u105, q106, u106, q107, u107, q108, u108, q109, u109, q110, u110, q111, u111, q112, u112, q113, u113, q114, u114, q115, u115, q116, u116, q117, u117, q118, u118, q119, u119, q120, u120, q121, u121, q122, u122, q123, u123, q124, u124, q125, u125, q126, u126, q127, u127, q128, u128, q129, u129, q130, u130, q131, u131, q132, u132, q133, u133, q134, u134, q135, u135, q136, u136, oP, oR, oA, oH, oPn, oRn, oAn, oHn, bi, ld, ki, kt, kf, s_ops_nil, s_ops_cons, s_ops_nx, s_ops_pn, s_seq, s_seq_nx, s_seq_ex, s_seq_rt, s_skip, s_ret, s_exit, s_reg, s_cond, s_cond_t, s_cond_f, s_blk, s_blk_nx, s_blk_rt, s_blk_ex, s_put, s_P, s_R, s_A, s_A_some, s_C_ret, s_C_pan, s_H, s_H_ok, s_H_call, s_H_pan, s_gd, s_gd_bool, s_gd_undef, e_t, e_k, e_mv, e_pick, e_pick_b, e_bin, e_add_i64, e_add_i32, e_sub_i64, e_sub_u8, e_mul_i64, e_addU, e_mulU, e_addU32, e_mulU32, e_eql, e_neq, e_lss, e_leq, e_gtr, e_geq, e_str_eql, e_str_neq, e_iaddr, e_iaddr_int, e_lens, e_ld, e_extract, e_ex0, e_ex1, e_ex2, e_lenS, e_lenS_str, e_cii, e_cii_int, e_slsl_hm, e_sl2, e_slsl_h, e_sl1, e_slis, e_evL_nil, e_evL_cons, e_cons, e_call, e_callk, e_app, e_appk, e_store, e_stk, e_next, e_nextk, e_range, e_rangek, e_bs1, e_bs1i, e_bs0, e_mksl, e_mkslk, e_AK_sl, e_AK_it, e_AK_ptr, e_not, e_notb, e_xori, e_idxs, s_Hn, s_Hnk, s_Nx, s_Rt, s_NR_nx, s_NR_rt, s_NXT_nx, s_NXT_ex, s_NXT_rt, e_lenV_sl, e_lenV_nils, get_pk, k_bind, true_and, and_true, if_true, if_false, Bool.true_eq, beq_self_eq_true, reduceIte, Bool.false_eq_true, reduceCtorEq, bne_self_eq_false, Nat.reduceAdd, Nat.reduceLeDiff, Nat.reduceEqDiff, Nat.reduceSub, Nat.reduceBEq, Int.reduceBEq, Int.reduceNeg, Int.reduceLT, Int.reduceLE, Nat.succ_ne_self, Bool.not_true, Bool.not_false, Bool.true_beq, Bool.false_beq, decide_true, decide_false, exists_eq_left', Option.some.injEq, h0, hd, f0, f1, f2, f3, f4, f5]
  obtain ⟨v, _, h1, rfl, rfl⟩ := key
  exact h1
theorem e_ixk (k : IntKind) {s : List Nat} {i : Nat} (h : i < s.length) : kIx (some (.str s)) (some (.int k (i : Nat))) = some (.int .u8 (s.getD i 0 : Nat)) := by
  simp only [kIx]
  rw [if_pos (Int.natCast_nonneg i)]
  simp [h, List.getElem?_eq_getElem h]
theorem dig_val {c base : Nat} (_hb : base ≤ 16) : valR (c : Int) base = if digR c < base then digR c else -1 := by
  unfold digR valR
  split
  · rw [if_pos (show (c : Int) - 48 < ((16 : Nat) : Int) by omega)]
  · split
    · rw [if_pos (show (c : Int) - 87 < ((16 : Nat) : Int) by omega)]
    · split
      · rw [if_pos (show (c : Int) - 55 < ((16 : Nat) : Int) by omega)]
      · split <;> rfl
theorem dig_bad {c base : Nat} (hb : base ≤ 16) : 0 ≤ valR (c : Int) base ↔ 0 ≤ digR c ∧ digR c < base := by
  rw [dig_val hb]
  split
  · rename_i h; exact ⟨fun h1 => ⟨h1, h⟩, fun h1 => h1.1⟩
  · rename_i h; exact ⟨fun h1 => absurd h1 (by decide), fun h1 => absurd h1.2 h⟩

end Go.Proofs.YtahgfodccndcjaaGreatEng

namespace Go.Proofs.YtahgfodccndcjaaGreatEng
open Go
set_option linter.unusedSimpArgs false

abbrev HH : Nat := 65536
def wokH (L : List Nat) : Prop := ∀ i, L.getD i 0 < HH
def adSH (A B : List Nat) : Nat → List Nat × Nat
  | 0 => ([], 0)
  | i + 1 => ((adSH A B i).1 ++ [(A.getD i 0 + B.getD i 0 + (adSH A B i).2) % HH], (A.getD i 0 + B.getD i 0 + (adSH A B i).2) / HH)
theorem adS_lenH (A B : List Nat) : ∀ i, (adSH A B i).1.length = i
  | 0 => rfl
  | i + 1 => by simp [adSH, adS_lenH A B i]
theorem adS_cH {A B : List Nat} (ha : wokH A) (hb : wokH B) : ∀ i, (adSH A B i).2 ≤ 1
  | 0 => Nat.zero_le _
  | i + 1 => by
    have h1 := ha i; have h2 := hb i; have h3 := adS_cH ha hb i
    simp only [adSH]
    have : A.getD i 0 + B.getD i 0 + (adSH A B i).2 < HH * 2 := by omega
    exact Nat.le_of_lt_succ (Nat.div_lt_of_lt_mul this)
def valH (L : List Nat) : Nat := L.foldr (fun x r => x + HH * r) 0
theorem val_appendH (L : List Nat) (w : Nat) : valH (L ++ [w]) = valH L + HH ^ L.length * w := by
  induction L with
  | nil => simp [valH]
  | cons x L ih =>
    have : valH (x :: L ++ [w]) = x + HH * valH (L ++ [w]) := rfl
    rw [this, ih]
    have : valH (x :: L) = x + HH * valH L := rfl
    rw [this, List.length_cons, Nat.pow_succ, Nat.mul_add, Nat.add_assoc, Nat.mul_comm (HH ^ L.length) HH, Nat.mul_assoc]
theorem val_take_succH (L : List Nat) (i : Nat) : valH (L.take (i + 1)) = valH (L.take i) + HH ^ i * L.getD i 0 := by
  by_cases h : i < L.length
  · rw [take_succ_getD L i h, val_appendH, List.length_take, Nat.min_eq_left (by omega)]
  · rw [List.take_of_length_le (by omega), List.take_of_length_le (by omega), getD_ge h, Nat.mul_zero, Nat.add_zero]
theorem adS_valH (A B : List Nat) : ∀ i, valH (adSH A B i).1 + HH ^ i * (adSH A B i).2 = valH (A.take i) + valH (B.take i)
  | 0 => rfl
  | i + 1 => by
    have ih := adS_valH A B i
    simp only [adSH]
    rw [val_appendH, adS_lenH, val_take_succH, val_take_succH, Nat.pow_succ]
    generalize hs : A.getD i 0 + B.getD i 0 + (adSH A B i).2 = s
    have h1 : HH ^ i * (s % HH) + HH ^ i * HH * (s / HH) = HH ^ i * s := by
      rw [Nat.mul_assoc, ← Nat.mul_add, Nat.mod_add_div]
    rw [Nat.add_assoc, h1, ← hs, Nat.mul_add, Nat.mul_add]
    omega
theorem adS_okH (A B : List Nat) : ∀ i, ∀ x ∈ (adSH A B i).1, x < HH
  | 0 => fun x h => by cases h
  | i + 1 => fun x h => by
    simp only [adSH, List.mem_append, List.mem_singleton] at h
    rcases h with h | rfl
    · exact adS_okH A B i x h
    · exact Nat.mod_lt _ (by decide)
theorem wok_ofH {L : List Nat} (h : ∀ x ∈ L, x < HH) : wokH L := by
  intro i
  rw [List.getD_eq_getElem?_getD]
  cases hi : L[i]? with
  | none => decide
  | some x => exact h x (List.mem_of_getElem? hi)
theorem wok_memH {L : List Nat} (h : wokH L) : ∀ x ∈ L, x < HH := by
  intro x hx
  obtain ⟨i, hi⟩ := List.getElem?_of_mem hx
  have := h i
  rw [List.getD_eq_getElem?_getD, hi] at this
  exact this
def muSH (A : List Nat) (t : Nat) : Nat → List Nat × Nat
  | 0 => ([], 0)
  | i + 1 => ((muSH A t i).1 ++ [(A.getD i 0 * t + (muSH A t i).2) % HH], (A.getD i 0 * t + (muSH A t i).2) / HH)
theorem muS_lenH (A : List Nat) (t : Nat) : ∀ i, (muSH A t i).1.length = i
  | 0 => rfl
  | i + 1 => by simp [muSH, muS_lenH A t i]
theorem mul_add_ltH {x y c : Nat} (hx : x < HH) (hy : y < HH) (hc : c < HH) : x * y + c < HH * HH := by
  have h1 : x * y ≤ (HH - 1) * (HH - 1) := Nat.mul_le_mul (by omega) (by omega)
  have h2 : (HH - 1) * (HH - 1) + HH ≤ HH * HH := by decide
  omega
theorem muS_cH {A : List Nat} {t : Nat} (hA : wokH A) (ht : t < HH) : ∀ i, (muSH A t i).2 < HH
  | 0 => (by decide : 0 < HH)
  | i + 1 => Nat.div_lt_of_lt_mul (mul_add_ltH (hA i) ht (muS_cH hA ht i))
theorem muS_okH (A : List Nat) (t : Nat) : ∀ i, ∀ x ∈ (muSH A t i).1, x < HH
  | 0 => fun x h => by cases h
  | i + 1 => fun x h => by
    simp only [muSH, List.mem_append, List.mem_singleton] at h
    rcases h with h | rfl
    · exact muS_okH A t i x h
    · exact Nat.mod_lt _ (by decide)
def mulLH (A : List Nat) (t : Nat) : List Nat := (muSH A t A.length).1 ++ [(muSH A t A.length).2]
theorem muS_valH (A : List Nat) (t : Nat) : ∀ i, valH (muSH A t i).1 + HH ^ i * (muSH A t i).2 = valH (A.take i) * t
  | 0 => by simp [muSH, valH]
  | i + 1 => by
    have ih := muS_valH A t i
    simp only [muSH]
    rw [val_appendH, muS_lenH, val_take_succH, Nat.pow_succ]
    generalize hs : A.getD i 0 * t + (muSH A t i).2 = s
    have h1 : HH ^ i * (s % HH) + HH ^ i * HH * (s / HH) = HH ^ i * s := by
      rw [Nat.mul_assoc, ← Nat.mul_add, Nat.mod_add_div]
    rw [Nat.add_assoc, h1, ← hs, Nat.mul_add, Nat.add_mul, ← ih, Nat.mul_assoc]
    omega
theorem mulL_valH (A : List Nat) (t : Nat) : valH (mulLH A t) = valH A * t := by
  have := muS_valH A t A.length
  rw [List.take_of_length_le (Nat.le_refl _)] at this
  rw [mulLH, val_appendH, muS_lenH, this]
theorem mulL_okH {A : List Nat} {t : Nat} (hA : wokH A) (ht : t < HH) : wokH (mulLH A t) := by
  refine wok_ofH fun x hx => ?_
  simp only [mulLH, List.mem_append, List.mem_singleton] at hx
  rcases hx with h | rfl
  · exact muS_okH A t _ x h
  · exact muS_cH hA ht _
theorem mulL_lenH (A : List Nat) (t : Nat) : (mulLH A t).length = A.length + 1 := by simp [mulLH, muS_lenH]

theorem val_zero_tailH (L : List Nat) (n : Nat) : ∀ k, (∀ j, n ≤ j → j < n + k → L.getD j 0 = 0) → valH (L.take (n + k)) = valH (L.take n)
  | 0, _ => rfl
  | k + 1, h => by
    rw [← Nat.add_assoc, val_take_succH, h (n + k) (by omega) (by omega), Nat.mul_zero, Nat.add_zero]
    exact val_zero_tailH L n k fun j h1 h2 => h j h1 (by omega)
theorem trimL_valH (L : List Nat) : valH (trimL L) = valH L := by
  obtain ⟨_, h2⟩ := tl_spec L L.length (Nat.le_refl _)
  have hle := tl_le L L.length
  have := val_zero_tailH L (tl L L.length) (L.length - tl L L.length) fun j h3 h4 => h2 j h3 (by omega)
  rw [show tl L L.length + (L.length - tl L L.length) = L.length by omega, List.take_of_length_le (Nat.le_refl _)] at this
  rw [trimL, ← this]
theorem trimL_okH {L : List Nat} (h : wokH L) : wokH (trimL L) := by
  refine wok_ofH fun x hx => wok_memH h x (List.mem_of_mem_take hx)
theorem val_ltH {L : List Nat} (h : ∀ x ∈ L, x < HH) : valH L < HH ^ L.length := by
  induction L with
  | nil => simp [valH]
  | cons x L ih =>
    have h1 : x < HH := h x (List.mem_cons_self ..)
    have h2 := ih fun y hy => h y (List.mem_cons_of_mem _ hy)
    have h3 : valH (x :: L) = x + HH * valH L := rfl
    rw [h3, List.length_cons, Nat.pow_succ, Nat.mul_comm _ HH]
    have h4 : HH * (valH L + 1) ≤ HH * HH ^ L.length := Nat.mul_le_mul_left _ h2
    rw [Nat.mul_add] at h4
    omega
theorem val_geH {L : List Nat} (h : trimd L) (h0 : L.length ≠ 0) : HH ^ (L.length - 1) ≤ valH L := by
  have hg : L.getD (L.length - 1) 0 ≠ 0 := by rcases h with h | h; exact absurd h h0; exact h
  have h1 := val_take_succH L (L.length - 1)
  rw [show L.length - 1 + 1 = L.length by omega, List.take_of_length_le (Nat.le_refl _)] at h1
  rw [h1]
  have h2 : HH ^ (L.length - 1) * 1 ≤ HH ^ (L.length - 1) * L.getD (L.length - 1) 0 := Nat.mul_le_mul_left _ (by omega)
  omega
theorem trimd_lenH {L : List Nat} (h : trimd L) (hk : wokH L) (n : Nat) : n < L.length ↔ HH ^ n ≤ valH L := by
  constructor
  · intro hn
    have h1 := val_geH h (by omega)
    exact Nat.le_trans (Nat.pow_le_pow_right (by decide) (by omega)) h1
  · intro hv
    have h1 := val_ltH (wok_memH hk)
    have h2 : HH ^ n < HH ^ L.length := Nat.lt_of_le_of_lt hv h1
    exact (Nat.pow_lt_pow_iff_right (by decide)).1 h2
def bigOfH (n : Nat) : Nat := HH ^ n
theorem bigOf_iffH {L : List Nat} (h : trimd L) (hk : wokH L) (n : Nat) : n < L.length ↔ bigOfH n ≤ valH L := trimd_lenH h hk n
theorem bigOf_ltH {L : List Nat} (hk : wokH L) {n : Nat} (h : L.length ≤ n) : valH L < bigOfH n := Nat.lt_of_lt_of_le (val_ltH (wok_memH hk)) (Nat.pow_le_pow_right (by decide) h)

end Go.Proofs.YtahgfodccndcjaaGreatEng

namespace Go.Proofs.YtahgfodccndcjaaGreatEng
open Go
set_option linter.unusedSimpArgs false

theorem w_drw (cf : CallF) (lf n : Nat) (ops : List DO) (τ : Tr V) (σ : H) (d : List Df) : exec cf lf n (.drw ops) τ σ d = runDrw cf n ops τ σ d [] [] := rfl
theorem w_nil (cf : CallF) (n : Nat) (τ : Tr V) (σ : H) (d : List Df) (es : List H) (os : List Owe) : runDrw cf n [] τ σ d es os = if os.all (oweOk (σ :: es).reverse) then .nx τ σ d else .bad := rfl
def kD0 (cf : CallF) (n : Nat) (r : List DO) (d : List Df) (es : List H) (os : List Owe) : R → R
  | .nx τ' σ' _ => runDrw cf n r τ' σ' d es os
  | _ => .bad
theorem w_0 (cf : CallF) (n : Nat) (co : CO) (k lo hi : Nat) (tl : Bool) (r : List DO) (τ : Tr V) (σ : H) (d : List Df) (es : List H) (os : List Owe) :
    runDrw cf n (⟨co, k, 0, lo, hi, tl⟩ :: r) τ σ d es os = kD0 cf n r d es os (stepOp cf n co τ σ d) := by
  simp only [runDrw]; cases stepOp cf n co τ σ d <;> rfl
theorem w_3 (cf : CallF) (n : Nat) (co : CO) (k lo hi : Nat) (tl : Bool) (r : List DO) (τ : Tr V) (σ : H) (d : List Df) (es : List H) (os : List Owe) :
    runDrw cf n (⟨co, k, 3, lo, hi, tl⟩ :: r) τ σ d es os = kD0 cf n r d es os (stepOp cf n co τ σ d) := by
  simp only [runDrw]; cases stepOp cf n co τ σ d <;> rfl
theorem w_0nx (cf : CallF) (n : Nat) (r : List DO) (d d' : List Df) (es : List H) (os : List Owe) (τ : Tr V) (σ : H) : kD0 cf n r d es os (.nx τ σ d') = runDrw cf n r τ σ d es os := rfl
def kD1 (cf : CallF) (n : Nat) (r : List DO) (σ : H) (d : List Df) (es : List H) (os : List Owe) : R → R
  | .nx τ' _ _ => runDrw cf n r τ' σ d es os
  | _ => .bad
theorem w_1s (cf : CallF) (n : Nat) (co : CO) (k lo : Nat) (tl : Bool) (r : List DO) (τ : Tr V) (σ : H) (d : List Df) (es : List H) (os : List Owe) :
    runDrw cf n (⟨co, k, 1, lo, lo, tl⟩ :: r) τ σ d es os = kD1 cf n r σ d es os (stepOp cf n co τ σ d) := by
  simp only [runDrw, if_true]; cases stepOp cf n co τ σ d <;> rfl
theorem w_1nx (cf : CallF) (n : Nat) (r : List DO) (σ σ' : H) (d d' : List Df) (es : List H) (os : List Owe) (τ : Tr V) : kD1 cf n r σ d es os (.nx τ σ' d') = runDrw cf n r τ σ d es os := rfl
def owe1 (σ : H) (lo hi : Nat) (os : List Owe) : V → List Owe
  | .ptr x _ _ => ⟨x, lo, hi, σ.stamp x⟩ :: os
  | _ => os
def kDl (cf : CallF) (n : Nat) (r : List DO) (p : Pos) (τ : Tr V) (σ : H) (d : List Df) (es : List H) (os : List Owe) (lo hi : Nat) (q : V) : Option V → R
  | some v => kD1 cf n r σ d es (owe1 σ lo hi os q) (kPut n p τ σ d (some v))
  | none => .bad
def kDL (cf : CallF) (n : Nat) (r : List DO) (p : Pos) (τ : Tr V) (σ : H) (d : List Df) (es : List H) (os : List Owe) (lo hi : Nat) : Option V → R
  | some q => kDl cf n r p τ σ d es os lo hi q (ldv σ q)
  | none => .bad
theorem w_1l (cf : CallF) (n : Nat) (p : Pos) (a : Arg) (k lo hi : Nat) (hl : lo ≠ hi) (tl : Bool) (r : List DO) (τ : Tr V) (σ : H) (d : List Df) (es : List H) (os : List Owe) :
    runDrw cf n (⟨⟨some p, .r (.load none a), none⟩, k, 1, lo, hi, tl⟩ :: r) τ σ d es os = kDL cf n r p τ σ d es os lo hi (a.ev τ) := by
  simp only [runDrw, s_R, e_ld, guardV, if_neg hl, ROp.foot]
  cases ha : a.ev τ with
  | none => rfl
  | some q =>
    simp only [k_bind, kDL, kDl]
    cases q with
    | ptr x v o =>
      cases ldv σ (.ptr x v o) with
      | none => rfl
      | some u => simp only []; cases kPut n p τ σ d (some u) <;> rfl
    | rop c o =>
      cases ldv σ (.rop c o) with
      | none => rfl
      | some u => simp only []; cases kPut n p τ σ d (some u) <;> rfl
    | _ => rfl
theorem w_1lk (cf : CallF) (n : Nat) (r : List DO) (p : Pos) (τ : Tr V) (σ : H) (d : List Df) (es : List H) (os : List Owe) (lo hi : Nat) (q : V) : kDL cf n r p τ σ d es os lo hi (some q) = kDl cf n r p τ σ d es os lo hi q (ldv σ q) := rfl
theorem w_1ls (cf : CallF) (n : Nat) (r : List DO) (p : Pos) (τ : Tr V) (σ : H) (d : List Df) (es : List H) (os : List Owe) (lo hi : Nat) (q v : V) : kDl cf n r p τ σ d es os lo hi q (some v) = kD1 cf n r σ d es (owe1 σ lo hi os q) (kPut n p τ σ d (some v)) := rfl
def kD2 (cf : CallF) (n : Nat) (r : List DO) (σ : H) (es : List H) (os : List Owe) (tl : Bool) : R → R
  | .nx τ' σ' d' => runDrw cf n r τ' σ' d' (σ :: es) os
  | .pn v _ σ' d' => if tl && os.all (oweOk (σ :: es).reverse) then .pn v .lf σ' d' else .bad
  | _ => .bad
theorem w_2 (cf : CallF) (n : Nat) (co : CO) (k lo hi : Nat) (tl : Bool) (r : List DO) (τ : Tr V) (σ : H) (d : List Df) (es : List H) (os : List Owe) :
    runDrw cf n (⟨co, k, 2, lo, hi, tl⟩ :: r) τ σ d es os = kD2 cf n r σ es os tl (stepOp cf n co τ σ d) := by
  simp only [runDrw]; cases stepOp cf n co τ σ d <;> rfl
theorem w_2nx (cf : CallF) (n : Nat) (r : List DO) (σ σ' : H) (es : List H) (os : List Owe) (tl : Bool) (τ : Tr V) (d : List Df) : kD2 cf n r σ es os tl (.nx τ σ' d) = runDrw cf n r τ σ' d (σ :: es) os := rfl
/-- what was read where nothing turned -/
theorem owe_ok {σ : H} {lo hi : Nat} {os : List Owe} {q v : V} (h : ldv σ q = some v) {es : List H} (he : ∀ σ' ∈ es, σ' = σ) : (owe1 σ lo hi os q).all (oweOk es) = os.all (oweOk es) := by
  cases q with
  | ptr x ver o =>
    simp only [owe1, List.all_cons]
    have : oweOk es ⟨x, lo, hi, σ.stamp x⟩ = true := by
      simp only [oweOk, List.all_eq_true]
      intro σ' h'
      rw [he σ' (List.mem_of_mem_drop (List.mem_of_mem_take h'))]
      have : ∃ n, σ.stamp x = some n := by
        simp only [ldv, blkCells] at h
        split at h
        · rename_i c hc
          split at hc
          · rename_i hg
            obtain ⟨n, hn⟩ := get_some_m hg
            exact ⟨n, by simp [H.stamp, hn]⟩
          · cases hc
        · cases h
      obtain ⟨n, hn⟩ := this
      simp [hn]
    rw [this, Bool.true_and]
  | _ => rfl
end Go.Proofs.YtahgfodccndcjaaGreatEng

namespace Go.Proofs.YtahgfodccndcjaaGreatEng
open Go
set_option maxRecDepth 100000
set_option linter.unusedSimpArgs false

theorem c6_at : T1.code 6 = some c6 := by kernel_rfl

def wb (n : Nat) : V := .bool ((n : Int) == 1)
abbrev UB := UG wb
/-- A list that grows: nothing yet, or a slice of new memory, to its end. -/
def Acc (f : Nat → V) (ty : Nat) (σ0 σ : H) (v : V) (D : List Nat) : Prop :=
  (D = [] ∧ v = .nils) ∨ ∃ x ver minv ex, v = .sl x ver 0 D.length none 1 ∧ σ.get x = some (.cells ty (D.map f) ver minv (some 0) ex) ∧ σ0.nx.toNat ≤ x.toNat ∧ x.toNat < σ.nx.toNat
theorem Acc.UG {f : Nat → V} {ty : Nat} {σ0 σ : H} {v : V} {D : List Nat} (h : Acc f ty σ0 σ v D) : UG f σ v D := by
  rcases h with ⟨rfl, rfl⟩ | ⟨x, ver, minv, ex, rfl, hg, _, _⟩
  · exact UG.nils f σ
  · refine ⟨rfl, rfl, ?_⟩
    simp only [slCells, blkCells, hg, visib, if_true, cut, Nat.zero_add, Nat.mul_one, List.length_map]
    rw [if_pos (Nat.le_refl _), List.drop_zero, List.take_of_length_le (by simp)]
theorem Acc.app {f : Nat → V} (hf : ∀ n, (f n).one = true) {ty eb : Nat} {σ0 σ : H} {v : V} {D : List Nat} {w : Nat} (h : Acc f ty σ0 σ v D) (hK : Keep σ0 σ) (hb : (D.length + 1) * eb ≤ mostBytes) (hb2 : D.length + 1 ≤ mostBytes) :
    ∃ v' σ', appV (σ.new (.cells ty [f w] 0 0 (some 0) [])) ty 1 eb v (.sl σ.nx 0 0 1 (some 1) 0) = .ok v' σ' ∧ Acc f ty σ0 σ' v' (D ++ [w]) ∧ Keep σ0 σ' := by
  have hy : Go.Proofs.YtahgfodccndcjaaGreatEng.UG f (σ.new (.cells ty [f w] 0 0 (some 0) [])) (.sl σ.nx 0 0 1 (some 1) 0) [w] := UG.one (by rw [H.get_new, if_pos rfl])
  have hK1 := hK.trans (Keep.new σ (.cells ty [f w] 0 0 (some 0) []))
  rcases h with ⟨rfl, rfl⟩ | ⟨x, ver, minv, ex, rfl, hg, h1, h2⟩
  · refine ⟨_, _, app_nil hy (by simp) (by simpa using hb) (by simpa using hb2), ?_, hK1.trans (Keep.new _ _)⟩
    refine .inr ⟨_, 0, 0, [], rfl, by rw [H.get_new, if_pos rfl]; rfl, hK1.1, by simp only [nx_new]; omega⟩
  · have hx : (σ.new (.cells ty [f w] 0 0 (some 0) [])).get x = some (.cells ty (D.map f) ver minv (some 0) ex) := by
      rw [H.get_new, if_neg (fun e => by rw [e] at h2; omega)]; exact hg
    refine ⟨_, _, app_end hf hy hx hb hb2, ?_, hK1.put h1 (by rw [nx_new]; omega) _⟩
    refine .inr ⟨x, ver + 1, minv, _, by simp, by rw [H.get_put, if_pos rfl], h1, by rw [nx_put, nx_new]; omega⟩

/- bits -/
def valB (L : List Nat) : Nat := L.foldr (fun x r => x + 2 * r) 0
theorem valB_append (L : List Nat) (w : Nat) : valB (L ++ [w]) = valB L + 2 ^ L.length * w := by
  induction L with
  | nil => simp [valB]
  | cons x L ih =>
    have e1 : valB (x :: L ++ [w]) = x + 2 * valB (L ++ [w]) := rfl
    have e2 : valB (x :: L) = x + 2 * valB L := rfl
    rw [e1, ih, e2, List.length_cons, Nat.pow_succ, Nat.mul_add, Nat.add_assoc, Nat.mul_comm (2 ^ L.length) 2, Nat.mul_assoc]
/-- the last c digits' value -/
def sf (t : List Nat) (base n : Nat) : Nat → Nat
  | 0 => 0
  | c + 1 => sf t base n c + base ^ c * dg t base (n - 1 - c)
theorem num_sf (t : List Nat) (base n : Nat) : ∀ c, c ≤ n → num t base n = num t base (n - c) * base ^ c + sf t base n c
  | 0, _ => by simp [sf]
  | c + 1, h => by
    have ih := num_sf t base n c (by omega)
    have e : n - c = (n - (c + 1)) + 1 := by omega
    rw [ih, e]
    simp only [num, sf]
    rw [show n - 1 - c = n - (c + 1) by omega, Nat.add_mul, Nat.pow_succ, Nat.mul_assoc, Nat.mul_comm base (base ^ c), Nat.mul_comm (dg t base (n - (c + 1)))]
    omega
theorem e_shrI (q : EqT) (k' : IntKind) (x j : Nat) (h : j < 64) : kBin .shr q (some (.int .i64 x)) (some (.int k' j)) = some (.int .i64 (x / 2 ^ j : Nat)) := by
  simp only [kBin, vbin, isShift, if_true, ishift]
  rw [if_neg (by omega)]
  have : min (j : Int).toNat IntKind.i64.bits = j := by simp [IntKind.bits]; omega
  rw [this]
  congr 2
  rw [Int.fdiv_eq_ediv_of_nonneg _ (by exact Int.pow_nonneg (by omega))]
  simp
theorem e_and1 (q : EqT) (x : Nat) (hx : x < 1024) : kBin .and q (some (.int .i64 x)) (some (.int .i64 1)) = some (.int .i64 (x % 2 : Nat)) := by
  rw [e_int _ _ _ _ _ rfl]
  simp only [ibin]
  congr 2
  have e : (BitVec.ofInt IntKind.i64.bits (x : Int) &&& BitVec.ofInt IntKind.i64.bits (1 : Int)).toNat = x % 2 := by
    simp only [BitVec.toNat_and]
    have h1 : ∀ n : Nat, n < 1024 → (BitVec.ofInt IntKind.i64.bits (n : Int)).toNat = n := by
      intro n hn
      simp [IntKind.bits]; omega
    have h2 := h1 1 (by decide)
    rw [h1 x hx, show (BitVec.ofInt IntKind.i64.bits (1 : Int)).toNat = 1 from h2, Nat.and_one_is_mod]
  rw [e, wrap_nat (by omega)]
end Go.Proofs.YtahgfodccndcjaaGreatEng

