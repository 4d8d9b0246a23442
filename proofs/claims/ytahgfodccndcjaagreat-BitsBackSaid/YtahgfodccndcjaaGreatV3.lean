/- Layer 9 run on symbols: a text with zeros ahead; Text. (Numbers of seat r2.) -/
/- Layer 9 run on symbols: Text in base 16. (Numbers of seat r2.) -/
/- Layer 9 run on symbols: Same; the law BitsBack. (Numbers of seat r2.) -/
/- Layer 9 run on symbols: the law BitsBack. (Numbers of seat r2.) -/
import Derived.Test.YtahgfodccndcjaaGreatV2
namespace Go.Proofs.YtahgfodccndcjaaGreatEng
open Go
set_option maxRecDepth 100000
set_option linter.unusedSimpArgs false

/- ---- zeros ahead ---- -/
theorem repN_eqr : ∀ z, repN [48] z = List.replicate z 48
  | 0 => rfl
  | z + 1 => by simp [repN, repN_eqr z, List.replicate_succ]
theorem pad_lo {z : Nat} {t : List Nat} {i : Nat} (h : i < z) : (List.replicate z 48 ++ t).getD i 0 = 48 := by
  rw [List.getD_eq_getElem?_getD, List.getElem?_append_left (by simpa using h), List.getElem?_replicate, if_pos h]; rfl
theorem pad_hi {z : Nat} {t : List Nat} {i : Nat} : (List.replicate z 48 ++ t).getD (z + i) 0 = t.getD i 0 := by
  rw [List.getD_eq_getElem?_getD, List.getElem?_append_right (by simp), List.length_replicate, Nat.add_sub_cancel_left, List.getD_eq_getElem?_getD]
theorem val48 {base : Nat} (hb : 0 < base) : valR ((48 : Nat) : Int) base = 0 := by
  unfold valR
  rw [if_pos (by decide), if_pos (by simpa using hb)]
  rfl
theorem pad_num0 {base : Nat} (hb : 0 < base) (z : Nat) (t : List Nat) : ∀ i, i ≤ z → num (List.replicate z 48 ++ t) base i = 0
  | 0, _ => rfl
  | i + 1, h => by
    have h1 : dg (List.replicate z 48 ++ t) base i = 0 := by
      rw [dg, pad_lo (by omega), val48 hb]; rfl
    rw [num, pad_num0 hb z t i (by omega), h1, Nat.zero_mul]
theorem pad_num {base : Nat} (hb : 0 < base) (z : Nat) (t : List Nat) : ∀ i, num (List.replicate z 48 ++ t) base (z + i) = num t base i
  | 0 => pad_num0 hb z t z (Nat.le_refl _)
  | i + 1 => by
    have h1 : dg (List.replicate z 48 ++ t) base (z + i) = dg t base i := by rw [dg, pad_hi]; rfl
    rw [← Nat.add_assoc, num, pad_num hb z t i, h1]; rfl
theorem pad_good {base : Nat} (hb : 0 < base) (z : Nat) {t : List Nat} (ht : goodS t base) : goodS (List.replicate z 48 ++ t) base := by
  refine ⟨fun e => ht.1 (List.append_eq_nil_iff.1 e).2, fun j hj => ?_⟩
  by_cases h : j < z
  · rw [pad_lo h, val48 hb]; decide
  · obtain ⟨i, rfl⟩ : ∃ i, j = z + i := ⟨j - z, by omega⟩
    rw [pad_hi]
    refine ht.2 i ?_
    simp at hj
    omega
/-- a vector's text: digits in all, base b, number N -/
def btx (mark b dgt N k : Nat) : List Nat := [35, mark] ++ repN [48] (dgt - (txt b N k).length) ++ txt b N k
theorem txt_pos (b N k : Nat) : 1 ≤ (txt b N k).length := by
  unfold txt
  split
  · simp
  · rw [List.length_reverse, dl_len]; omega
theorem txt_fits {b N k dgt : Nat} (hd : 1 ≤ dgt) (hk : isLen b N k) (h : N / b ^ dgt = 0) : (txt b N k).length ≤ dgt := by
  have h1 : k ≤ dgt := by
    refine Nat.le_of_not_lt fun hlt => ?_
    have := hk.2 dgt hlt
    omega
  unfold txt
  split
  · simpa using hd
  · rw [List.length_reverse, dl_len]; exact h1
theorem btx_len {mark b dgt N k : Nat} (h : (txt b N k).length ≤ dgt) : (btx mark b dgt N k).length = dgt + 2 := by
  simp only [btx, repN_eqr, List.length_append, List.length_replicate, List.length_cons, List.length_nil]
  omega
theorem btx_drop {mark b dgt N k : Nat} : (btx mark b dgt N k).drop 2 = List.replicate (dgt - (txt b N k).length) 48 ++ txt b N k := by
  simp [btx, repN_eqr]
theorem btx_good {mark b dgt N k : Nat} (hb : b ≤ 16) (hb2 : 2 ≤ b) : goodS ((btx mark b dgt N k).drop 2) b := by
  rw [btx_drop]
  exact pad_good (by omega) _ (txt_good hb hb2)
theorem btx_num {mark b dgt N k : Nat} (hb : b ≤ 16) (hb2 : 2 ≤ b) (hk : isLen b N k) (h : (txt b N k).length ≤ dgt) : num ((btx mark b dgt N k).drop 2) b dgt = N := by
  rw [btx_drop]
  have e : dgt = (dgt - (txt b N k).length) + (txt b N k).length := by omega
  conv => lhs; rw [e]
  rw [show dgt - (txt b N k).length + (txt b N k).length - (txt b N k).length = dgt - (txt b N k).length by omega]
  rw [pad_num (by omega), txt_num hb hb2 hk.1]
theorem hasP_b98 {b dgt N k : Nat} : hasP (btx 98 b dgt N k) [35, 120] = false ∧ hasP (btx 98 b dgt N k) [35, 98] = true := by
  constructor
  · simp [hasP, btx, natEq]; rfl
  · simp [hasP, btx, natEq]
theorem hasP_b120 {b dgt N k : Nat} : hasP (btx 120 b dgt N k) [35, 120] = true := by
  simp [hasP, btx, natEq]

/- ---- Text ---- -/
def max0 (n : Int) : Int := if n > 0 then n else 0
def kMx0 : Option V → Option V
  | some (.int .i64 n) => some (.int .i64 (max0 n))
  | _ => none
theorem e_mx0 (τ : Tr V) (a : Arg) : POp.ev τ (.mx [.k (.int .i64 0), a]) = kMx0 (a.ev τ) := by
  simp only [POp.ev, e_evL_cons, e_evL_nil, e_k]
  generalize a.ev τ = x
  cases x with
  | none => rfl
  | some v =>
    cases v with
    | int k n => cases k <;> rfl
    | _ => rfl
theorem kMx0_int (n : Int) : kMx0 (some (.int .i64 n)) = some (.int .i64 (max0 n)) := rfl
theorem max0_sub {a b : Nat} (h : b ≤ a) : max0 ((a : Int) - (b : Int)) = ((a - b : Nat) : Int) := by
  unfold max0
  split <;> omega
theorem e_str_add (q : EqT) (x y : List Nat) (h : x.length + y.length ≤ mostLen) : kBin .add q (some (.str x)) (some (.str y)) = some (.str (x ++ y)) := by simp [kBin, vbin, sbin, h]
theorem rep_call {lf m : Nat} {σ : H} {n : Nat} (h : n ≤ 4096) : call T1 lf (m + 1) 22 [.str [48], .int .i64 n] σ = .ret (.str (repN [48] n)) σ := by
  rw [call_intr (g := iRepeat) rfl]
  simp only [iRepeat]
  rw [if_pos ⟨Int.natCast_nonneg n, by omega, by simp; omega⟩]
  rfl

theorem c9_t : T1.code 9 = some c9 := by kernel_rfl
/-- Text, of no vector -/
theorem btext_wrong {lf m : Nat} {σ : H} (hw : WfH σ) {a : V} {A : List Nat} {n : Int} (ha : U σ a A) (hA : wok A) (hr : rightB n A = false) (hlf : A.length < lf) (hl : A.length < 17592186048512) :
    ∃ σ', call T1 lf (m + 4) 9 [.agg [.int .i64 n, a], .int .i64 2] σ = .ret (.tup [.str [], .int .i64 90]) σ' ∧ Keep σ σ' := by
  have key : ∃ v u σ', call T1 lf (m + 4) 9 [.agg [.int .i64 n, a], .int .i64 2] σ = .ret (.tup [v, u]) σ' ∧ (v = .str [] ∧ u = .int .i64 90 ∧ Keep σ σ') := by
    refine call_rt2 (p := pk 4) (q := pk 5) rfl c9_t (by simp [c9]) rfl fun cf hcf => ?_
    generalize hτ : bindArgs [.agg [.int .i64 n, a], .int .i64 2] .h .lf = τ0
    have h0 : τ0.get (pk 0) = some (.agg [.int .i64 n, a]) := by rw [← hτ]; rfl
    have h1 : τ0.get (pk 1) = some (.int .i64 2) := by rw [← hτ]; rfl
    clear hτ
    have hKa := Keep.new σ (.cells 25 [.int .i64 n, a] 0 0 (some 0) [])
    have ga := (Keep.refl (σ.new (.cells 25 [.int .i64 n, a] 0 0 (some 0) []))).at
    have lG := ldg2 ga
    have hw1 := hKa.2.2 hw
    have ha1 := ha.keep hw hKa
    obtain ⟨σ2, k1, k2⟩ := right_call (lf := lf) (m := m) (n := n) hw1 ha1 hA hlf hl
    rw [hr] at k1
    rw [← hcf] at k1
    generalize hσ1 : σ.new (.cells 25 [.int .i64 n, a] 0 0 (some 0) []) = σ1 at *
    simp only [c9, QU, oP, oR, oA, oH, oPn, oRn, oAn, oHn, bi, ld, ki, kt, kf, s_ops_nil, s_ops_cons, s_ops_nx, s_ops_pn, s_seq, s_seq_nx, s_seq_ex, s_seq_rt, s_skip, s_ret, s_exit, s_reg, s_cond, s_cond_t, s_cond_f, s_blk, s_blk_nx, s_blk_rt, s_blk_ex, s_put, s_P, s_R, s_A, s_A_some, s_C_ret, s_C_pan, s_H, s_H_ok, s_H_call, s_H_pan, s_gd, s_gd_bool, s_gd_undef, e_t, e_k, e_mv, e_pick, e_pick_b, e_bin, e_add_i64, e_add_i32, e_sub_i64, e_sub_u8, e_mul_i64, e_addU, e_mulU, e_addU32, e_mulU32, e_eql, e_neq, e_lss, e_leq, e_gtr, e_geq, e_str_eql, e_str_neq, e_iaddr, e_iaddr_int, e_lens, e_ld, e_extract, e_ex0, e_ex1, e_ex2, e_lenS, e_lenS_str, e_cii, e_cii_int, e_slsl_hm, e_sl2, e_slsl_h, e_sl1, e_slis, e_evL_nil, e_evL_cons, e_cons, e_call, e_callk, e_app, e_appk, e_store, e_stk, e_next, e_nextk, e_range, e_rangek, e_bs1, e_bs1i, e_bs0, e_mksl, e_mkslk, e_AK_sl, e_AK_it, e_AK_ptr, e_not, e_notb, e_xori, e_idxs, s_Hn, s_Hnk, s_Nx, s_Rt, s_NR_nx, s_NR_rt, s_NXT_nx, s_NXT_ex, s_NXT_rt, e_lenV_sl, e_lenV_nils, get_pk, k_bind, true_and, and_true, if_true, if_false, Bool.true_eq, beq_self_eq_true, reduceIte, Bool.false_eq_true, reduceCtorEq, bne_self_eq_false, Nat.reduceAdd, Nat.reduceLeDiff, Nat.reduceEqDiff, Nat.reduceSub, Nat.reduceBEq, Int.reduceBEq, Int.reduceNeg, Int.reduceLT, Int.reduceLE, Nat.succ_ne_self, Bool.not_true, Bool.not_false, Bool.true_beq, Bool.false_beq, decide_true, decide_false, exists_eq_left', Option.some.injEq, lg, e_lg, e_box, e_box2, h0, h1, hσ1, lG, k1]
    exact ⟨_, _, rfl, rfl, rfl, rfl, hKa.trans k2⟩
  obtain ⟨v, u, σ', h1, rfl, rfl, h2⟩ := key
  exact ⟨σ', h1, h2⟩
/-- Text in base 2 -/
theorem btext2_call {lf m : Nat} {σ : H} (hw : WfH σ) {a : V} {A : List Nat} {w : Nat} (h1w : 1 ≤ w) (hwn : w ≤ 4096) (ha : U σ a A) (hA : wok A) (hr : rightB w A = true) (hv : val A < 2 ^ w) (ht : (trimL A).length ≤ 4096) (hlf : A.length < lf) (hlf2 : 35184372088832 < lf) (hlf3 : val A < lf) (hl : A.length < 17592186048512) :
    ∃ k σ', call T1 lf (m + 6) 9 [.agg [.int .i64 w, a], .int .i64 2] σ = .ret (.tup [.str (btx 98 2 w (val A) k), .int .i64 0]) σ' ∧ Keep σ σ' ∧ isLen 2 (val A) k ∧ (txt 2 (val A) k).length ≤ w := by
  have key : ∃ v u σ', call T1 lf (m + 6) 9 [.agg [.int .i64 w, a], .int .i64 2] σ = .ret (.tup [v, u]) σ' ∧ (u = .int .i64 0 ∧ Keep σ σ' ∧ ∃ k, v = .str (btx 98 2 w (val A) k) ∧ isLen 2 (val A) k ∧ (txt 2 (val A) k).length ≤ w) := by
    refine call_rt2 (p := pk 4) (q := pk 5) rfl c9_t (by simp [c9]) rfl fun cf hcf => ?_
    generalize hτ : bindArgs [.agg [.int .i64 w, a], .int .i64 2] .h .lf = τ0
    have h0 : τ0.get (pk 0) = some (.agg [.int .i64 w, a]) := by rw [← hτ]; rfl
    have h1 : τ0.get (pk 1) = some (.int .i64 2) := by rw [← hτ]; rfl
    clear hτ
    have hKa := Keep.new σ (.cells 25 [.int .i64 w, a] 0 0 (some 0) [])
    have ga := (Keep.refl (σ.new (.cells 25 [.int .i64 w, a] 0 0 (some 0) []))).at
    have lG := ldg2 ga
    have hw1 := hKa.2.2 hw
    have ha1 := ha.keep hw hKa
    obtain ⟨σ2, k1, k2⟩ := right_call (lf := lf) (m := m + 2) (n := w) hw1 ha1 hA hlf hl
    rw [hr] at k1
    have hw2 := k2.2.2 hw1
    have g2 := k2.get_some hw1 ga
    have l1 := ld21 g2
    obtain ⟨v, u, σ3, k3, k4, k5⟩ := text_call (lf := lf) (m := m) hw2 (ha1.keep hw1 k2) hA (base := 2) (.inl rfl) hlf2 hlf3 hl
    rcases k5 with ⟨hbad, _, _⟩ | ⟨_, rfl, k, hk, rfl⟩
    · omega
    have hfit := txt_fits h1w hk (Nat.div_eq_of_lt hv)
    have l0 := ld20 (k4.get_some hw2 g2)
    have eW : IntKind.i64.wrap ((w : Int) - ((txt 2 (val A) k).length : Int)) = (w : Int) - ((txt 2 (val A) k).length : Int) := wrap_w64 (by omega)
    have kR := rep_call (lf := lf) (m := m + 4) (σ := σ3) (n := w - (txt 2 (val A) k).length) (by omega)
    rw [← hcf] at k1 k3 kR
    have k3' : cf 21 [a, .int .i64 2] σ2 = _ := k3
    have hlr : (repN [48] (w - (txt 2 (val A) k).length)).length = w - (txt 2 (val A) k).length := by rw [repN_eqr, List.length_replicate]
    have c1 : ∀ q, kBin .add q (some (.str [35, 98])) (some (.str (repN [48] (w - (txt 2 (val A) k).length)))) = some (.str ([35, 98] ++ repN [48] (w - (txt 2 (val A) k).length))) := fun q => e_str_add q _ _ (by rw [hlr]; unfold mostLen; simp; omega)
    have c2 : ∀ q, kBin .add q (some (.str ([35, 98] ++ repN [48] (w - (txt 2 (val A) k).length)))) (some (.str (txt 2 (val A) k))) = some (.str (btx 98 2 w (val A) k)) := fun q => e_str_add q _ _ (by rw [List.length_append, hlr]; unfold mostLen; simp; omega)
    have dd : ((2 : Int) == 16) = false := by decide
    generalize hσ1 : σ.new (.cells 25 [.int .i64 w, a] 0 0 (some 0) []) = σ1 at *
    simp only [c9, QU, oP, oR, oA, oH, oPn, oRn, oAn, oHn, bi, ld, ki, kt, kf, s_ops_nil, s_ops_cons, s_ops_nx, s_ops_pn, s_seq, s_seq_nx, s_seq_ex, s_seq_rt, s_skip, s_ret, s_exit, s_reg, s_cond, s_cond_t, s_cond_f, s_blk, s_blk_nx, s_blk_rt, s_blk_ex, s_put, s_P, s_R, s_A, s_A_some, s_C_ret, s_C_pan, s_H, s_H_ok, s_H_call, s_H_pan, s_gd, s_gd_bool, s_gd_undef, e_t, e_k, e_mv, e_pick, e_pick_b, e_bin, e_add_i64, e_add_i32, e_sub_i64, e_sub_u8, e_mul_i64, e_addU, e_mulU, e_addU32, e_mulU32, e_eql, e_neq, e_lss, e_leq, e_gtr, e_geq, e_str_eql, e_str_neq, e_iaddr, e_iaddr_int, e_lens, e_ld, e_extract, e_ex0, e_ex1, e_ex2, e_lenS, e_lenS_str, e_cii, e_cii_int, e_slsl_hm, e_sl2, e_slsl_h, e_sl1, e_slis, e_evL_nil, e_evL_cons, e_cons, e_call, e_callk, e_app, e_appk, e_store, e_stk, e_next, e_nextk, e_range, e_rangek, e_bs1, e_bs1i, e_bs0, e_mksl, e_mkslk, e_AK_sl, e_AK_it, e_AK_ptr, e_not, e_notb, e_xori, e_idxs, s_Hn, s_Hnk, s_Nx, s_Rt, s_NR_nx, s_NR_rt, s_NXT_nx, s_NXT_ex, s_NXT_rt, e_lenV_sl, e_lenV_nils, get_pk, k_bind, true_and, and_true, if_true, if_false, Bool.true_eq, beq_self_eq_true, reduceIte, Bool.false_eq_true, reduceCtorEq, bne_self_eq_false, Nat.reduceAdd, Nat.reduceLeDiff, Nat.reduceEqDiff, Nat.reduceSub, Nat.reduceBEq, Int.reduceBEq, Int.reduceNeg, Int.reduceLT, Int.reduceLE, Nat.succ_ne_self, Bool.not_true, Bool.not_false, Bool.true_beq, Bool.false_beq, decide_true, decide_false, exists_eq_left', Option.some.injEq, w_drw, w_nil, w_0, w_3, w_0nx, w_1s, w_1nx, w_1lk, w_1ls, w_2, w_2nx, lg, e_lg, e_box, e_box2, e_faddr, e_fadp, e_mx0, kMx0_int, max0_sub hfit, h0, h1, hσ1, lG, k1, l1, k3', l0, dd, eW, kR, c1, c2, List.all_nil]
    exact ⟨_, _, rfl, rfl, rfl, hKa.trans (k2.trans k4), k, rfl, hk, hfit⟩
  obtain ⟨v, u, σ', h1, rfl, h2, k, rfl, h3⟩ := key
  exact ⟨k, σ', h1, h2, h3⟩
end Go.Proofs.YtahgfodccndcjaaGreatEng

namespace Go.Proofs.YtahgfodccndcjaaGreatEng
open Go
set_option maxRecDepth 100000
set_option linter.unusedSimpArgs false

theorem e_quo4 (q : EqT) (i : Nat) (h : i < 4611686018427387904) : kBin .quo q (some (.int .i64 i)) (some (.int .i64 4)) = some (.int .i64 (i / 4 : Nat)) := by
  rw [e_quo _ _ _ _ (by decide)]
  have : (i : Int).tdiv 4 = ((i / 4 : Nat) : Int) := by
    rw [Int.tdiv_eq_ediv_of_nonneg (Int.natCast_nonneg i)]; rfl
  rw [this, wrap_nat (by omega)]
theorem e_rem4 (q : EqT) (i : Nat) : kBin .rem q (some (.int .i64 i)) (some (.int .i64 4)) = some (.int .i64 (i % 4 : Nat)) := by
  rw [e_rem _ _ _ _ (by decide)]
  have : (i : Int).tmod 4 = ((i % 4 : Nat) : Int) := by
    rw [Int.tmod_eq_emod_of_nonneg (Int.natCast_nonneg i)]; rfl
  rw [this]
/-- Text in base 16, of a width that it does not write -/
theorem btext_odd {lf m : Nat} {σ : H} (hw : WfH σ) {a : V} {A : List Nat} {w : Nat} (h4 : w % 4 ≠ 0) (ha : U σ a A) (hA : wok A) (hr : rightB w A = true) (hlf : A.length < lf) (hl : A.length < 17592186048512) :
    ∃ σ', call T1 lf (m + 4) 9 [.agg [.int .i64 w, a], .int .i64 16] σ = .ret (.tup [.str [], .int .i64 12]) σ' ∧ Keep σ σ' := by
  have key : ∃ v u σ', call T1 lf (m + 4) 9 [.agg [.int .i64 w, a], .int .i64 16] σ = .ret (.tup [v, u]) σ' ∧ (v = .str [] ∧ u = .int .i64 12 ∧ Keep σ σ') := by
    refine call_rt2 (p := pk 4) (q := pk 5) rfl c9_t (by simp [c9]) rfl fun cf hcf => ?_
    generalize hτ : bindArgs [.agg [.int .i64 w, a], .int .i64 16] .h .lf = τ0
    have h0 : τ0.get (pk 0) = some (.agg [.int .i64 w, a]) := by rw [← hτ]; rfl
    have h1 : τ0.get (pk 1) = some (.int .i64 16) := by rw [← hτ]; rfl
    clear hτ
    have hKa := Keep.new σ (.cells 25 [.int .i64 w, a] 0 0 (some 0) [])
    have ga := (Keep.refl (σ.new (.cells 25 [.int .i64 w, a] 0 0 (some 0) []))).at
    have lG := ldg2 ga
    have hw1 := hKa.2.2 hw
    have ha1 := ha.keep hw hKa
    obtain ⟨σ2, k1, k2⟩ := right_call (lf := lf) (m := m) (n := w) hw1 ha1 hA hlf hl
    rw [hr] at k1
    rw [← hcf] at k1
    have l2 := ld20 (k2.get_some hw1 ga)
    have dd : ((16 : Int) != 2) = true := by decide
    have eR := fun q => e_rem4 q w
    have eZ : (((w % 4 : Nat) : Int) != 0) = true := by simp only [bne_iff_ne, ne_eq]; omega
    generalize hσ1 : σ.new (.cells 25 [.int .i64 w, a] 0 0 (some 0) []) = σ1 at *
    simp only [c9, QU, oP, oR, oA, oH, oPn, oRn, oAn, oHn, bi, ld, ki, kt, kf, s_ops_nil, s_ops_cons, s_ops_nx, s_ops_pn, s_seq, s_seq_nx, s_seq_ex, s_seq_rt, s_skip, s_ret, s_exit, s_reg, s_cond, s_cond_t, s_cond_f, s_blk, s_blk_nx, s_blk_rt, s_blk_ex, s_put, s_P, s_R, s_A, s_A_some, s_C_ret, s_C_pan, s_H, s_H_ok, s_H_call, s_H_pan, s_gd, s_gd_bool, s_gd_undef, e_t, e_k, e_mv, e_pick, e_pick_b, e_bin, e_add_i64, e_add_i32, e_sub_i64, e_sub_u8, e_mul_i64, e_addU, e_mulU, e_addU32, e_mulU32, e_eql, e_neq, e_lss, e_leq, e_gtr, e_geq, e_str_eql, e_str_neq, e_iaddr, e_iaddr_int, e_lens, e_ld, e_extract, e_ex0, e_ex1, e_ex2, e_lenS, e_lenS_str, e_cii, e_cii_int, e_slsl_hm, e_sl2, e_slsl_h, e_sl1, e_slis, e_evL_nil, e_evL_cons, e_cons, e_call, e_callk, e_app, e_appk, e_store, e_stk, e_next, e_nextk, e_range, e_rangek, e_bs1, e_bs1i, e_bs0, e_mksl, e_mkslk, e_AK_sl, e_AK_it, e_AK_ptr, e_not, e_notb, e_xori, e_idxs, s_Hn, s_Hnk, s_Nx, s_Rt, s_NR_nx, s_NR_rt, s_NXT_nx, s_NXT_ex, s_NXT_rt, e_lenV_sl, e_lenV_nils, get_pk, k_bind, true_and, and_true, if_true, if_false, Bool.true_eq, beq_self_eq_true, reduceIte, Bool.false_eq_true, reduceCtorEq, bne_self_eq_false, Nat.reduceAdd, Nat.reduceLeDiff, Nat.reduceEqDiff, Nat.reduceSub, Nat.reduceBEq, Int.reduceBEq, Int.reduceNeg, Int.reduceLT, Int.reduceLE, Nat.succ_ne_self, Bool.not_true, Bool.not_false, Bool.true_beq, Bool.false_beq, decide_true, decide_false, exists_eq_left', Option.some.injEq, lg, e_lg, e_box, e_box2, e_faddr, e_fadp, h0, h1, hσ1, lG, k1, l2, dd, eR, eZ]
    exact ⟨_, _, rfl, rfl, rfl, rfl, hKa.trans k2⟩
  obtain ⟨v, u, σ', h1, rfl, rfl, h2⟩ := key
  exact ⟨σ', h1, h2⟩
/-- Text in base 16 -/
theorem btext16_call {lf m : Nat} {σ : H} (hw : WfH σ) {a : V} {A : List Nat} {w : Nat} (h4 : w % 4 = 0) (h1w : 1 ≤ w) (hwn : w ≤ 4096) (ha : U σ a A) (hA : wok A) (hr : rightB w A = true) (hv : val A < 2 ^ w) (ht : (trimL A).length ≤ 4096) (hlf : A.length < lf) (hlf2 : 35184372088832 < lf) (hlf3 : val A < lf) (hl : A.length < 17592186048512) :
    ∃ k σ', call T1 lf (m + 6) 9 [.agg [.int .i64 w, a], .int .i64 16] σ = .ret (.tup [.str (btx 120 16 (w / 4) (val A) k), .int .i64 0]) σ' ∧ Keep σ σ' ∧ isLen 16 (val A) k ∧ (txt 16 (val A) k).length ≤ w / 4 := by
  have key : ∃ v u σ', call T1 lf (m + 6) 9 [.agg [.int .i64 w, a], .int .i64 16] σ = .ret (.tup [v, u]) σ' ∧ (u = .int .i64 0 ∧ Keep σ σ' ∧ ∃ k, v = .str (btx 120 16 (w / 4) (val A) k) ∧ isLen 16 (val A) k ∧ (txt 16 (val A) k).length ≤ w / 4) := by
    refine call_rt2 (p := pk 4) (q := pk 5) rfl c9_t (by simp [c9]) rfl fun cf hcf => ?_
    generalize hτ : bindArgs [.agg [.int .i64 w, a], .int .i64 16] .h .lf = τ0
    have h0 : τ0.get (pk 0) = some (.agg [.int .i64 w, a]) := by rw [← hτ]; rfl
    have h1 : τ0.get (pk 1) = some (.int .i64 16) := by rw [← hτ]; rfl
    clear hτ
    have hKa := Keep.new σ (.cells 25 [.int .i64 w, a] 0 0 (some 0) [])
    have ga := (Keep.refl (σ.new (.cells 25 [.int .i64 w, a] 0 0 (some 0) []))).at
    have lG := ldg2 ga
    have hw1 := hKa.2.2 hw
    have ha1 := ha.keep hw hKa
    obtain ⟨σ2, k1, k2⟩ := right_call (lf := lf) (m := m + 2) (n := w) hw1 ha1 hA hlf hl
    rw [hr] at k1
    have hw2 := k2.2.2 hw1
    have g2 := k2.get_some hw1 ga
    have l1 := ld21 g2
    obtain ⟨v, u, σ3, k3, k4, k5⟩ := text_call (lf := lf) (m := m) hw2 (ha1.keep hw1 k2) hA (base := 16) (.inr (.inr rfl)) hlf2 hlf3 hl
    rcases k5 with ⟨hbad, _, _⟩ | ⟨_, rfl, k, hk, rfl⟩
    · omega
    have hv16 : val A < 16 ^ (w / 4) := by
      have e : (16 : Nat) = 2 ^ 4 := by decide
      rw [e, ← Nat.pow_mul, show 4 * (w / 4) = w by omega]; exact hv
    have hfit := txt_fits (by omega) hk (Nat.div_eq_of_lt hv16)
    have l0 := ld20 (k4.get_some hw2 g2)
    have eW : IntKind.i64.wrap (((w / 4 : Nat) : Int) - ((txt 16 (val A) k).length : Int)) = ((w / 4 : Nat) : Int) - ((txt 16 (val A) k).length : Int) := wrap_w64 (by omega)
    have kR := rep_call (lf := lf) (m := m + 4) (σ := σ3) (n := w / 4 - (txt 16 (val A) k).length) (by omega)
    rw [← hcf] at k1 k3 kR
    have k3' : cf 21 [a, .int .i64 16] σ2 = _ := k3
    have hlr : (repN [48] (w / 4 - (txt 16 (val A) k).length)).length = w / 4 - (txt 16 (val A) k).length := by rw [repN_eqr, List.length_replicate]
    have c1 : ∀ q, kBin .add q (some (.str [35, 120])) (some (.str (repN [48] (w / 4 - (txt 16 (val A) k).length)))) = some (.str ([35, 120] ++ repN [48] (w / 4 - (txt 16 (val A) k).length))) := fun q => e_str_add q _ _ (by rw [hlr]; unfold mostLen; simp; omega)
    have c2 : ∀ q, kBin .add q (some (.str ([35, 120] ++ repN [48] (w / 4 - (txt 16 (val A) k).length)))) (some (.str (txt 16 (val A) k))) = some (.str (btx 120 16 (w / 4) (val A) k)) := fun q => e_str_add q _ _ (by rw [List.length_append, hlr]; unfold mostLen; simp; omega)
    have dd : ((16 : Int) != 2) = true := by decide
    have eR := fun q => e_rem4 q w
    have eQ := fun q => e_quo4 q w (by omega)
    have eZ : (((w % 4 : Nat) : Int) != 0) = false := by rw [h4]; rfl
    have l2 := ld20 g2
    generalize hσ1 : σ.new (.cells 25 [.int .i64 w, a] 0 0 (some 0) []) = σ1 at *
    simp only [c9, QU, oP, oR, oA, oH, oPn, oRn, oAn, oHn, bi, ld, ki, kt, kf, s_ops_nil, s_ops_cons, s_ops_nx, s_ops_pn, s_seq, s_seq_nx, s_seq_ex, s_seq_rt, s_skip, s_ret, s_exit, s_reg, s_cond, s_cond_t, s_cond_f, s_blk, s_blk_nx, s_blk_rt, s_blk_ex, s_put, s_P, s_R, s_A, s_A_some, s_C_ret, s_C_pan, s_H, s_H_ok, s_H_call, s_H_pan, s_gd, s_gd_bool, s_gd_undef, e_t, e_k, e_mv, e_pick, e_pick_b, e_bin, e_add_i64, e_add_i32, e_sub_i64, e_sub_u8, e_mul_i64, e_addU, e_mulU, e_addU32, e_mulU32, e_eql, e_neq, e_lss, e_leq, e_gtr, e_geq, e_str_eql, e_str_neq, e_iaddr, e_iaddr_int, e_lens, e_ld, e_extract, e_ex0, e_ex1, e_ex2, e_lenS, e_lenS_str, e_cii, e_cii_int, e_slsl_hm, e_sl2, e_slsl_h, e_sl1, e_slis, e_evL_nil, e_evL_cons, e_cons, e_call, e_callk, e_app, e_appk, e_store, e_stk, e_next, e_nextk, e_range, e_rangek, e_bs1, e_bs1i, e_bs0, e_mksl, e_mkslk, e_AK_sl, e_AK_it, e_AK_ptr, e_not, e_notb, e_xori, e_idxs, s_Hn, s_Hnk, s_Nx, s_Rt, s_NR_nx, s_NR_rt, s_NXT_nx, s_NXT_ex, s_NXT_rt, e_lenV_sl, e_lenV_nils, get_pk, k_bind, true_and, and_true, if_true, if_false, Bool.true_eq, beq_self_eq_true, reduceIte, Bool.false_eq_true, reduceCtorEq, bne_self_eq_false, Nat.reduceAdd, Nat.reduceLeDiff, Nat.reduceEqDiff, Nat.reduceSub, Nat.reduceBEq, Int.reduceBEq, Int.reduceNeg, Int.reduceLT, Int.reduceLE, Nat.succ_ne_self, Bool.not_true, Bool.not_false, Bool.true_beq, Bool.false_beq, decide_true, decide_false, exists_eq_left', Option.some.injEq, w_drw, w_nil, w_0, w_3, w_0nx, w_1s, w_1nx, w_1lk, w_1ls, w_2, w_2nx, lg, e_lg, e_box, e_box2, e_faddr, e_fadp, e_mx0, kMx0_int, max0_sub hfit, h0, h1, hσ1, lG, k1, l1, k3', l0, l2, dd, eR, eQ, eZ, eW, kR, c1, c2, List.all_nil]
    exact ⟨_, _, rfl, rfl, rfl, hKa.trans (k2.trans k4), k, rfl, hk, hfit⟩
  obtain ⟨v, u, σ', h1, rfl, h2, k, rfl, h3⟩ := key
  exact ⟨k, σ', h1, h2, h3⟩
end Go.Proofs.YtahgfodccndcjaaGreatEng

namespace Go.Proofs.YtahgfodccndcjaaGreatEng
open Go
set_option maxRecDepth 100000
set_option linter.unusedSimpArgs false

theorem c7_at : T1.code 7 = some c7 := by kernel_rfl

/-- Same, of the same -/
theorem bsame_call {lf m : Nat} {σ : H} (hw : WfH σ) {a b : V} {n : Int} {A : List Nat} (ha : U σ a A) (hb : U σ b A) (hlf : A.length < lf) (hl : A.length < 4611686018427387904) :
    ∃ σ', call T1 lf (m + 1) 7 [.agg [.int .i64 n, a], .agg [.int .i64 n, b]] σ = .ret (.bool true) σ' ∧ Keep σ σ' := by
  have key : ∃ v σ', call T1 lf (m + 1) 7 [.agg [.int .i64 n, a], .agg [.int .i64 n, b]] σ = .ret v σ' ∧ (v = .bool true ∧ Keep σ σ') := by
    refine call_rt1 (p := pk 4) rfl c7_at (by simp [c7]) rfl fun cf hcf => ?_
    clear hcf
    generalize hτ : bindArgs [.agg [.int .i64 n, a], .agg [.int .i64 n, b]] .h .lf = τ0
    have h0 : τ0.get (pk 0) = some (.agg [.int .i64 n, a]) := by rw [← hτ]; rfl
    have h1 : τ0.get (pk 1) = some (.agg [.int .i64 n, b]) := by rw [← hτ]; rfl
    clear hτ
    have hKa := Keep.new σ (.cells 25 [.int .i64 n, a] 0 0 (some 0) [])
    have hKb := Keep.new (σ.new (.cells 25 [.int .i64 n, a] 0 0 (some 0) [])) (.cells 25 [.int .i64 n, b] 0 0 (some 0) [])
    have ga := hKb.at
    have gb := (Keep.refl ((σ.new (.cells 25 [.int .i64 n, a] 0 0 (some 0) [])).new (.cells 25 [.int .i64 n, b] 0 0 (some 0) []))).at
    have hK := hKa.trans hKb
    have ha' := ha.keep hw hK
    have hb' := hb.keep hw hK
    have la0 := ld20 ga
    have la1 := ld21 ga
    have lb0 := ld20 gb
    have lb1 := ld21 gb
    have e0 : ((A.length : Int) != (A.length : Int)) = false := by simp
    have en : (n != n) = false := by simp
    simp only [c7, QU, oP, oR, oA, oH, oPn, oRn, oAn, oHn, bi, ld, ki, kt, kf, s_ops_nil, s_ops_cons, s_ops_nx, s_ops_pn, s_seq, s_seq_nx, s_seq_ex, s_seq_rt, s_skip, s_ret, s_exit, s_reg, s_cond, s_cond_t, s_cond_f, s_blk, s_blk_nx, s_blk_rt, s_blk_ex, s_put, s_P, s_R, s_A, s_A_some, s_C_ret, s_C_pan, s_H, s_H_ok, s_H_call, s_H_pan, s_gd, s_gd_bool, s_gd_undef, e_t, e_k, e_mv, e_pick, e_pick_b, e_bin, e_add_i64, e_add_i32, e_sub_i64, e_sub_u8, e_mul_i64, e_addU, e_mulU, e_addU32, e_mulU32, e_eql, e_neq, e_lss, e_leq, e_gtr, e_geq, e_str_eql, e_str_neq, e_iaddr, e_iaddr_int, e_lens, e_ld, e_extract, e_ex0, e_ex1, e_ex2, e_lenS, e_lenS_str, e_cii, e_cii_int, e_slsl_hm, e_sl2, e_slsl_h, e_sl1, e_slis, e_evL_nil, e_evL_cons, e_cons, e_call, e_callk, e_app, e_appk, e_store, e_stk, e_next, e_nextk, e_range, e_rangek, e_bs1, e_bs1i, e_bs0, e_mksl, e_mkslk, e_AK_sl, e_AK_it, e_AK_ptr, e_not, e_notb, e_xori, e_idxs, s_Hn, s_Hnk, s_Nx, s_Rt, s_NR_nx, s_NR_rt, s_NXT_nx, s_NXT_ex, s_NXT_rt, e_lenV_sl, e_lenV_nils, get_pk, k_bind, true_and, and_true, if_true, if_false, Bool.true_eq, beq_self_eq_true, reduceIte, Bool.false_eq_true, reduceCtorEq, bne_self_eq_false, Nat.reduceAdd, Nat.reduceLeDiff, Nat.reduceEqDiff, Nat.reduceSub, Nat.reduceBEq, Int.reduceBEq, Int.reduceNeg, Int.reduceLT, Int.reduceLE, Nat.succ_ne_self, Bool.not_true, Bool.not_false, Bool.true_beq, Bool.false_beq, decide_true, decide_false, exists_eq_left', Option.some.injEq, e_box, e_box2, e_faddr, e_fadp, h0, h1, la0, la1, lb0, lb1, ha'.len, hb'.len, e0, en]
    generalize hx : (σ.new (.cells 25 [.int .i64 n, a] 0 0 (some 0) [])).nx = x at *
    generalize hσ1 : (σ.new (.cells 25 [.int .i64 n, a] 0 0 (some 0) [])).new (.cells 25 [.int .i64 n, b] 0 0 (some 0) []) = σ1 at *
    refine Rt_seq (loop_rule_x (fun k τ σ' => ∃ i, i ≤ A.length ∧ k = A.length - i ∧ σ' = σ1 ∧ τ.get (pk 2) = some (.ptr σ.nx 0 0) ∧ τ.get (pk 3) = some (.ptr x 0 0) ∧ τ.get (pk 5) = some (.int .i64 i))
      (fun τ σ' => σ' = σ1) ?_ (k := A.length) hlf ?_) ?_
    · rintro k τ σ' ⟨i, hi, rfl, hσ, g2, g3, g5⟩
      subst hσ
      by_cases hlt : i < A.length
      · have d1 := lt_true hlt
        obtain ⟨q, p1, p2⟩ := ha'.elem hlt
        obtain ⟨r, r1, r2⟩ := hb'.elem hlt
        have wi : IntKind.i64.wrap ((i : Int) + 1) = ((i + 1 : Nat) : Int) := wrap_add1 (by omega)
        have e1 : (((A.getD i 0 : Nat) : Int) != ((A.getD i 0 : Nat) : Int)) = false := by simp
        simp only [b7_0, QU, oP, oR, oA, oH, oPn, oRn, oAn, oHn, bi, ld, ki, kt, kf, s_ops_nil, s_ops_cons, s_ops_nx, s_ops_pn, s_seq, s_seq_nx, s_seq_ex, s_seq_rt, s_skip, s_ret, s_exit, s_reg, s_cond, s_cond_t, s_cond_f, s_blk, s_blk_nx, s_blk_rt, s_blk_ex, s_put, s_P, s_R, s_A, s_A_some, s_C_ret, s_C_pan, s_H, s_H_ok, s_H_call, s_H_pan, s_gd, s_gd_bool, s_gd_undef, e_t, e_k, e_mv, e_pick, e_pick_b, e_bin, e_add_i64, e_add_i32, e_sub_i64, e_sub_u8, e_mul_i64, e_addU, e_mulU, e_addU32, e_mulU32, e_eql, e_neq, e_lss, e_leq, e_gtr, e_geq, e_str_eql, e_str_neq, e_iaddr, e_iaddr_int, e_lens, e_ld, e_extract, e_ex0, e_ex1, e_ex2, e_lenS, e_lenS_str, e_cii, e_cii_int, e_slsl_hm, e_sl2, e_slsl_h, e_sl1, e_slis, e_evL_nil, e_evL_cons, e_cons, e_call, e_callk, e_app, e_appk, e_store, e_stk, e_next, e_nextk, e_range, e_rangek, e_bs1, e_bs1i, e_bs0, e_mksl, e_mkslk, e_AK_sl, e_AK_it, e_AK_ptr, e_not, e_notb, e_xori, e_idxs, s_Hn, s_Hnk, s_Nx, s_Rt, s_NR_nx, s_NR_rt, s_NXT_nx, s_NXT_ex, s_NXT_rt, e_lenV_sl, e_lenV_nils, get_pk, k_bind, true_and, and_true, if_true, if_false, Bool.true_eq, beq_self_eq_true, reduceIte, Bool.false_eq_true, reduceCtorEq, bne_self_eq_false, Nat.reduceAdd, Nat.reduceLeDiff, Nat.reduceEqDiff, Nat.reduceSub, Nat.reduceBEq, Int.reduceBEq, Int.reduceNeg, Int.reduceLT, Int.reduceLE, Nat.succ_ne_self, Bool.not_true, Bool.not_false, Bool.true_beq, Bool.false_beq, decide_true, decide_false, exists_eq_left', Option.some.injEq, w_drw, w_nil, w_0, w_3, w_0nx, w_1s, w_1nx, w_1lk, w_1ls, w_2, w_2nx, e_faddr, e_fadp, g2, g3, g5, la1, lb1, ha'.len, d1, p1, p2, r1, r2, wd, e1, wi, List.all_nil]
        exact ⟨A.length - (i + 1), by omega, i + 1, by omega, rfl, rfl⟩
      · have d1 := lt_false hlt
        simp only [b7_0, QU, oP, oR, oA, oH, oPn, oRn, oAn, oHn, bi, ld, ki, kt, kf, s_ops_nil, s_ops_cons, s_ops_nx, s_ops_pn, s_seq, s_seq_nx, s_seq_ex, s_seq_rt, s_skip, s_ret, s_exit, s_reg, s_cond, s_cond_t, s_cond_f, s_blk, s_blk_nx, s_blk_rt, s_blk_ex, s_put, s_P, s_R, s_A, s_A_some, s_C_ret, s_C_pan, s_H, s_H_ok, s_H_call, s_H_pan, s_gd, s_gd_bool, s_gd_undef, e_t, e_k, e_mv, e_pick, e_pick_b, e_bin, e_add_i64, e_add_i32, e_sub_i64, e_sub_u8, e_mul_i64, e_addU, e_mulU, e_addU32, e_mulU32, e_eql, e_neq, e_lss, e_leq, e_gtr, e_geq, e_str_eql, e_str_neq, e_iaddr, e_iaddr_int, e_lens, e_ld, e_extract, e_ex0, e_ex1, e_ex2, e_lenS, e_lenS_str, e_cii, e_cii_int, e_slsl_hm, e_sl2, e_slsl_h, e_sl1, e_slis, e_evL_nil, e_evL_cons, e_cons, e_call, e_callk, e_app, e_appk, e_store, e_stk, e_next, e_nextk, e_range, e_rangek, e_bs1, e_bs1i, e_bs0, e_mksl, e_mkslk, e_AK_sl, e_AK_it, e_AK_ptr, e_not, e_notb, e_xori, e_idxs, s_Hn, s_Hnk, s_Nx, s_Rt, s_NR_nx, s_NR_rt, s_NXT_nx, s_NXT_ex, s_NXT_rt, e_lenV_sl, e_lenV_nils, get_pk, k_bind, true_and, and_true, if_true, if_false, Bool.true_eq, beq_self_eq_true, reduceIte, Bool.false_eq_true, reduceCtorEq, bne_self_eq_false, Nat.reduceAdd, Nat.reduceLeDiff, Nat.reduceEqDiff, Nat.reduceSub, Nat.reduceBEq, Int.reduceBEq, Int.reduceNeg, Int.reduceLT, Int.reduceLE, Nat.succ_ne_self, Bool.not_true, Bool.not_false, Bool.true_beq, Bool.false_beq, decide_true, decide_false, exists_eq_left', Option.some.injEq, e_faddr, e_fadp, g2, g3, g5, la1, ha'.len, d1]
    · exact ⟨0, Nat.zero_le _, rfl, rfl, by simp only [QU, oP, oR, oA, oH, oPn, oRn, oAn, oHn, bi, ld, ki, kt, kf, s_ops_nil, s_ops_cons, s_ops_nx, s_ops_pn, s_seq, s_seq_nx, s_seq_ex, s_seq_rt, s_skip, s_ret, s_exit, s_reg, s_cond, s_cond_t, s_cond_f, s_blk, s_blk_nx, s_blk_rt, s_blk_ex, s_put, s_P, s_R, s_A, s_A_some, s_C_ret, s_C_pan, s_H, s_H_ok, s_H_call, s_H_pan, s_gd, s_gd_bool, s_gd_undef, e_t, e_k, e_mv, e_pick, e_pick_b, e_bin, e_add_i64, e_add_i32, e_sub_i64, e_sub_u8, e_mul_i64, e_addU, e_mulU, e_addU32, e_mulU32, e_eql, e_neq, e_lss, e_leq, e_gtr, e_geq, e_str_eql, e_str_neq, e_iaddr, e_iaddr_int, e_lens, e_ld, e_extract, e_ex0, e_ex1, e_ex2, e_lenS, e_lenS_str, e_cii, e_cii_int, e_slsl_hm, e_sl2, e_slsl_h, e_sl1, e_slis, e_evL_nil, e_evL_cons, e_cons, e_call, e_callk, e_app, e_appk, e_store, e_stk, e_next, e_nextk, e_range, e_rangek, e_bs1, e_bs1i, e_bs0, e_mksl, e_mkslk, e_AK_sl, e_AK_it, e_AK_ptr, e_not, e_notb, e_xori, e_idxs, s_Hn, s_Hnk, s_Nx, s_Rt, s_NR_nx, s_NR_rt, s_NXT_nx, s_NXT_ex, s_NXT_rt, e_lenV_sl, e_lenV_nils, get_pk, k_bind, true_and, and_true, if_true, if_false, Bool.true_eq, beq_self_eq_true, reduceIte, Bool.false_eq_true, reduceCtorEq, bne_self_eq_false, Nat.reduceAdd, Nat.reduceLeDiff, Nat.reduceEqDiff, Nat.reduceSub, Nat.reduceBEq, Int.reduceBEq, Int.reduceNeg, Int.reduceLT, Int.reduceLE, Nat.succ_ne_self, Bool.not_true, Bool.not_false, Bool.true_beq, Bool.false_beq, decide_true, decide_false, exists_eq_left', Option.some.injEq], by simp only [QU, oP, oR, oA, oH, oPn, oRn, oAn, oHn, bi, ld, ki, kt, kf, s_ops_nil, s_ops_cons, s_ops_nx, s_ops_pn, s_seq, s_seq_nx, s_seq_ex, s_seq_rt, s_skip, s_ret, s_exit, s_reg, s_cond, s_cond_t, s_cond_f, s_blk, s_blk_nx, s_blk_rt, s_blk_ex, s_put, s_P, s_R, s_A, s_A_some, s_C_ret, s_C_pan, s_H, s_H_ok, s_H_call, s_H_pan, s_gd, s_gd_bool, s_gd_undef, e_t, e_k, e_mv, e_pick, e_pick_b, e_bin, e_add_i64, e_add_i32, e_sub_i64, e_sub_u8, e_mul_i64, e_addU, e_mulU, e_addU32, e_mulU32, e_eql, e_neq, e_lss, e_leq, e_gtr, e_geq, e_str_eql, e_str_neq, e_iaddr, e_iaddr_int, e_lens, e_ld, e_extract, e_ex0, e_ex1, e_ex2, e_lenS, e_lenS_str, e_cii, e_cii_int, e_slsl_hm, e_sl2, e_slsl_h, e_sl1, e_slis, e_evL_nil, e_evL_cons, e_cons, e_call, e_callk, e_app, e_appk, e_store, e_stk, e_next, e_nextk, e_range, e_rangek, e_bs1, e_bs1i, e_bs0, e_mksl, e_mkslk, e_AK_sl, e_AK_it, e_AK_ptr, e_not, e_notb, e_xori, e_idxs, s_Hn, s_Hnk, s_Nx, s_Rt, s_NR_nx, s_NR_rt, s_NXT_nx, s_NXT_ex, s_NXT_rt, e_lenV_sl, e_lenV_nils, get_pk, k_bind, true_and, and_true, if_true, if_false, Bool.true_eq, beq_self_eq_true, reduceIte, Bool.false_eq_true, reduceCtorEq, bne_self_eq_false, Nat.reduceAdd, Nat.reduceLeDiff, Nat.reduceEqDiff, Nat.reduceSub, Nat.reduceBEq, Int.reduceBEq, Int.reduceNeg, Int.reduceLT, Int.reduceLE, Nat.succ_ne_self, Bool.not_true, Bool.not_false, Bool.true_beq, Bool.false_beq, decide_true, decide_false, exists_eq_left', Option.some.injEq], by simp only [QU, oP, oR, oA, oH, oPn, oRn, oAn, oHn, bi, ld, ki, kt, kf, s_ops_nil, s_ops_cons, s_ops_nx, s_ops_pn, s_seq, s_seq_nx, s_seq_ex, s_seq_rt, s_skip, s_ret, s_exit, s_reg, s_cond, s_cond_t, s_cond_f, s_blk, s_blk_nx, s_blk_rt, s_blk_ex, s_put, s_P, s_R, s_A, s_A_some, s_C_ret, s_C_pan, s_H, s_H_ok, s_H_call, s_H_pan, s_gd, s_gd_bool, s_gd_undef, e_t, e_k, e_mv, e_pick, e_pick_b, e_bin, e_add_i64, e_add_i32, e_sub_i64, e_sub_u8, e_mul_i64, e_addU, e_mulU, e_addU32, e_mulU32, e_eql, e_neq, e_lss, e_leq, e_gtr, e_geq, e_str_eql, e_str_neq, e_iaddr, e_iaddr_int, e_lens, e_ld, e_extract, e_ex0, e_ex1, e_ex2, e_lenS, e_lenS_str, e_cii, e_cii_int, e_slsl_hm, e_sl2, e_slsl_h, e_sl1, e_slis, e_evL_nil, e_evL_cons, e_cons, e_call, e_callk, e_app, e_appk, e_store, e_stk, e_next, e_nextk, e_range, e_rangek, e_bs1, e_bs1i, e_bs0, e_mksl, e_mkslk, e_AK_sl, e_AK_it, e_AK_ptr, e_not, e_notb, e_xori, e_idxs, s_Hn, s_Hnk, s_Nx, s_Rt, s_NR_nx, s_NR_rt, s_NXT_nx, s_NXT_ex, s_NXT_rt, e_lenV_sl, e_lenV_nils, get_pk, k_bind, true_and, and_true, if_true, if_false, Bool.true_eq, beq_self_eq_true, reduceIte, Bool.false_eq_true, reduceCtorEq, bne_self_eq_false, Nat.reduceAdd, Nat.reduceLeDiff, Nat.reduceEqDiff, Nat.reduceSub, Nat.reduceBEq, Int.reduceBEq, Int.reduceNeg, Int.reduceLT, Int.reduceLE, Nat.succ_ne_self, Bool.not_true, Bool.not_false, Bool.true_beq, Bool.false_beq, decide_true, decide_false, exists_eq_left', Option.some.injEq]; rfl⟩
    · rintro τ σ' rfl
      simp only [QU, oP, oR, oA, oH, oPn, oRn, oAn, oHn, bi, ld, ki, kt, kf, s_ops_nil, s_ops_cons, s_ops_nx, s_ops_pn, s_seq, s_seq_nx, s_seq_ex, s_seq_rt, s_skip, s_ret, s_exit, s_reg, s_cond, s_cond_t, s_cond_f, s_blk, s_blk_nx, s_blk_rt, s_blk_ex, s_put, s_P, s_R, s_A, s_A_some, s_C_ret, s_C_pan, s_H, s_H_ok, s_H_call, s_H_pan, s_gd, s_gd_bool, s_gd_undef, e_t, e_k, e_mv, e_pick, e_pick_b, e_bin, e_add_i64, e_add_i32, e_sub_i64, e_sub_u8, e_mul_i64, e_addU, e_mulU, e_addU32, e_mulU32, e_eql, e_neq, e_lss, e_leq, e_gtr, e_geq, e_str_eql, e_str_neq, e_iaddr, e_iaddr_int, e_lens, e_ld, e_extract, e_ex0, e_ex1, e_ex2, e_lenS, e_lenS_str, e_cii, e_cii_int, e_slsl_hm, e_sl2, e_slsl_h, e_sl1, e_slis, e_evL_nil, e_evL_cons, e_cons, e_call, e_callk, e_app, e_appk, e_store, e_stk, e_next, e_nextk, e_range, e_rangek, e_bs1, e_bs1i, e_bs0, e_mksl, e_mkslk, e_AK_sl, e_AK_it, e_AK_ptr, e_not, e_notb, e_xori, e_idxs, s_Hn, s_Hnk, s_Nx, s_Rt, s_NR_nx, s_NR_rt, s_NXT_nx, s_NXT_ex, s_NXT_rt, e_lenV_sl, e_lenV_nils, get_pk, k_bind, true_and, and_true, if_true, if_false, Bool.true_eq, beq_self_eq_true, reduceIte, Bool.false_eq_true, reduceCtorEq, bne_self_eq_false, Nat.reduceAdd, Nat.reduceLeDiff, Nat.reduceEqDiff, Nat.reduceSub, Nat.reduceBEq, Int.reduceBEq, Int.reduceNeg, Int.reduceLT, Int.reduceLE, Nat.succ_ne_self, Bool.not_true, Bool.not_false, Bool.true_beq, Bool.false_beq, decide_true, decide_false, exists_eq_left', Option.some.injEq]
      exact hK
  obtain ⟨v, σ', h1, rfl, h2⟩ := key
  exact ⟨σ', h1, h2⟩


/-- what reading a vector's text in base 2 gives -/
theorem parse_btx2 {A : List Nat} {w k : Nat} {v x u : V} {σ : H} (hA : wok A) (h1w : 1 ≤ w) (hwn : w ≤ 4096) (hk : isLen 2 (val A) k) (hf : (txt 2 (val A) k).length ≤ w) (h : BitsOut (btx 98 2 w (val A) k) v x u σ) : v = .int .i64 w ∧ u = .int .i64 0 ∧ U σ x (trimL A) := by
  have hl := btx_len (mark := 98) (b := 2) (dgt := w) hf
  obtain ⟨p1, p2⟩ := hasP_b98 (b := 2) (dgt := w) (N := val A) (k := k)
  have hB : baseOf (btx 98 2 w (val A) k) = 2 := by rw [baseOf, p1]; rfl
  have hE : eachOf (btx 98 2 w (val A) k) = 1 := by rw [eachOf, p1]; rfl
  have hG := btx_good (mark := 98) (b := 2) (dgt := w) (N := val A) (k := k) (by decide) (by decide)
  have hN := btx_num (mark := 98) (by decide) (by decide) hk hf
  have hlw : 1 * (w + 2 - 2) = w := by omega
  unfold BitsOut at h
  rw [hB, hE, hl, hlw] at h
  rcases h with ⟨h1, _⟩ | ⟨_, h2, _⟩ | ⟨_, _, _, h4, _⟩ | ⟨_, _, _, _, rfl, rfl, B, c1, c2, c3, _, c5⟩
  · omega
  · exact absurd ⟨.inr p2, hG⟩ h2
  · omega
  · rw [show w + 2 - 2 = w by omega, hN] at c5
    have : B = trimL A := trimd_inj c2 (trimL_ok hA) c3 (trimL_trimd A) (by rw [c5, trimL_val])
    subst this
    exact ⟨rfl, rfl, c1⟩
/-- .. in base 16 -/
theorem parse_btx16 {A : List Nat} {w k : Nat} {v x u : V} {σ : H} (hA : wok A) (h4 : w % 4 = 0) (h1w : 1 ≤ w) (hwn : w ≤ 4096) (hk : isLen 16 (val A) k) (hf : (txt 16 (val A) k).length ≤ w / 4) (h : BitsOut (btx 120 16 (w / 4) (val A) k) v x u σ) : v = .int .i64 w ∧ u = .int .i64 0 ∧ U σ x (trimL A) := by
  have hl := btx_len (mark := 120) (b := 16) (dgt := w / 4) hf
  have p1 := hasP_b120 (b := 16) (dgt := w / 4) (N := val A) (k := k)
  have hB : baseOf (btx 120 16 (w / 4) (val A) k) = 16 := by rw [baseOf, p1]; rfl
  have hE : eachOf (btx 120 16 (w / 4) (val A) k) = 4 := by rw [eachOf, p1]; rfl
  have hG := btx_good (mark := 120) (b := 16) (dgt := w / 4) (N := val A) (k := k) (by decide) (by decide)
  have hN := btx_num (mark := 120) (by decide) (by decide) hk hf
  have hlw : 4 * (w / 4 + 2 - 2) = w := by omega
  unfold BitsOut at h
  rw [hB, hE, hl, hlw] at h
  rcases h with ⟨h1, _⟩ | ⟨_, h2, _⟩ | ⟨_, _, _, h4, _⟩ | ⟨_, _, _, _, rfl, rfl, B, c1, c2, c3, _, c5⟩
  · omega
  · exact absurd ⟨.inl p1, hG⟩ h2
  · omega
  · rw [show w / 4 + 2 - 2 = w / 4 by omega, hN] at c5
    have : B = trimL A := trimd_inj c2 (trimL_ok hA) c3 (trimL_trimd A) (by rw [c5, trimL_val])
    subst this
    exact ⟨rfl, rfl, c1⟩
theorem right_facts {A : List Nat} {n : Int} (hA : wok A) (hr : rightB n A = true) : ∃ w : Nat, n = w ∧ 1 ≤ w ∧ w ≤ 4096 ∧ val A < 2 ^ w ∧ (trimL A).length ≤ 4096 := by
  simp only [rightB, Bool.and_eq_true, decide_eq_true_eq] at hr
  obtain ⟨h1, h2, h3⟩ := hr
  obtain ⟨w, rfl⟩ : ∃ w : Nat, n = w := ⟨n.toNat, by omega⟩
  obtain ⟨h4, h5⟩ := lenN_len (trimL_ok hA) (w := w) (by omega)
  rw [trimL_val] at h5
  exact ⟨w, rfl, by omega, by omega, h5, by omega⟩
end Go.Proofs.YtahgfodccndcjaaGreatEng

namespace Go.Proofs.YtahgfodccndcjaaGreatEng
open Go
set_option maxRecDepth 100000
set_option linter.unusedSimpArgs false
set_option maxHeartbeats 1000000

theorem c4_law : T1.code 4 = some c4 := by kernel_rfl
/-- THE LAW, on the machine, of no vector. -/
theorem back_wrong {lf m : Nat} {σ : H} (hw : WfH σ) {a : V} {A : List Nat} {n : Int} (ha : U σ a A) (hA : wok A) (hr : rightB n A = false) (hlf : A.length < lf) (hl : A.length < 17592186048512) :
    ∃ σ', call T1 lf (m + 10) 4 [.agg [.int .i64 n, a]] σ = .ret (.bool true) σ' := by
  have key : ∃ v σ', call T1 lf (m + 10) 4 [.agg [.int .i64 n, a]] σ = .ret v σ' ∧ v = .bool true := by
    refine call_rt1 (p := pk 2) (Post := fun v _ => v = .bool true) rfl c4_law (by simp [c4]) rfl fun cf hcf => ?_
    generalize hτ : bindArgs [.agg [.int .i64 n, a]] .h .lf = τ0
    have h0 : τ0.get (pk 0) = some (.agg [.int .i64 n, a]) := by rw [← hτ]; rfl
    clear hτ
    have al : ∀ σ, cf 8 [] σ = .ret (.bool true) σ := fun σ => by rw [hcf, call_intr (g := iTrue) rfl]; rfl
    have hKa := Keep.new σ (.cells 25 [.int .i64 n, a] 0 0 (some 0) [])
    have ga := (Keep.refl (σ.new (.cells 25 [.int .i64 n, a] 0 0 (some 0) []))).at
    have lG := ldg2 ga
    have hw1 := hKa.2.2 hw
    have ha1 := ha.keep hw hKa
    obtain ⟨σ2, k1, k2⟩ := btext_wrong (lf := lf) (m := m + 5) (n := n) hw1 ha1 hA hr hlf hl
    have hw2 := k2.2.2 hw1
    have lG2 := ldg2 (k2.get_some hw1 ga)
    obtain ⟨σ3, k3, k4⟩ := right_call (lf := lf) (m := m + 6) (n := n) hw2 (ha1.keep hw1 k2) hA hlf hl
    rw [hr] at k3
    rw [← hcf] at k1 k3
    have dd : ((90 : Int) != 0) = true := by decide
    generalize hσ1 : σ.new (.cells 25 [.int .i64 n, a] 0 0 (some 0) []) = σ1 at *
    simp only [c4, QU, oP, oR, oA, oH, oPn, oRn, oAn, oHn, bi, ld, ki, kt, kf, s_ops_nil, s_ops_cons, s_ops_nx, s_ops_pn, s_seq, s_seq_nx, s_seq_ex, s_seq_rt, s_skip, s_ret, s_exit, s_reg, s_cond, s_cond_t, s_cond_f, s_blk, s_blk_nx, s_blk_rt, s_blk_ex, s_put, s_P, s_R, s_A, s_A_some, s_C_ret, s_C_pan, s_H, s_H_ok, s_H_call, s_H_pan, s_gd, s_gd_bool, s_gd_undef, e_t, e_k, e_mv, e_pick, e_pick_b, e_bin, e_add_i64, e_add_i32, e_sub_i64, e_sub_u8, e_mul_i64, e_addU, e_mulU, e_addU32, e_mulU32, e_eql, e_neq, e_lss, e_leq, e_gtr, e_geq, e_str_eql, e_str_neq, e_iaddr, e_iaddr_int, e_lens, e_ld, e_extract, e_ex0, e_ex1, e_ex2, e_lenS, e_lenS_str, e_cii, e_cii_int, e_slsl_hm, e_sl2, e_slsl_h, e_sl1, e_slis, e_evL_nil, e_evL_cons, e_cons, e_call, e_callk, e_app, e_appk, e_store, e_stk, e_next, e_nextk, e_range, e_rangek, e_bs1, e_bs1i, e_bs0, e_mksl, e_mkslk, e_AK_sl, e_AK_it, e_AK_ptr, e_not, e_notb, e_xori, e_idxs, s_Hn, s_Hnk, s_Nx, s_Rt, s_NR_nx, s_NR_rt, s_NXT_nx, s_NXT_ex, s_NXT_rt, e_lenV_sl, e_lenV_nils, get_pk, k_bind, true_and, and_true, if_true, if_false, Bool.true_eq, beq_self_eq_true, reduceIte, Bool.false_eq_true, reduceCtorEq, bne_self_eq_false, Nat.reduceAdd, Nat.reduceLeDiff, Nat.reduceEqDiff, Nat.reduceSub, Nat.reduceBEq, Int.reduceBEq, Int.reduceNeg, Int.reduceLT, Int.reduceLE, Nat.succ_ne_self, Bool.not_true, Bool.not_false, Bool.true_beq, Bool.false_beq, decide_true, decide_false, exists_eq_left', Option.some.injEq, lg, e_lg, e_box, e_box2, h0, hσ1, lG, lG2, k1, k3, dd, al]
  obtain ⟨v, σ', h1, rfl⟩ := key
  exact ⟨σ', h1⟩

/-- THE LAW, on the machine, of a vector. -/
theorem back_right {lf m : Nat} {σ : H} (hw : WfH σ) {a : V} {A : List Nat} {w : Nat} (h1w : 1 ≤ w) (hwn : w ≤ 4096) (ha : U σ a A) (hA : wok A) (hr : rightB w A = true) (hv : val A < 2 ^ w) (ht : (trimL A).length ≤ 4096) (hlf : A.length < lf) (hlf2 : 35184372088832 < lf) (hlf3 : val A < lf) (hl : A.length < 17592186048512) :
    ∃ σ', call T1 lf (m + 10) 4 [.agg [.int .i64 w, a]] σ = .ret (.bool true) σ' := by
  have key : ∃ v σ', call T1 lf (m + 10) 4 [.agg [.int .i64 w, a]] σ = .ret v σ' ∧ v = .bool true := by
    refine call_rt1 (p := pk 2) (Post := fun v _ => v = .bool true) rfl c4_law (by simp [c4]) rfl fun cf hcf => ?_
    generalize hτ : bindArgs [.agg [.int .i64 w, a]] .h .lf = τ0
    have h0 : τ0.get (pk 0) = some (.agg [.int .i64 w, a]) := by rw [← hτ]; rfl
    clear hτ
    have al : ∀ σ, cf 8 [] σ = .ret (.bool true) σ := fun σ => by rw [hcf, call_intr (g := iTrue) rfl]; rfl
    have hKa := Keep.new σ (.cells 25 [.int .i64 w, a] 0 0 (some 0) [])
    have ga := (Keep.refl (σ.new (.cells 25 [.int .i64 w, a] 0 0 (some 0) []))).at
    have hw1 := hKa.2.2 hw
    have ha1 := ha.keep hw hKa
    generalize hσ1 : σ.new (.cells 25 [.int .i64 w, a] 0 0 (some 0) []) = σ1 at *
    have lG1 := ldg2 ga
    /- Text, Parse -/
    obtain ⟨k, σ2, k1, k2, k3, k4⟩ := btext2_call (lf := lf) (m := m + 3) (w := w) hw1 h1w hwn ha1 hA hr hv ht hlf hlf2 hlf3 hl
    have hw2 := k2.2.2 hw1
    have hbl := btx_len (mark := 98) (b := 2) (N := val A) (k := k) k4
    obtain ⟨v5, x5, u5, σ3, k5, k6, k7⟩ := bparse_call (lf := lf) (m := m + 4) hw2 (s := btx 98 2 w (val A) k) (by omega) (by omega) (by omega)
    obtain ⟨rfl, rfl, k8⟩ := parse_btx2 hA h1w hwn k3 k4 k7
    have hw3 := k6.2.2 hw2
    obtain ⟨σ5, s1, s2, s3, s4, _⟩ := fin_cellg (σ := σ3) (f := wd) (ty := 25) (a := .int .i64 0) (b := .nils) (v := .int .i64 w) (w := x5) (fun n => wd_neI n) wd_neN (Keep.refl _) rfl k8.one_v
    have hw5 := s3.2.2 hw3
    have x5U := s4 _ _ (k8.keep hw3 (Keep.new _ (.cells 25 [.int .i64 0, .nils] 0 0 (some 0) [])))
    have kk5 := k2.trans (k6.trans s3)
    /- Unsigned -/
    have g5 := kk5.get_some hw1 ga
    have lG5 := ldg2 g5
    obtain ⟨n1, σ6, k9, k10, k11⟩ := unsigned_call (lf := lf) (m := m + 4) (n := w) hw5 (ha1.keep hw1 kk5) hA hr hlf hl
    have hw6 := k10.2.2 hw5
    obtain ⟨σ8, s5, s6, s7, s8, _⟩ := fin_cellg (σ := σ6) (f := wd) (ty := 38) (a := .bool false) (b := .nils) (v := .bool false) (w := n1) (fun n => wd_neB n false) wd_neN (Keep.refl _) rfl k11.one_v
    have hw8 := s7.2.2 hw6
    have n1U := s8 _ _ (k11.keep hw6 (Keep.new _ (.cells 38 [.bool false, .nils] 0 0 (some 0) [])))
    have kk8 := k10.trans s7
    /- Signed -/
    have g8 := kk8.get_some hw5 g5
    have lG8 := ldg2 g8
    obtain ⟨b, D, m1, σ9, k12, k13, k14, k15⟩ := signed9_call (lf := lf) (m := m + 1) (w := w) hw8 h1w hwn (ha1.keep hw1 (kk5.trans kk8)) hA hr hv hlf (by omega) hl
    have hw9 := k13.2.2 hw8
    obtain ⟨σ11, s9, s10, s11, s12, _⟩ := fin_cellg (σ := σ9) (f := wd) (ty := 38) (a := .bool false) (b := .nils) (v := .bool b) (w := m1) (fun n => wd_neB n false) wd_neN (Keep.refl _) rfl k14.one_v
    have hw11 := s11.2.2 hw9
    have m1U := s12 _ _ (k14.keep hw9 (Keep.new _ (.cells 38 [.bool false, .nils] 0 0 (some 0) [])))
    have kk11 := k13.trans s11
    /- From, of the number -/
    have g11 := kk11.get_some hw8 g8
    have l11 := ld20 g11
    have lN11 := ldg2 (kk11.get_some hw8 s6)
    have hS : SOut w A false (trimL A) := ⟨trimL_ok hA, trimL_trimd A, by rw [trimL_val]; exact hv, .inl ⟨rfl, trimL_val A⟩⟩
    obtain ⟨y1, σ12, k16, k17, k18⟩ := from_call (lf := lf) (m := m) (b := false) (w := w) hw11 h1w hwn (n1U.keep hw8 kk11) hS.1 hS.2.2.1 (fits_len hS.2.1 hS.2.2.1) (by omega)
    rw [sout_back hA hS] at k18
    have hw12 := k17.2.2 hw11
    obtain ⟨σ14, s13, s14, s15, s16, _⟩ := fin_cellg (σ := σ12) (f := wd) (ty := 25) (a := .int .i64 0) (b := .nils) (v := .int .i64 w) (w := y1) (fun n => wd_neI n) wd_neN (Keep.refl _) rfl k18.one_v
    have hw14 := s15.2.2 hw12
    have y1U := s16 _ _ (k18.keep hw12 (Keep.new _ (.cells 25 [.int .i64 0, .nils] 0 0 (some 0) [])))
    have kk14 := k17.trans s15
    /- From, of the signed number -/
    have g14 := kk14.get_some hw11 g11
    have l14 := ld20 g14
    have lM14 := ldg2 (kk14.get_some hw11 s10)
    obtain ⟨z1, σ15, k19, k20, k21⟩ := from_call (lf := lf) (m := m) (b := b) (w := w) hw14 h1w hwn (m1U.keep hw11 kk14) k15.1 k15.2.2.1 (fits_len k15.2.1 k15.2.2.1) (by omega)
    rw [sout_back hA k15] at k21
    have hw15 := k20.2.2 hw14
    obtain ⟨σ17, s17, s18, s19, s20, _⟩ := fin_cellg (σ := σ15) (f := wd) (ty := 25) (a := .int .i64 0) (b := .nils) (v := .int .i64 w) (w := z1) (fun n => wd_neI n) wd_neN (Keep.refl _) rfl k21.one_v
    have hw17 := s19.2.2 hw15
    have z1U := s20 _ _ (k21.keep hw15 (Keep.new _ (.cells 25 [.int .i64 0, .nils] 0 0 (some 0) [])))
    have kk17 := k20.trans s19
    /- the same -/
    have kk517 := kk8.trans (kk11.trans (kk14.trans kk17))
    have X17 := kk517.get_some hw5 s2
    have lX17 := ldg2 X17
    have Y17 := kk17.get_some hw14 s14
    have lY17 := ldg2 Y17
    have hlt : (trimL A).length < lf := by omega
    obtain ⟨σ18, k22, k23⟩ := bsame_call (lf := lf) (m := m + 8) (n := w) hw17 (x5U.keep hw5 kk517) (y1U.keep hw14 kk17) hlt (by omega)
    have hw18 := k23.2.2 hw17
    have lX18 := ldg2 (k23.get_some hw17 X17)
    have lZ18 := ldg2 (k23.get_some hw17 s18)
    obtain ⟨σ19, k24, k25⟩ := bsame_call (lf := lf) (m := m + 8) (n := w) hw18 ((x5U.keep hw5 kk517).keep hw17 k23) (z1U.keep hw17 k23) hlt (by omega)
    have hw19 := k25.2.2 hw18
    have kk1719 := k23.trans k25
    have X19 := kk1719.get_some hw17 X17
    have lX19 := ld20 X19
    have g19 := kk1719.get_some hw17 (kk17.get_some hw14 g14)
    have l19 := ld20 g19
    have lG19 := ldg2 g19
    have ha19 := ((ha1.keep hw1 kk5).keep hw5 kk517).keep hw17 kk1719
    have eR := fun q => e_rem4 q w
    by_cases h4 : w % 4 = 0
    · obtain ⟨k', σ20, j1, j2, j3, j4⟩ := btext16_call (lf := lf) (m := m + 3) (w := w) hw19 h4 h1w hwn ha19 hA hr hv ht hlf hlf2 hlf3 hl
      have hw20 := j2.2.2 hw19
      have hbl' := btx_len (mark := 120) (b := 16) (N := val A) (k := k') j4
      obtain ⟨v7, x7, u7, σ21, j5, j6, j7⟩ := bparse_call (lf := lf) (m := m + 4) hw20 (s := btx 120 16 (w / 4) (val A) k') (by omega) (by omega) (by omega)
      obtain ⟨rfl, rfl, j8⟩ := parse_btx16 hA h4 h1w hwn j3 j4 j7
      have hw21 := j6.2.2 hw20
      have l20 := ld20 (j2.get_some hw19 g19)
      obtain ⟨σ23, s21, s22, s23, s24, _⟩ := fin_cellg (σ := σ21) (f := wd) (ty := 25) (a := .int .i64 0) (b := .nils) (v := .int .i64 w) (w := x7) (fun n => wd_neI n) wd_neN (Keep.refl _) rfl j8.one_v
      have hw23 := s23.2.2 hw21
      have x7U := s24 _ _ (j8.keep hw21 (Keep.new _ (.cells 25 [.int .i64 0, .nils] 0 0 (some 0) [])))
      have kk23 := j2.trans (j6.trans s23)
      have lX23 := ldg2 (kk23.get_some hw19 X19)
      have lV23 := ldg2 s22
      obtain ⟨σ24, j9, j10⟩ := bsame_call (lf := lf) (m := m + 8) (n := w) hw23 x7U (((x5U.keep hw5 kk517).keep hw17 kk1719).keep hw19 kk23) hlt (by omega)
      have eZ : (((w % 4 : Nat) : Int) != 0) = false := by rw [h4]; rfl
      rw [← hcf] at k1 k5 k9 k12 k16 k19 k22 k24 j1 j5 j9
      simp only [c4, QU, oP, oR, oA, oH, oPn, oRn, oAn, oHn, bi, ld, ki, kt, kf, s_ops_nil, s_ops_cons, s_ops_nx, s_ops_pn, s_seq, s_seq_nx, s_seq_ex, s_seq_rt, s_skip, s_ret, s_exit, s_reg, s_cond, s_cond_t, s_cond_f, s_blk, s_blk_nx, s_blk_rt, s_blk_ex, s_put, s_P, s_R, s_A, s_A_some, s_C_ret, s_C_pan, s_H, s_H_ok, s_H_call, s_H_pan, s_gd, s_gd_bool, s_gd_undef, e_t, e_k, e_mv, e_pick, e_pick_b, e_bin, e_add_i64, e_add_i32, e_sub_i64, e_sub_u8, e_mul_i64, e_addU, e_mulU, e_addU32, e_mulU32, e_eql, e_neq, e_lss, e_leq, e_gtr, e_geq, e_str_eql, e_str_neq, e_iaddr, e_iaddr_int, e_lens, e_ld, e_extract, e_ex0, e_ex1, e_ex2, e_lenS, e_lenS_str, e_cii, e_cii_int, e_slsl_hm, e_sl2, e_slsl_h, e_sl1, e_slis, e_evL_nil, e_evL_cons, e_cons, e_call, e_callk, e_app, e_appk, e_store, e_stk, e_next, e_nextk, e_range, e_rangek, e_bs1, e_bs1i, e_bs0, e_mksl, e_mkslk, e_AK_sl, e_AK_it, e_AK_ptr, e_not, e_notb, e_xori, e_idxs, s_Hn, s_Hnk, s_Nx, s_Rt, s_NR_nx, s_NR_rt, s_NXT_nx, s_NXT_ex, s_NXT_rt, e_lenV_sl, e_lenV_nils, get_pk, k_bind, true_and, and_true, if_true, if_false, Bool.true_eq, beq_self_eq_true, reduceIte, Bool.false_eq_true, reduceCtorEq, bne_self_eq_false, Nat.reduceAdd, Nat.reduceLeDiff, Nat.reduceEqDiff, Nat.reduceSub, Nat.reduceBEq, Int.reduceBEq, Int.reduceNeg, Int.reduceLT, Int.reduceLE, Nat.succ_ne_self, Bool.not_true, Bool.not_false, Bool.true_beq, Bool.false_beq, decide_true, decide_false, exists_eq_left', Option.some.injEq, lg, e_lg, e_box, e_box2, e_alloc, e_faddr, e_fadp, h0, hσ1, lG1, k1, k5, s1, lG5, k9, s5, lG8, k12, s9, l11, lN11, k16, s13, l14, lM14, k19, s17, lX17, lY17, k22, lX18, lZ18, k24, lX19, l19, lG19, j1, l20, eR, eZ, j5, s21, lX23, lV23, j9, al]
    · obtain ⟨σ20, j1, j2⟩ := btext_odd (lf := lf) (m := m + 5) (w := w) hw19 h4 ha19 hA hr hlf hl
      have l20 := ld20 (j2.get_some hw19 g19)
      have eZ : (((w % 4 : Nat) : Int) != 0) = true := by simp only [bne_iff_ne, ne_eq]; omega
      rw [← hcf] at k1 k5 k9 k12 k16 k19 k22 k24 j1
      simp only [c4, QU, oP, oR, oA, oH, oPn, oRn, oAn, oHn, bi, ld, ki, kt, kf, s_ops_nil, s_ops_cons, s_ops_nx, s_ops_pn, s_seq, s_seq_nx, s_seq_ex, s_seq_rt, s_skip, s_ret, s_exit, s_reg, s_cond, s_cond_t, s_cond_f, s_blk, s_blk_nx, s_blk_rt, s_blk_ex, s_put, s_P, s_R, s_A, s_A_some, s_C_ret, s_C_pan, s_H, s_H_ok, s_H_call, s_H_pan, s_gd, s_gd_bool, s_gd_undef, e_t, e_k, e_mv, e_pick, e_pick_b, e_bin, e_add_i64, e_add_i32, e_sub_i64, e_sub_u8, e_mul_i64, e_addU, e_mulU, e_addU32, e_mulU32, e_eql, e_neq, e_lss, e_leq, e_gtr, e_geq, e_str_eql, e_str_neq, e_iaddr, e_iaddr_int, e_lens, e_ld, e_extract, e_ex0, e_ex1, e_ex2, e_lenS, e_lenS_str, e_cii, e_cii_int, e_slsl_hm, e_sl2, e_slsl_h, e_sl1, e_slis, e_evL_nil, e_evL_cons, e_cons, e_call, e_callk, e_app, e_appk, e_store, e_stk, e_next, e_nextk, e_range, e_rangek, e_bs1, e_bs1i, e_bs0, e_mksl, e_mkslk, e_AK_sl, e_AK_it, e_AK_ptr, e_not, e_notb, e_xori, e_idxs, s_Hn, s_Hnk, s_Nx, s_Rt, s_NR_nx, s_NR_rt, s_NXT_nx, s_NXT_ex, s_NXT_rt, e_lenV_sl, e_lenV_nils, get_pk, k_bind, true_and, and_true, if_true, if_false, Bool.true_eq, beq_self_eq_true, reduceIte, Bool.false_eq_true, reduceCtorEq, bne_self_eq_false, Nat.reduceAdd, Nat.reduceLeDiff, Nat.reduceEqDiff, Nat.reduceSub, Nat.reduceBEq, Int.reduceBEq, Int.reduceNeg, Int.reduceLT, Int.reduceLE, Nat.succ_ne_self, Bool.not_true, Bool.not_false, Bool.true_beq, Bool.false_beq, decide_true, decide_false, exists_eq_left', Option.some.injEq, lg, e_lg, e_box, e_box2, e_alloc, e_faddr, e_fadp, h0, hσ1, lG1, k1, k5, s1, lG5, k9, s5, lG8, k12, s9, l11, lN11, k16, s13, l14, lM14, k19, s17, lX17, lY17, k22, lX18, lZ18, k24, lX19, l19, lG19, j1, l20, eR, eZ, al]
  obtain ⟨v, σ', h1, rfl⟩ := key
  exact ⟨σ', h1⟩
/-- THE LAW, on the machine. -/
theorem bitsBack_run {lf m : Nat} {σ : H} (hw : WfH σ) {a : V} {A : List Nat} {n : Int} (ha : U σ a A) (hA : wok A) (hlf : A.length < lf) (hlf2 : 35184372088832 < lf) (hlf3 : val A < lf) (hl : A.length < 17592186048512) :
    ∃ σ', call T1 lf (m + 10) 4 [.agg [.int .i64 n, a]] σ = .ret (.bool true) σ' := by
  cases hr : rightB n A with
  | false => exact back_wrong hw ha hA hr hlf hl
  | true =>
    obtain ⟨w, rfl, h1, h2, h3, h4⟩ := right_facts hA hr
    exact back_right hw h1 h2 ha hA hr h3 h4 hlf hlf2 hlf3 hl
end Go.Proofs.YtahgfodccndcjaaGreatEng

