/- Layer 9 run on symbols: Parse. (Numbers of seat r2.) -/
import Derived.Test.YtahgfodccndcjaaGreatB1
namespace Go.Proofs.YtahgfodccndcjaaGreatEng
open Go
set_option maxRecDepth 100000
set_option linter.unusedSimpArgs false

theorem e_build0 (τ : Tr V) (zs : List V) : POp.ev τ (.build zs []) = some (.agg zs) := rfl
def kB2 : Option V → Option V → Option V
  | some v, some w => if v.cells.length = 1 ∧ w.cells.length = 1 then some (.agg (v.cells ++ w.cells)) else none
  | _, _ => none
theorem e_build2 (τ : Tr V) (z0 z1 : V) (a b : Arg) : POp.ev τ (.build [z0, z1] [(0, 1, a), (1, 1, b)]) = kB2 (a.ev τ) (b.ev τ) := by
  simp only [POp.ev, evParts]
  cases a.ev τ with
  | none => rfl
  | some v =>
    cases b.ev τ with
    | none => rfl
    | some w =>
      simp only [kB2]
      cases hv : v.cells with
      | nil => simp [fillL, hv]
      | cons c0 c =>
        cases c with
        | nil =>
          cases hw : w.cells with
          | nil => simp [fillL, hv, hw]
          | cons d0 d =>
            cases d with
            | nil => simp [fillL, hv, hw]
            | cons => simp [fillL, hv, hw]
        | cons => simp [fillL, hv]
theorem kB2_one {v w : V} (hv : v.cells = [v]) (hw : w.cells = [w]) : kB2 (some v) (some w) = some (.agg [v, w]) := by simp [kB2, hv, hw]
theorem e_alloc (τ : Tr V) (ty : Nat) (zs : List V) : AOp.ev τ (.alloc ty zs) = some (.ptr, .cells ty zs 0 0 (some 0) []) := rfl

/-- each digit's bits; the base -/
def eachOf (s : List Nat) : Nat := if hasP s [35, 120] then 4 else 1
def baseOf (s : List Nat) : Nat := if hasP s [35, 120] then 16 else 2
def isP (s : List Nat) : Prop := hasP s [35, 120] = true ∨ hasP s [35, 98] = true
/-- what reading a vector gives -/
def BitsOut (s : List Nat) (v w u : V) (σ' : H) : Prop :=
  (4098 < s.length ∧ v = .int .i64 0 ∧ w = .nils ∧ u = .int .i64 2) ∨
  (s.length ≤ 4098 ∧ ¬ (isP s ∧ goodS (s.drop 2) (baseOf s)) ∧ v = .int .i64 0 ∧ w = .nils ∧ u = .int .i64 13) ∨
  (s.length ≤ 4098 ∧ isP s ∧ goodS (s.drop 2) (baseOf s) ∧ 4096 < eachOf s * (s.length - 2) ∧ v = .int .i64 0 ∧ w = .nils ∧ u = .int .i64 55) ∨
  (s.length ≤ 4098 ∧ isP s ∧ goodS (s.drop 2) (baseOf s) ∧ eachOf s * (s.length - 2) ≤ 4096 ∧ v = .int .i64 (eachOf s * (s.length - 2) : Nat) ∧ u = .int .i64 0 ∧
    ∃ A, U σ' w A ∧ wok A ∧ trimd A ∧ A.length ≤ 4096 ∧ val A = num (s.drop 2) (baseOf s) (s.length - 2))

theorem num_lt (s : List Nat) {base : Nat} (hd : ∀ i, dg s base i < base) : ∀ i, num s base i < base ^ i
  | 0 => Nat.one_pos
  | i + 1 => by
    have ih := num_lt s hd i
    have h := hd i
    simp only [num, Nat.pow_succ]
    have : (num s base i + 1) * base ≤ base ^ i * base := Nat.mul_le_mul_right _ ih
    rw [Nat.add_mul, Nat.one_mul] at this
    omega
theorem pow16 (k : Nat) : 16 ^ (16 * k) = bigOf k := by
  show 16 ^ (16 * k) = WW ^ k
  rw [Nat.pow_mul]
theorem pow16_le {n k : Nat} (h : n ≤ 16 * k) : 16 ^ n ≤ bigOf k := by
  rw [← pow16]; exact Nat.pow_le_pow_right (by decide) h
theorem bigOf_mono {a b : Nat} (h : a < b) : bigOf a < bigOf b := Nat.pow_lt_pow_right (by decide) h
theorem small_big {n b : Nat} (hb : b ≤ 16) (hn : n ≤ 4096) : b ^ n < BIG :=
  Nat.lt_of_le_of_lt (Nat.le_trans (Nat.pow_le_pow_left hb n) (pow16_le (k := 256) hn)) (bigOf_mono (a := 256) (b := 4096) (by decide))
theorem dg_lt {s : List Nat} {base : Nat} (hb : 0 < base) (i : Nat) : dg s base i < base := by
  unfold dg
  by_cases h : 0 ≤ valR (s.getD i 0 : Nat) base
  · exact valR_lt h
  · omega

theorem bparse_call {lf m : Nat} {σ : H} (hw : WfH σ) {s : List Nat} (hlf : s.length < lf) (hlf2 : 32768 < lf) (hs63 : s.length < 9223372036854775808) :
    ∃ v w u σ', call T1 lf (m + 5) 5 [.str s] σ = .ret (.tup [.agg [v, w], u]) σ' ∧ Keep σ σ' ∧ BitsOut s v w u σ' := by
  refine call_rtc (p := pk 2) (q := pk 3) rfl c5_at (by simp [c5]) rfl fun cf hcf => ?_
  generalize hτ : bindArgs [.str s] .h .lf = τ0
  have h0 : τ0.get (pk 0) = some (.str s) := by rw [← hτ]; rfl
  clear hτ
  have hK0 := Keep.new σ (.cells 25 [.int .i64 0, .nils] 0 0 (some 0) [])
  have hg0 : (σ.new (.cells 25 [.int .i64 0, .nils] 0 0 (some 0) [])).get σ.nx = some (.cells 25 [.int .i64 0, .nils] 0 0 (some 0) []) := by rw [H.get_new, if_pos rfl]
  have hw0 := hK0.2.2 hw
  have hnx0 : σ.nx.toNat < (σ.new (.cells 25 [.int .i64 0, .nils] 0 0 (some 0) [])).nx.toNat := by rw [nx_new]; omega
  generalize hσ0 : σ.new (.cells 25 [.int .i64 0, .nils] 0 0 (some 0) []) = σ0 at hK0 hg0 hw0 hnx0
  -- the end: both cells are written
  have fin : ∀ (σ1 : H) (v w : V), Keep σ0 σ1 → v.one = true → w.one = true → ∃ σ2, stV σ1 2 (.ptr σ.nx 0 0) (.agg [v, w]) = .ok undefV σ2 ∧ blkCells σ2 σ.nx 0 = some [v, w] ∧ Keep σ σ2 ∧ (∀ a A, U σ1 a A → U σ2 a A) := by
    intro σ1 v w hK hv hw'
    have hg1 : σ1.get σ.nx = some (.cells 25 [.int .i64 0, .nils] 0 0 (some 0) []) := by rw [hK.get hnx0]; exact hg0
    refine ⟨_, st2 hg1 hv hw', by simp only [blkCells, H.get_put, if_true, visib], (hK0.trans hK).put (Nat.le_refl _) (Nat.lt_of_lt_of_le hnx0 hK.1) _, fun a A hU => ?_⟩
    obtain ⟨u1, u2, u3⟩ := hU
    refine ⟨u1, u2, ?_⟩
    cases a with
    | sl x ver o len cap es =>
      simp only [slCells, blkCells] at u3 ⊢
      by_cases e : x = σ.nx
      · subst e
        rw [hg1] at u3
        rw [H.get_put, if_pos rfl]
        simp only [visib] at u3 ⊢
        by_cases hver : ver = 0
        · subst hver
          simp only [if_true] at u3 ⊢
          obtain ⟨c1, c2⟩ := cut_some u3
          cases A with
          | nil =>
            simp only [List.length_nil, Nat.zero_mul, Nat.add_zero, cut, List.take_zero, List.map_nil] at c1 ⊢
            rw [if_pos (by simpa using c1)]
          | cons n A =>
            exfalso
            have hm : wd n ∈ ((n :: A).map wd) := by simp
            rw [c2] at hm
            have := List.mem_of_mem_drop (List.mem_of_mem_take hm)
            simp [wd] at this
        · rw [if_neg hver, if_neg (by omega)] at u3
          simp at u3
      · rw [H.get_put, if_neg e]; exact u3
    | nils => exact u3
    | ros => exact u3
    | _ => simp [okSl] at u1
  have hone : ∀ {σ : H} {a : V} {A : List Nat}, U σ a A → a.one = true := fun {σ a A} h => by
    obtain ⟨h1, _, _⟩ := h
    cases a <;> first | rfl | simp [okSl] at h1
  obtain ⟨σa, f1, f2, f3, _⟩ := fin σ0 (.int .i64 0) .nils (Keep.refl _) rfl rfl
  by_cases hlong : 4098 < s.length
  · have d1 : decide ((4098 : Int) < ((s.length : Nat) : Int)) = true := by simp; omega
    simp only [c5, QU, oP, oR, oA, oH, oPn, oRn, oAn, oHn, bi, ld, ki, kt, kf, s_ops_nil, s_ops_cons, s_ops_nx, s_ops_pn, s_seq, s_seq_nx, s_seq_ex, s_seq_rt, s_skip, s_ret, s_exit, s_reg, s_cond, s_cond_t, s_cond_f, s_blk, s_blk_nx, s_blk_rt, s_blk_ex, s_put, s_P, s_R, s_A, s_A_some, s_C_ret, s_C_pan, s_H, s_H_ok, s_H_call, s_H_pan, s_gd, s_gd_bool, s_gd_undef, e_t, e_k, e_mv, e_pick, e_pick_b, e_bin, e_add_i64, e_add_i32, e_sub_i64, e_sub_u8, e_mul_i64, e_addU, e_mulU, e_addU32, e_mulU32, e_eql, e_neq, e_lss, e_leq, e_gtr, e_geq, e_str_eql, e_str_neq, e_iaddr, e_iaddr_int, e_lens, e_ld, e_extract, e_ex0, e_ex1, e_ex2, e_lenS, e_lenS_str, e_cii, e_cii_int, e_slsl_hm, e_sl2, e_slsl_h, e_sl1, e_slis, e_evL_nil, e_evL_cons, e_cons, e_call, e_callk, e_app, e_appk, e_store, e_stk, e_next, e_nextk, e_range, e_rangek, e_bs1, e_bs1i, e_bs0, e_mksl, e_mkslk, e_AK_sl, e_AK_it, e_AK_ptr, e_not, e_notb, e_xori, e_idxs, s_Hn, s_Hnk, s_Nx, s_Rt, s_NR_nx, s_NR_rt, s_NXT_nx, s_NXT_ex, s_NXT_rt, e_lenV_sl, e_lenV_nils, get_pk, k_bind, true_and, and_true, if_true, if_false, Bool.true_eq, beq_self_eq_true, reduceIte, Bool.false_eq_true, reduceCtorEq, bne_self_eq_false, Nat.reduceAdd, Nat.reduceLeDiff, Nat.reduceEqDiff, Nat.reduceSub, Nat.reduceBEq, Int.reduceBEq, Int.reduceNeg, Int.reduceLT, Int.reduceLE, Nat.succ_ne_self, Bool.not_true, Bool.not_false, Bool.true_beq, Bool.false_beq, decide_true, decide_false, exists_eq_left', Option.some.injEq, e_alloc, e_build0, h0, d1, hσ0, f1]
    exact ⟨σ.nx, _, _, _, rfl, f2, rfl, f3, .inl ⟨hlong, rfl, rfl, rfl⟩⟩
  · have d1 : decide ((4098 : Int) < ((s.length : Nat) : Int)) = false := by simp; omega
    have k1 := hasp_call (lf := lf) (m := m + 2) (σ := σ0) (s := s) (p := [35, 120])
    have k2 := hasp_call (lf := lf) (m := m + 2) (σ := σ0) (s := s) (p := [35, 98])
    rw [← hcf] at k1 k2
    -- behind the looks at the prefix
    have h2 : isP s → 2 ≤ s.length := by
      rintro (h | h) <;>
      · simp only [hasP, Bool.and_eq_true, decide_eq_true_eq] at h
        simpa using h.1
    -- the tail, once the base is chosen
    have main : ∀ (each : Nat), isP s → eachOf s = each → each ≤ 4 → ∃ v1 e1 σ1, cf 15 [.str (s.drop 2), .int .i64 (baseOf s)] σ0 = .ret (.tup [v1, .int .i64 e1]) σ1 ∧ v1.one = true ∧
        ((e1 ≠ 0 ∧ ∃ σ2, stV σ1 2 (.ptr σ.nx 0 0) (.agg [.int .i64 0, .nils]) = .ok undefV σ2 ∧ blkCells σ2 σ.nx 0 = some [.int .i64 0, .nils] ∧ Keep σ σ2 ∧ ¬ goodS (s.drop 2) (baseOf s)) ∨
         (e1 = 0 ∧ goodS (s.drop 2) (baseOf s) ∧ (∃ σ2, stV σ1 2 (.ptr σ.nx 0 0) (.agg [.int .i64 0, .nils]) = .ok undefV σ2 ∧ blkCells σ2 σ.nx 0 = some [.int .i64 0, .nils] ∧ Keep σ σ2) ∧
          ∃ σ2 A, stV σ1 2 (.ptr σ.nx 0 0) (.agg [.int .i64 (each * (s.length - 2) : Nat), v1]) = .ok undefV σ2 ∧ blkCells σ2 σ.nx 0 = some [.int .i64 (each * (s.length - 2) : Nat), v1] ∧ Keep σ σ2 ∧ U σ2 v1 A ∧ wok A ∧ trimd A ∧ A.length ≤ 4096 ∧ val A = num (s.drop 2) (baseOf s) (s.length - 2))) := by
      intro each hP he he4
      have hb : baseOf s = 2 ∨ baseOf s = 10 ∨ baseOf s = 16 := by unfold baseOf; split <;> simp
      have hdl : (s.drop 2).length = s.length - 2 := by simp
      obtain ⟨v1, u1, σ1, q1, q2, q3⟩ := parse_call (lf := lf) (m := m) (σ := σ0) hw0 (s := s.drop 2) (base := baseOf s) hb (by rw [hdl]; omega) (by omega) (by rw [hdl]; omega)
      rw [← hcf] at q1
      have hsmall : num (s.drop 2) (baseOf s) (s.drop 2).length < BIG := by
        refine Nat.lt_trans (num_lt _ (fun i => dg_lt (by rcases hb with h | h | h <;> omega) i) _) (small_big (by rcases hb with h | h | h <;> omega) (by rw [hdl]; omega))
      rcases q3 with ⟨n1, rfl, rfl⟩ | ⟨n1, n2, rfl, rfl⟩ | ⟨n1, n2, rfl, A, a1, a2, a3, a4, a5⟩
      · obtain ⟨σ2, g1, g2, g3, _⟩ := fin σ1 (.int .i64 0) .nils q2 rfl rfl
        exact ⟨_, _, _, q1, rfl, .inl ⟨by decide, σ2, g1, g2, g3, n1⟩⟩
      · exact absurd n2 (Nat.not_le_of_lt hsmall)
      · obtain ⟨σ2, g1, g2, g3, _⟩ := fin σ1 (.int .i64 0) .nils q2 rfl rfl
        obtain ⟨σ3, g4, g5, g6, g7⟩ := fin σ1 (.int .i64 (each * (s.length - 2) : Nat)) v1 q2 rfl (hone a1)
        exact ⟨_, _, _, q1, hone a1, .inr ⟨rfl, n1, ⟨σ2, g1, g2, g3⟩, σ3, A, g4, g5, g6, g7 _ _ a1, a2, a3, a4, by rw [a5, hdl]⟩⟩
    have cellsOne : ∀ v : V, v.one = true → v.cells = [v] := fun v h => by cases v <;> first | rfl | simp [V.one] at h
    by_cases hx : hasP s [35, 120] = true
    · have hP : isP s := .inl hx
      have hl2 := h2 hP
      have hb : baseOf s = 16 := by simp [baseOf, hx]
      have he : eachOf s = 4 := by simp [eachOf, hx]
      obtain ⟨v1, e1, σ1, q1, hv1, q2⟩ := main 4 hP he (by omega)
      rw [hb, show (((16 : Nat)) : Int) = 16 from rfl] at q1
      have sd : kSlisLo (some (.str s)) (some (.int .i64 2)) = some (.str (s.drop 2)) := slis_drop (n := 2) hl2
      have w1 : IntKind.i64.wrap ((s.length : Int) - 2) = ((s.length - 2 : Nat) : Int) := by rw [← wrap_nat (n := s.length - 2) (by omega)]; congr 1; omega
      have w2 : IntKind.i64.wrap ((4 : Int) * ((s.length - 2 : Nat) : Int)) = ((4 * (s.length - 2) : Nat) : Int) := by rw [← wrap_nat (n := 4 * (s.length - 2)) (by omega)]; congr 1
      rw [hx] at k1
      rcases q2 with ⟨ne, σ2, g1, g2, g3, hbad⟩ | ⟨rfl, hgood, ⟨σ2, g1, g2, g3⟩, σ3, A, g4, g5, g6, g7, g8, g9, g10, g11⟩
      · have d2 : (e1 != 0) = true := by simpa using ne
        simp only [c5, QU, oP, oR, oA, oH, oPn, oRn, oAn, oHn, bi, ld, ki, kt, kf, s_ops_nil, s_ops_cons, s_ops_nx, s_ops_pn, s_seq, s_seq_nx, s_seq_ex, s_seq_rt, s_skip, s_ret, s_exit, s_reg, s_cond, s_cond_t, s_cond_f, s_blk, s_blk_nx, s_blk_rt, s_blk_ex, s_put, s_P, s_R, s_A, s_A_some, s_C_ret, s_C_pan, s_H, s_H_ok, s_H_call, s_H_pan, s_gd, s_gd_bool, s_gd_undef, e_t, e_k, e_mv, e_pick, e_pick_b, e_bin, e_add_i64, e_add_i32, e_sub_i64, e_sub_u8, e_mul_i64, e_addU, e_mulU, e_addU32, e_mulU32, e_eql, e_neq, e_lss, e_leq, e_gtr, e_geq, e_str_eql, e_str_neq, e_iaddr, e_iaddr_int, e_lens, e_ld, e_extract, e_ex0, e_ex1, e_ex2, e_lenS, e_lenS_str, e_cii, e_cii_int, e_slsl_hm, e_sl2, e_slsl_h, e_sl1, e_slis, e_evL_nil, e_evL_cons, e_cons, e_call, e_callk, e_app, e_appk, e_store, e_stk, e_next, e_nextk, e_range, e_rangek, e_bs1, e_bs1i, e_bs0, e_mksl, e_mkslk, e_AK_sl, e_AK_it, e_AK_ptr, e_not, e_notb, e_xori, e_idxs, s_Hn, s_Hnk, s_Nx, s_Rt, s_NR_nx, s_NR_rt, s_NXT_nx, s_NXT_ex, s_NXT_rt, e_lenV_sl, e_lenV_nils, get_pk, k_bind, true_and, and_true, if_true, if_false, Bool.true_eq, beq_self_eq_true, reduceIte, Bool.false_eq_true, reduceCtorEq, bne_self_eq_false, Nat.reduceAdd, Nat.reduceLeDiff, Nat.reduceEqDiff, Nat.reduceSub, Nat.reduceBEq, Int.reduceBEq, Int.reduceNeg, Int.reduceLT, Int.reduceLE, Nat.succ_ne_self, Bool.not_true, Bool.not_false, Bool.true_beq, Bool.false_beq, decide_true, decide_false, exists_eq_left', Option.some.injEq, e_alloc, e_build0, e_slis_lo, h0, d1, hσ0, k1, sd, q1, d2, g1]
        exact ⟨σ.nx, _, _, _, rfl, g2, rfl, g3, .inr (.inl ⟨by omega, fun h => hbad h.2, rfl, rfl, rfl⟩)⟩
      · have d2 : ((0 : Int) != 0) = false := by decide
        by_cases hwide : 4096 < 4 * (s.length - 2)
        · have d3 : decide ((4096 : Int) < ((4 * (s.length - 2) : Nat) : Int)) = true := by simp; omega
          simp only [c5, QU, oP, oR, oA, oH, oPn, oRn, oAn, oHn, bi, ld, ki, kt, kf, s_ops_nil, s_ops_cons, s_ops_nx, s_ops_pn, s_seq, s_seq_nx, s_seq_ex, s_seq_rt, s_skip, s_ret, s_exit, s_reg, s_cond, s_cond_t, s_cond_f, s_blk, s_blk_nx, s_blk_rt, s_blk_ex, s_put, s_P, s_R, s_A, s_A_some, s_C_ret, s_C_pan, s_H, s_H_ok, s_H_call, s_H_pan, s_gd, s_gd_bool, s_gd_undef, e_t, e_k, e_mv, e_pick, e_pick_b, e_bin, e_add_i64, e_add_i32, e_sub_i64, e_sub_u8, e_mul_i64, e_addU, e_mulU, e_addU32, e_mulU32, e_eql, e_neq, e_lss, e_leq, e_gtr, e_geq, e_str_eql, e_str_neq, e_iaddr, e_iaddr_int, e_lens, e_ld, e_extract, e_ex0, e_ex1, e_ex2, e_lenS, e_lenS_str, e_cii, e_cii_int, e_slsl_hm, e_sl2, e_slsl_h, e_sl1, e_slis, e_evL_nil, e_evL_cons, e_cons, e_call, e_callk, e_app, e_appk, e_store, e_stk, e_next, e_nextk, e_range, e_rangek, e_bs1, e_bs1i, e_bs0, e_mksl, e_mkslk, e_AK_sl, e_AK_it, e_AK_ptr, e_not, e_notb, e_xori, e_idxs, s_Hn, s_Hnk, s_Nx, s_Rt, s_NR_nx, s_NR_rt, s_NXT_nx, s_NXT_ex, s_NXT_rt, e_lenV_sl, e_lenV_nils, get_pk, k_bind, true_and, and_true, if_true, if_false, Bool.true_eq, beq_self_eq_true, reduceIte, Bool.false_eq_true, reduceCtorEq, bne_self_eq_false, Nat.reduceAdd, Nat.reduceLeDiff, Nat.reduceEqDiff, Nat.reduceSub, Nat.reduceBEq, Int.reduceBEq, Int.reduceNeg, Int.reduceLT, Int.reduceLE, Nat.succ_ne_self, Bool.not_true, Bool.not_false, Bool.true_beq, Bool.false_beq, decide_true, decide_false, exists_eq_left', Option.some.injEq, e_alloc, e_build0, e_slis_lo, h0, d1, hσ0, k1, sd, q1, d2, w1, w2, d3, g1]
          exact ⟨σ.nx, _, _, _, rfl, g2, rfl, g3, .inr (.inr (.inl ⟨by omega, hP, hgood, by rw [he]; exact hwide, rfl, rfl, rfl⟩))⟩
        · have d3 : decide ((4096 : Int) < ((4 * (s.length - 2) : Nat) : Int)) = false := by simp; omega
          have kb : kB2 (some (.int .i64 (4 * (s.length - 2) : Nat))) (some v1) = some (.agg [.int .i64 (4 * (s.length - 2) : Nat), v1]) := kB2_one rfl (cellsOne v1 hv1)
          simp only [c5, QU, oP, oR, oA, oH, oPn, oRn, oAn, oHn, bi, ld, ki, kt, kf, s_ops_nil, s_ops_cons, s_ops_nx, s_ops_pn, s_seq, s_seq_nx, s_seq_ex, s_seq_rt, s_skip, s_ret, s_exit, s_reg, s_cond, s_cond_t, s_cond_f, s_blk, s_blk_nx, s_blk_rt, s_blk_ex, s_put, s_P, s_R, s_A, s_A_some, s_C_ret, s_C_pan, s_H, s_H_ok, s_H_call, s_H_pan, s_gd, s_gd_bool, s_gd_undef, e_t, e_k, e_mv, e_pick, e_pick_b, e_bin, e_add_i64, e_add_i32, e_sub_i64, e_sub_u8, e_mul_i64, e_addU, e_mulU, e_addU32, e_mulU32, e_eql, e_neq, e_lss, e_leq, e_gtr, e_geq, e_str_eql, e_str_neq, e_iaddr, e_iaddr_int, e_lens, e_ld, e_extract, e_ex0, e_ex1, e_ex2, e_lenS, e_lenS_str, e_cii, e_cii_int, e_slsl_hm, e_sl2, e_slsl_h, e_sl1, e_slis, e_evL_nil, e_evL_cons, e_cons, e_call, e_callk, e_app, e_appk, e_store, e_stk, e_next, e_nextk, e_range, e_rangek, e_bs1, e_bs1i, e_bs0, e_mksl, e_mkslk, e_AK_sl, e_AK_it, e_AK_ptr, e_not, e_notb, e_xori, e_idxs, s_Hn, s_Hnk, s_Nx, s_Rt, s_NR_nx, s_NR_rt, s_NXT_nx, s_NXT_ex, s_NXT_rt, e_lenV_sl, e_lenV_nils, get_pk, k_bind, true_and, and_true, if_true, if_false, Bool.true_eq, beq_self_eq_true, reduceIte, Bool.false_eq_true, reduceCtorEq, bne_self_eq_false, Nat.reduceAdd, Nat.reduceLeDiff, Nat.reduceEqDiff, Nat.reduceSub, Nat.reduceBEq, Int.reduceBEq, Int.reduceNeg, Int.reduceLT, Int.reduceLE, Nat.succ_ne_self, Bool.not_true, Bool.not_false, Bool.true_beq, Bool.false_beq, decide_true, decide_false, exists_eq_left', Option.some.injEq, e_alloc, e_build0, e_build2, e_slis_lo, h0, d1, hσ0, k1, sd, q1, d2, w1, w2, d3, kb, g4]
          exact ⟨σ.nx, _, _, _, rfl, g5, rfl, g6, .inr (.inr (.inr ⟨by omega, hP, hgood, by rw [he]; omega, by rw [he], rfl, A, g7, g8, g9, g10, g11⟩))⟩
    · have hx' : hasP s [35, 120] = false := by simpa using hx
      have hb : baseOf s = 2 := by simp [baseOf, hx']
      have he : eachOf s = 1 := by simp [eachOf, hx']
      rw [hx'] at k1
      by_cases hbb : hasP s [35, 98] = true
      · have hP : isP s := .inr hbb
        have hl2 := h2 hP
        obtain ⟨v1, e1, σ1, q1, hv1, q2⟩ := main 1 hP he (by omega)
        rw [hb, show (((2 : Nat)) : Int) = 2 from rfl] at q1
        have sd : kSlisLo (some (.str s)) (some (.int .i64 2)) = some (.str (s.drop 2)) := slis_drop (n := 2) hl2
        have w1 : IntKind.i64.wrap ((s.length : Int) - 2) = ((s.length - 2 : Nat) : Int) := by rw [← wrap_nat (n := s.length - 2) (by omega)]; congr 1; omega
        have w2 : IntKind.i64.wrap ((1 : Int) * ((s.length - 2 : Nat) : Int)) = ((1 * (s.length - 2) : Nat) : Int) := by rw [← wrap_nat (n := 1 * (s.length - 2)) (by omega)]; congr 1
        rw [hbb] at k2
        rcases q2 with ⟨ne, σ2, g1, g2, g3, hbad⟩ | ⟨rfl, hgood, ⟨σ2, g1, g2, g3⟩, σ3, A, g4, g5, g6, g7, g8, g9, g10, g11⟩
        · have d2 : (e1 != 0) = true := by simpa using ne
          simp only [c5, QU, oP, oR, oA, oH, oPn, oRn, oAn, oHn, bi, ld, ki, kt, kf, s_ops_nil, s_ops_cons, s_ops_nx, s_ops_pn, s_seq, s_seq_nx, s_seq_ex, s_seq_rt, s_skip, s_ret, s_exit, s_reg, s_cond, s_cond_t, s_cond_f, s_blk, s_blk_nx, s_blk_rt, s_blk_ex, s_put, s_P, s_R, s_A, s_A_some, s_C_ret, s_C_pan, s_H, s_H_ok, s_H_call, s_H_pan, s_gd, s_gd_bool, s_gd_undef, e_t, e_k, e_mv, e_pick, e_pick_b, e_bin, e_add_i64, e_add_i32, e_sub_i64, e_sub_u8, e_mul_i64, e_addU, e_mulU, e_addU32, e_mulU32, e_eql, e_neq, e_lss, e_leq, e_gtr, e_geq, e_str_eql, e_str_neq, e_iaddr, e_iaddr_int, e_lens, e_ld, e_extract, e_ex0, e_ex1, e_ex2, e_lenS, e_lenS_str, e_cii, e_cii_int, e_slsl_hm, e_sl2, e_slsl_h, e_sl1, e_slis, e_evL_nil, e_evL_cons, e_cons, e_call, e_callk, e_app, e_appk, e_store, e_stk, e_next, e_nextk, e_range, e_rangek, e_bs1, e_bs1i, e_bs0, e_mksl, e_mkslk, e_AK_sl, e_AK_it, e_AK_ptr, e_not, e_notb, e_xori, e_idxs, s_Hn, s_Hnk, s_Nx, s_Rt, s_NR_nx, s_NR_rt, s_NXT_nx, s_NXT_ex, s_NXT_rt, e_lenV_sl, e_lenV_nils, get_pk, k_bind, true_and, and_true, if_true, if_false, Bool.true_eq, beq_self_eq_true, reduceIte, Bool.false_eq_true, reduceCtorEq, bne_self_eq_false, Nat.reduceAdd, Nat.reduceLeDiff, Nat.reduceEqDiff, Nat.reduceSub, Nat.reduceBEq, Int.reduceBEq, Int.reduceNeg, Int.reduceLT, Int.reduceLE, Nat.succ_ne_self, Bool.not_true, Bool.not_false, Bool.true_beq, Bool.false_beq, decide_true, decide_false, exists_eq_left', Option.some.injEq, e_alloc, e_build0, e_slis_lo, h0, d1, hσ0, k1, k2, sd, q1, d2, g1]
          exact ⟨σ.nx, _, _, _, rfl, g2, rfl, g3, .inr (.inl ⟨by omega, fun h => hbad h.2, rfl, rfl, rfl⟩)⟩
        · have d2 : ((0 : Int) != 0) = false := by decide
          have hwide : ¬ 4096 < 1 * (s.length - 2) := by omega
          have d3 : decide ((4096 : Int) < ((1 * (s.length - 2) : Nat) : Int)) = false := by simp; omega
          have kb : kB2 (some (.int .i64 (1 * (s.length - 2) : Nat))) (some v1) = some (.agg [.int .i64 (1 * (s.length - 2) : Nat), v1]) := kB2_one rfl (cellsOne v1 hv1)
          simp only [c5, QU, oP, oR, oA, oH, oPn, oRn, oAn, oHn, bi, ld, ki, kt, kf, s_ops_nil, s_ops_cons, s_ops_nx, s_ops_pn, s_seq, s_seq_nx, s_seq_ex, s_seq_rt, s_skip, s_ret, s_exit, s_reg, s_cond, s_cond_t, s_cond_f, s_blk, s_blk_nx, s_blk_rt, s_blk_ex, s_put, s_P, s_R, s_A, s_A_some, s_C_ret, s_C_pan, s_H, s_H_ok, s_H_call, s_H_pan, s_gd, s_gd_bool, s_gd_undef, e_t, e_k, e_mv, e_pick, e_pick_b, e_bin, e_add_i64, e_add_i32, e_sub_i64, e_sub_u8, e_mul_i64, e_addU, e_mulU, e_addU32, e_mulU32, e_eql, e_neq, e_lss, e_leq, e_gtr, e_geq, e_str_eql, e_str_neq, e_iaddr, e_iaddr_int, e_lens, e_ld, e_extract, e_ex0, e_ex1, e_ex2, e_lenS, e_lenS_str, e_cii, e_cii_int, e_slsl_hm, e_sl2, e_slsl_h, e_sl1, e_slis, e_evL_nil, e_evL_cons, e_cons, e_call, e_callk, e_app, e_appk, e_store, e_stk, e_next, e_nextk, e_range, e_rangek, e_bs1, e_bs1i, e_bs0, e_mksl, e_mkslk, e_AK_sl, e_AK_it, e_AK_ptr, e_not, e_notb, e_xori, e_idxs, s_Hn, s_Hnk, s_Nx, s_Rt, s_NR_nx, s_NR_rt, s_NXT_nx, s_NXT_ex, s_NXT_rt, e_lenV_sl, e_lenV_nils, get_pk, k_bind, true_and, and_true, if_true, if_false, Bool.true_eq, beq_self_eq_true, reduceIte, Bool.false_eq_true, reduceCtorEq, bne_self_eq_false, Nat.reduceAdd, Nat.reduceLeDiff, Nat.reduceEqDiff, Nat.reduceSub, Nat.reduceBEq, Int.reduceBEq, Int.reduceNeg, Int.reduceLT, Int.reduceLE, Nat.succ_ne_self, Bool.not_true, Bool.not_false, Bool.true_beq, Bool.false_beq, decide_true, decide_false, exists_eq_left', Option.some.injEq, e_alloc, e_build0, e_build2, e_slis_lo, h0, d1, hσ0, k1, k2, sd, q1, d2, w1, w2, d3, kb, g4]
          exact ⟨σ.nx, _, _, _, rfl, g5, rfl, g6, .inr (.inr (.inr ⟨by omega, hP, hgood, by rw [he]; omega, by rw [he], rfl, A, g7, g8, g9, g10, g11⟩))⟩
      · have hbb' : hasP s [35, 98] = false := by simpa using hbb
        rw [hbb'] at k2
        simp only [c5, QU, oP, oR, oA, oH, oPn, oRn, oAn, oHn, bi, ld, ki, kt, kf, s_ops_nil, s_ops_cons, s_ops_nx, s_ops_pn, s_seq, s_seq_nx, s_seq_ex, s_seq_rt, s_skip, s_ret, s_exit, s_reg, s_cond, s_cond_t, s_cond_f, s_blk, s_blk_nx, s_blk_rt, s_blk_ex, s_put, s_P, s_R, s_A, s_A_some, s_C_ret, s_C_pan, s_H, s_H_ok, s_H_call, s_H_pan, s_gd, s_gd_bool, s_gd_undef, e_t, e_k, e_mv, e_pick, e_pick_b, e_bin, e_add_i64, e_add_i32, e_sub_i64, e_sub_u8, e_mul_i64, e_addU, e_mulU, e_addU32, e_mulU32, e_eql, e_neq, e_lss, e_leq, e_gtr, e_geq, e_str_eql, e_str_neq, e_iaddr, e_iaddr_int, e_lens, e_ld, e_extract, e_ex0, e_ex1, e_ex2, e_lenS, e_lenS_str, e_cii, e_cii_int, e_slsl_hm, e_sl2, e_slsl_h, e_sl1, e_slis, e_evL_nil, e_evL_cons, e_cons, e_call, e_callk, e_app, e_appk, e_store, e_stk, e_next, e_nextk, e_range, e_rangek, e_bs1, e_bs1i, e_bs0, e_mksl, e_mkslk, e_AK_sl, e_AK_it, e_AK_ptr, e_not, e_notb, e_xori, e_idxs, s_Hn, s_Hnk, s_Nx, s_Rt, s_NR_nx, s_NR_rt, s_NXT_nx, s_NXT_ex, s_NXT_rt, e_lenV_sl, e_lenV_nils, get_pk, k_bind, true_and, and_true, if_true, if_false, Bool.true_eq, beq_self_eq_true, reduceIte, Bool.false_eq_true, reduceCtorEq, bne_self_eq_false, Nat.reduceAdd, Nat.reduceLeDiff, Nat.reduceEqDiff, Nat.reduceSub, Nat.reduceBEq, Int.reduceBEq, Int.reduceNeg, Int.reduceLT, Int.reduceLE, Nat.succ_ne_self, Bool.not_true, Bool.not_false, Bool.true_beq, Bool.false_beq, decide_true, decide_false, exists_eq_left', Option.some.injEq, e_alloc, e_build0, h0, d1, hσ0, k1, k2, f1]
        exact ⟨σ.nx, _, _, _, rfl, f2, rfl, f3, .inr (.inl ⟨by omega, fun h => by rcases h.1 with h | h; exact hx h; exact hbb h, rfl, rfl, rfl⟩)⟩
end Go.Proofs.YtahgfodccndcjaaGreatEng
