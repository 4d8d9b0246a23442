/- Layer 1's reference run on symbols: from halves to words. -/
import Derived.Test.YtplaefbblpiehaaN12
namespace Go.Proofs.YtplaefbblpiehaaEng
open Go
set_option maxRecDepth 100000
set_option linter.unusedSimpArgs false

theorem c36_at : T1.code 36 = some c36 := by kernel_rfl
theorem c22_at : T1.code 22 = some c22 := by kernel_rfl

theorem e_quo4 (q : EqT) (i : Nat) (h : i < 4611686018427387904) : kBin .quo q (some (.int .i64 i)) (some (.int .i64 4)) = some (.int .i64 (i / 4 : Nat)) := by
  rw [e_quo _ _ _ _ (by decide)]
  have : (i : Int).tdiv 4 = ((i / 4 : Nat) : Int) := by
    rw [Int.tdiv_eq_ediv_of_nonneg (Int.natCast_nonneg i)]; rfl
  rw [this, wrap_nat (by omega)]
theorem e_rem4 (q : EqT) (i : Nat) : kBin .rem q (some (.int .i64 i)) (some (.int .i64 4)) = some (.int .i64 (i % 4 : Nat)) := by
  rw [e_rem _ _ _ _ (by decide)]
  have : (i : Int).tmod 4 = ((i % 4 : Nat) : Int) := by
    rw [Int.tmod_eq_emod_of_nonneg (Int.natCast_nonneg i)]; rfl
  rw [this]
theorem e_mul16 (q : EqT) (r : Nat) (h : r < 4) : kBin .mul q (some (.int .u64 16)) (some (.int .u64 r)) = some (.int .u64 (16 * r : Nat)) := by
  have := e_mulU q 16 r
  rw [Nat.mod_eq_of_lt (by omega)] at this
  exact this
theorem e_shlU (q : EqT) (k : IntKind) (x j : Nat) (h : j < 64) (hx : x * 2 ^ j < 18446744073709551616) : kBin .shl q (some (.int .u64 x)) (some (.int k j)) = some (.int .u64 (x * 2 ^ j : Nat)) := by
  rw [e_shift _ _ _ _ _ _ rfl]
  simp only [ishift]
  rw [if_neg (by omega)]
  have e : min (j : Int).toNat IntKind.u64.bits = j := by simp [IntKind.bits]; omega
  rw [e]
  have : (x : Int) * 2 ^ j = ((x * 2 ^ j : Nat) : Int) := by simp
  rw [this, wrapU, Nat.mod_eq_of_lt hx]
theorem e_orU (q : EqT) (x y : Nat) (hx : x < 18446744073709551616) (hy : y < 18446744073709551616) : kBin .or q (some (.int .u64 x)) (some (.int .u64 y)) = some (.int .u64 (x ||| y : Nat)) := by
  rw [e_int _ _ _ _ _ rfl]
  simp only [ibin]
  congr 2
  have hxy : x ||| y < 18446744073709551616 := Nat.or_lt_two_pow (n := 64) hx hy
  have e : (BitVec.ofInt IntKind.u64.bits (x : Int) ||| BitVec.ofInt IntKind.u64.bits (y : Int)).toNat = x ||| y := by
    simp only [BitVec.toNat_or]
    have h1 : ∀ n : Nat, n < 18446744073709551616 → (BitVec.ofInt IntKind.u64.bits (n : Int)).toNat = n := by
      intro n hn
      simp [IntKind.bits]; omega
    rw [h1 x hx, h1 y hy]
  rw [e, wrapU, Nat.mod_eq_of_lt hxy]

theorem val_set : ∀ (L : List Nat) (j z : Nat), j < L.length → val (L.set j (L.getD j 0 + z)) = val L + WW ^ j * z
  | [], j, z, h => absurd h (Nat.not_lt_zero _)
  | x :: L, 0, z, _ => by
    show (x + z) + WW * val L = (x + WW * val L) + WW ^ 0 * z
    rw [Nat.pow_zero, Nat.one_mul]; omega
  | x :: L, j + 1, z, h => by
    have ih := val_set L j z (by simpa using h)
    show x + WW * val (L.set j (L.getD j 0 + z)) = (x + WW * val L) + WW ^ (j + 1) * z
    rw [ih, Nat.mul_add, Nat.pow_succ, Nat.mul_comm (WW ^ j) WW, Nat.mul_assoc]; omega
theorem hh_pow (i : Nat) : HH ^ i = WW ^ (i / 4) * 2 ^ (16 * (i % 4)) := by
  have h1 : WW = HH ^ 4 := by decide
  have h2 : ∀ r, HH ^ r = 2 ^ (16 * r) := fun r => by rw [Nat.pow_mul]
  rw [h1, ← Nat.pow_mul, ← h2, ← Nat.pow_add]
  congr 1; omega
theorem bigH_eq (n : Nat) : bigOfH (4 * n) = bigOf n := by
  have h1 : WW = HH ^ 4 := by decide
  show HH ^ (4 * n) = WW ^ n
  rw [h1, Nat.pow_mul]

/-- reading and writing in a list that grows -/
theorem Acc.at {ty : Nat} {σ0 σ : H} {v : V} {A : List Nat} (h : Acc wd ty σ0 σ v A) (hK : Keep σ0 σ) {j : Nat} (hj : j < A.length) :
    ∃ x ver, elemAt 1 v (j : Nat) = some (.ptr x ver j) ∧ ldv σ (.ptr x ver j) = some (wd (A.getD j 0)) ∧ ∀ z : Nat, ∃ σ2, stV σ 1 (.ptr x ver j) (.int .u64 z) = .ok undefV σ2 ∧ Acc wd ty σ0 σ2 v (A.set j z) ∧ Keep σ0 σ2 := by
  rcases h with ⟨rfl, rfl⟩ | ⟨x, ver, minv, ex, rfl, hg, h1, h2⟩
  · simp at hj
  · refine ⟨x, ver, ?_, ?_, fun z => ?_⟩
    · simp only [elemAt]; rw [if_pos ⟨Int.natCast_nonneg _, by omega⟩]; simp
    · simp only [ldv, blkCells, hg, visib, if_true]
      rw [List.getElem?_map, List.getElem?_eq_getElem hj, List.getD, List.getElem?_eq_getElem hj]; rfl
    · refine ⟨_, st_at hg (by simpa using hj), .inr ⟨x, ver, ver, ex, by simp, ?_, h1, h2⟩, hK.put h1 h2 _⟩
      rw [H.get_put, if_pos rfl, List.map_set]; rfl

/-- one step of To, in numbers -/
theorem to_step {L A A1 : List Nat} {i : Nat} (hA1 : A1 = if i % 4 = 0 then A ++ [0] else A) (hL : wokH L) (hlen : A.length = (i + 3) / 4) (hA : wok A) (hv : val A = valH (L.take i)) (htop : i % 4 ≠ 0 → A.getD (i / 4) 0 < 2 ^ (16 * (i % 4))) :
    i / 4 < A1.length ∧ A1.getD (i / 4) 0 < WW ∧ L.getD i 0 * 2 ^ (16 * (i % 4)) < WW ∧
      (A1.set (i / 4) (A1.getD (i / 4) 0 ||| L.getD i 0 * 2 ^ (16 * (i % 4)))).length = (i + 1 + 3) / 4 ∧ wok (A1.set (i / 4) (A1.getD (i / 4) 0 ||| L.getD i 0 * 2 ^ (16 * (i % 4)))) ∧
      val (A1.set (i / 4) (A1.getD (i / 4) 0 ||| L.getD i 0 * 2 ^ (16 * (i % 4)))) = valH (L.take (i + 1)) ∧
      ((i + 1) % 4 ≠ 0 → (A1.set (i / 4) (A1.getD (i / 4) 0 ||| L.getD i 0 * 2 ^ (16 * (i % 4)))).getD ((i + 1) / 4) 0 < 2 ^ (16 * ((i + 1) % 4))) := by
  have hA1l : A1.length = i / 4 + 1 := by
    rw [hA1]
    split
    · rw [List.length_append, hlen]; simp; omega
    · rw [hlen]; omega
  have hA1v : val A1 = val A := by
    rw [hA1]
    split
    · rw [val_append, Nat.mul_zero, Nat.add_zero]
    · rfl
  have hA1o : wok A1 := by
    refine wok_of fun x hx => ?_
    rw [hA1] at hx
    split at hx
    · rcases List.mem_append.1 hx with h | h
      · exact wok_mem hA x h
      · rw [List.mem_singleton.1 h]; decide
    · exact wok_mem hA x hx
  have hP : 2 ^ (16 * (i % 4)) * 65536 ≤ 18446744073709551616 ∧ 0 < 2 ^ (16 * (i % 4)) := by
    have : i % 4 = 0 ∨ i % 4 = 1 ∨ i % 4 = 2 ∨ i % 4 = 3 := by omega
    rcases this with h | h | h | h <;> rw [h] <;> decide
  have hx : A1.getD (i / 4) 0 < 2 ^ (16 * (i % 4)) := by
    by_cases h0 : i % 4 = 0
    · rw [hA1, if_pos h0, List.getD_eq_getElem?_getD, List.getElem?_append_right (by omega), show i / 4 - A.length = 0 by omega]
      exact hP.2
    · rw [hA1, if_neg h0]; exact htop h0
  have hy : L.getD i 0 < 65536 := hL i
  have hz : A1.getD (i / 4) 0 ||| L.getD i 0 * 2 ^ (16 * (i % 4)) = A1.getD (i / 4) 0 + L.getD i 0 * 2 ^ (16 * (i % 4)) := by
    rw [Nat.or_comm, Nat.mul_comm, ← Nat.two_pow_add_eq_or_of_lt hx, Nat.add_comm]
  rw [hz]
  have hxW := hA1o (i / 4)
  have hyP : L.getD i 0 * 2 ^ (16 * (i % 4)) + 2 ^ (16 * (i % 4)) ≤ 2 ^ (16 * (i % 4)) * 65536 := by
    have : (L.getD i 0 + 1) * 2 ^ (16 * (i % 4)) ≤ 65536 * 2 ^ (16 * (i % 4)) := Nat.mul_le_mul_right _ hy
    rw [Nat.add_mul, Nat.one_mul] at this
    omega
  have hsum : A1.getD (i / 4) 0 + L.getD i 0 * 2 ^ (16 * (i % 4)) < 2 ^ (16 * (i % 4)) * 65536 := by omega
  have hsW : A1.getD (i / 4) 0 + L.getD i 0 * 2 ^ (16 * (i % 4)) < 18446744073709551616 := by omega
  have hyW : L.getD i 0 * 2 ^ (16 * (i % 4)) < 18446744073709551616 := by omega
  refine ⟨by omega, hxW, hyW, by rw [List.length_set, hA1l]; omega, ?_, ?_, ?_⟩
  · refine wok_of fun w hw => ?_
    rcases List.mem_or_eq_of_mem_set hw with h | h
    · exact wok_mem hA1o w h
    · rw [h]; exact hsW
  · rw [val_set _ _ _ (by omega), hA1v, hv, val_take_succH, hh_pow, Nat.mul_comm (L.getD i 0), Nat.mul_assoc]
  · intro h1
    have e1 : (i + 1) / 4 = i / 4 := by omega
    have e2 : (i + 1) % 4 = i % 4 + 1 := by omega
    rw [e1, e2, List.getD_eq_getElem?_getD, List.getElem?_set_self (by omega)]
    show _ < 2 ^ (16 * (i % 4 + 1))
    rw [Nat.mul_add, Nat.pow_add]
    exact hsum

/-- To -/
theorem to_call {lf m : Nat} {σ : H} {a : V} {L : List Nat} (ha : UH σ a L) (hw : WfH σ) (hL : wokH L) (hT : trimd L) (hlf : L.length + 4 < lf) (hl : L.length < 4294967296) :
    ∃ v σ' A, call T1 lf (m + 2) 36 [a] σ = .ret v σ' ∧ U σ' v A ∧ Keep σ σ' ∧ wok A ∧ val A = valH L ∧ A.length = (L.length + 3) / 4 := by
  have key : ∃ v σ', call T1 lf (m + 2) 36 [a] σ = .ret v σ' ∧ ∃ A, U σ' v A ∧ Keep σ σ' ∧ wok A ∧ val A = valH L ∧ A.length = (L.length + 3) / 4 := by
    refine call_rt1 (p := pk 2) rfl c36_at (by simp [c36]) rfl fun cf hcf => ?_
    generalize hτ : bindArgs [a] .h .lf = τ0
    have h0 : τ0.get (pk 0) = some a := by rw [← hτ]; rfl
    clear hτ
    obtain ⟨a', t1, t2⟩ := trimh_call (lf := lf) (m := m) ha (by omega) (by omega)
    rw [trimL_id hT] at t2
    rw [← hcf] at t1
    simp only [c36, q0, u0, q1, u1, q2, u2, q3, u3, q4, u4, q5, u5, q6, u6, q7, u7, q8, u8, q9, u9, q10, u10, q11, u11, q12, u12, q13, u13, q14, u14, q15, u15, q16, u16, q17, u17, q18, u18, q19, u19, q20, u20, q21, u21, q22, u22, q23, u23, q24, u24, q25, u25, q26, u26, q27, u27, q28, u28, q29, u29, q30, u30, q31, u31, q32, u32, q33, u33, q34, u34, q35, u35, q36, u36, q37, u37, q38, u38, q39, u39, q40, u40, q41, u41, q42, u42, q43, u43, q44, u44, q45, u45, q46, u46, q47, u47, q48, u48, q49, u49, q50, u50, q51, u51, q52, u52, q53, u53, q54, u54, q55, u55, q56, u56, q57, u57, q58, u58, q59, u59, q60, u60, q61, u61, q62, u62, q63, u63, q64, u64, q65, u65, q66, u66, q67, u67, q68, u68, q69, u69, q70, u70, q71, u71, q72, u72, q73, u73, q74, u74, q75, u75, q76, u76, q77, u77, q78, u78, q79, u79, q80, u80, q81, u81, q82, u82, q83, u83, q84, u84, q85, u85, q86, u86, q87, u87, q88, u88, q89, u89, q90, u90, q91, u91, q92, u92, q93, u93, q94, u94, q95, u95, q96, u96, q97, u97, q98, u98, q99, u99, q100, u100, q101, u101, q102, u102, q103, u103, q104, u104, q105, u105, q106, u106, q107, u107, q108, u108, q109, u109, q110, u110, q111, u111, q112, u112, q113, u113, q114, u114, q115, u115, q116, u116, q117, u117, q118, u118, q119, u119, q120, u120, q121, u121, q122, u122, q123, u123, q124, u124, q125, u125, q126, u126, q127, u127, q128, u128, q129, u129, q130, u130, q131, u131, q132, u132, q133, u133, q134, u134, q135, u135, q136, u136, oP, oR, oA, oH, oPn, oRn, oAn, oHn, bi, ld, ki, kt, kf, s_ops_nil, s_ops_cons, s_ops_nx, s_ops_pn, s_seq, s_seq_nx, s_seq_ex, s_seq_rt, s_skip, s_ret, s_exit, s_reg, s_cond, s_cond_t, s_cond_f, s_blk, s_blk_nx, s_blk_rt, s_blk_ex, s_put, s_P, s_R, s_A, s_A_some, s_C_ret, s_C_pan, s_H, s_H_ok, s_H_call, s_H_pan, s_gd, s_gd_bool, s_gd_undef, e_t, e_k, e_mv, e_pick, e_pick_b, e_bin, e_add_i64, e_add_i32, e_sub_i64, e_sub_u8, e_mul_i64, e_addU, e_mulU, e_addU32, e_mulU32, e_eql, e_neq, e_lss, e_leq, e_gtr, e_geq, e_str_eql, e_str_neq, e_iaddr, e_iaddr_int, e_lens, e_ld, e_extract, e_ex0, e_ex1, e_ex2, e_lenS, e_lenS_str, e_cii, e_cii_int, e_slsl_hm, e_sl2, e_slsl_h, e_sl1, e_slis, e_evL_nil, e_evL_cons, e_cons, e_call, e_callk, e_app, e_appk, e_store, e_stk, e_next, e_nextk, e_range, e_rangek, e_bs1, e_bs1i, e_bs0, e_mksl, e_mkslk, e_AK_sl, e_AK_it, e_AK_ptr, e_not, e_notb, e_xori, e_idxs, s_Hn, s_Hnk, s_Nx, s_Rt, s_NR_nx, s_NR_rt, s_NXT_nx, s_NXT_ex, s_NXT_rt, e_lenV_sl, e_lenV_nils, get_pk, k_bind, true_and, and_true, if_true, if_false, Bool.true_eq, beq_self_eq_true, reduceIte, Bool.false_eq_true, reduceCtorEq, bne_self_eq_false, Nat.reduceAdd, Nat.reduceLeDiff, Nat.reduceEqDiff, Nat.reduceSub, Nat.reduceBEq, Int.reduceBEq, Int.reduceNeg, Int.reduceLT, Int.reduceLE, Nat.succ_ne_self, Bool.not_true, Bool.not_false, Bool.true_beq, Bool.false_beq, decide_true, decide_false, exists_eq_left', Option.some.injEq, h0, t1]
    refine Rt_seq (loop_rule_x
      (fun k τ σ' => ∃ i v A, i ≤ L.length ∧ k = L.length - i ∧ Acc wd 32 σ σ' v A ∧ Keep σ σ' ∧ A.length = (i + 3) / 4 ∧ wok A ∧ val A = valH (L.take i) ∧ (i % 4 ≠ 0 → A.getD (i / 4) 0 < 2 ^ (16 * (i % 4))) ∧
        τ.get (pk 0) = some a' ∧ τ.get (pk 3) = some v ∧ τ.get (pk 4) = some (.int .i64 i))
      (fun τ σ' => ∃ v A, U σ' v A ∧ Keep σ σ' ∧ A.length = (L.length + 3) / 4 ∧ wok A ∧ val A = valH L ∧ τ.get (pk 3) = some v)
      ?_ (k := L.length) (by omega) ?_) ?_
    · rintro k τ σ' ⟨i, v, A, hi, rfl, hacc, hK, hAl, hA, hv, htop, g0, g3, g4⟩
      by_cases hlt : i < L.length
      · have d1 := lt_true hlt
        have wi : IntKind.i64.wrap ((i : Int) + 1) = ((i + 1 : Nat) : Int) := wrap_add1 (by omega)
        have hqt := fun q => e_quo4 q i (by omega)
        have hrm := fun q => e_rem4 q i
        have hr4 : i % 4 < 4 := Nat.mod_lt _ (by decide)
        have h16 := fun q => e_mul16 q (i % 4) hr4
        have wr : IntKind.u64.wrap ((i % 4 : Nat) : Int) = ((i % 4 : Nat) : Int) := by rw [wrapU, Nat.mod_eq_of_lt (by omega)]
        have wy : IntKind.u64.wrap ((L.getD i 0 : Nat) : Int) = ((L.getD i 0 : Nat) : Int) := by rw [wrapU, Nat.mod_eq_of_lt (by have : L.getD i 0 < 65536 := hL i; omega)]
        -- the list with its next word
        have mid : ∃ v1 σ1 A1, A1 = (if i % 4 = 0 then A ++ [0] else A) ∧ Acc wd 32 σ σ1 v1 A1 ∧ Keep σ σ1 ∧ ((i % 4 = 0 ∧ appV (σ'.new (.cells 32 [.int .u64 0] 0 0 (some 0) [])) 32 1 8 v (.sl σ'.nx 0 0 1 (some 1) 0) = .ok v1 σ1) ∨ (i % 4 ≠ 0 ∧ v1 = v ∧ σ1 = σ')) := by
          by_cases h4 : i % 4 = 0
          · obtain ⟨v1, σ1, a1, a2, a3⟩ := Acc.app (f := wd) (fun _ => rfl) (eb := 8) (w := 0) (hK.2.2 hw) hacc hK (by rw [hAl]; unfold mostBytes; omega) (by rw [hAl]; unfold mostBytes; omega)
            exact ⟨v1, σ1, A ++ [0], (if_pos h4).symm, a2, a3, .inl ⟨h4, a1⟩⟩
          · exact ⟨v, σ', A, (if_neg h4).symm, hacc, hK, .inr ⟨h4, rfl, rfl⟩⟩
        obtain ⟨v1, σ1, A1, hA1, hacc1, hK1, hmid⟩ := mid
        obtain ⟨s1, s2, s3, s4, s5, s6, s7⟩ := to_step hA1 hL hAl hA hv htop
        obtain ⟨x, ver, r1, r2, r3⟩ := hacc1.at hK1 s1
        have ha1 := t2.keep hw hK1
        obtain ⟨q, q1, q2⟩ := ha1.elem hlt
        have hor := fun q => e_orU q _ _ s2 s3
        have hsh := fun q k => e_shlU q k (L.getD i 0) (16 * (i % 4)) (by omega) s3
        obtain ⟨σ2, st, hacc2, hK2⟩ := r3 (A1.getD (i / 4) 0 ||| L.getD i 0 * 2 ^ (16 * (i % 4)))
        generalize hnew : A1.set (i / 4) (A1.getD (i / 4) 0 ||| L.getD i 0 * 2 ^ (16 * (i % 4))) = A2 at hacc2 s4 s5 s6 s7
        have fin : ∃ k', k' < L.length - i ∧ ∃ i_1 v A, i_1 ≤ L.length ∧ k' = L.length - i_1 ∧ Acc wd 32 σ σ2 v A ∧ Keep σ σ2 ∧ A.length = (i_1 + 3) / 4 ∧ wok A ∧ val A = valH (L.take i_1) ∧ (i_1 % 4 ≠ 0 → A.getD (i_1 / 4) 0 < 2 ^ (16 * (i_1 % 4))) ∧ v1 = v ∧ V.int .i64 (i + 1 : Nat) = V.int .i64 i_1 :=
          ⟨L.length - (i + 1), by omega, i + 1, v1, A2, by omega, rfl, hacc2, hK2, s4, s5, s6, s7, rfl, rfl⟩
        rcases hmid with ⟨h4, a1⟩ | ⟨h4, rfl, rfl⟩
        · have d4 : (((i % 4 : Nat) : Int) == 0) = true := by rw [h4]; rfl
          simp only [b36_0, q0, u0, q1, u1, q2, u2, q3, u3, q4, u4, q5, u5, q6, u6, q7, u7, q8, u8, q9, u9, q10, u10, q11, u11, q12, u12, q13, u13, q14, u14, q15, u15, q16, u16, q17, u17, q18, u18, q19, u19, q20, u20, q21, u21, q22, u22, q23, u23, q24, u24, q25, u25, q26, u26, q27, u27, q28, u28, q29, u29, q30, u30, q31, u31, q32, u32, q33, u33, q34, u34, q35, u35, q36, u36, q37, u37, q38, u38, q39, u39, q40, u40, q41, u41, q42, u42, q43, u43, q44, u44, q45, u45, q46, u46, q47, u47, q48, u48, q49, u49, q50, u50, q51, u51, q52, u52, q53, u53, q54, u54, q55, u55, q56, u56, q57, u57, q58, u58, q59, u59, q60, u60, q61, u61, q62, u62, q63, u63, q64, u64, q65, u65, q66, u66, q67, u67, q68, u68, q69, u69, q70, u70, q71, u71, q72, u72, q73, u73, q74, u74, q75, u75, q76, u76, q77, u77, q78, u78, q79, u79, q80, u80, q81, u81, q82, u82, q83, u83, q84, u84, q85, u85, q86, u86, q87, u87, q88, u88, q89, u89, q90, u90, q91, u91, q92, u92, q93, u93, q94, u94, q95, u95, q96, u96, q97, u97, q98, u98, q99, u99, q100, u100, q101, u101, q102, u102, q103, u103, q104, u104, q105, u105, q106, u106, q107, u107, q108, u108, q109, u109, q110, u110, q111, u111, q112, u112, q113, u113, q114, u114, q115, u115, q116, u116, q117, u117, q118, u118, q119, u119, q120, u120, q121, u121, q122, u122, q123, u123, q124, u124, q125, u125, q126, u126, q127, u127, q128, u128, q129, u129, q130, u130, q131, u131, q132, u132, q133, u133, q134, u134, q135, u135, q136, u136, oP, oR, oA, oH, oPn, oRn, oAn, oHn, bi, ld, ki, kt, kf, s_ops_nil, s_ops_cons, s_ops_nx, s_ops_pn, s_seq, s_seq_nx, s_seq_ex, s_seq_rt, s_skip, s_ret, s_exit, s_reg, s_cond, s_cond_t, s_cond_f, s_blk, s_blk_nx, s_blk_rt, s_blk_ex, s_put, s_P, s_R, s_A, s_A_some, s_C_ret, s_C_pan, s_H, s_H_ok, s_H_call, s_H_pan, s_gd, s_gd_bool, s_gd_undef, e_t, e_k, e_mv, e_pick, e_pick_b, e_bin, e_add_i64, e_add_i32, e_sub_i64, e_sub_u8, e_mul_i64, e_addU, e_mulU, e_addU32, e_mulU32, e_eql, e_neq, e_lss, e_leq, e_gtr, e_geq, e_str_eql, e_str_neq, e_iaddr, e_iaddr_int, e_lens, e_ld, e_extract, e_ex0, e_ex1, e_ex2, e_lenS, e_lenS_str, e_cii, e_cii_int, e_slsl_hm, e_sl2, e_slsl_h, e_sl1, e_slis, e_evL_nil, e_evL_cons, e_cons, e_call, e_callk, e_app, e_appk, e_store, e_stk, e_next, e_nextk, e_range, e_rangek, e_bs1, e_bs1i, e_bs0, e_mksl, e_mkslk, e_AK_sl, e_AK_it, e_AK_ptr, e_not, e_notb, e_xori, e_idxs, s_Hn, s_Hnk, s_Nx, s_Rt, s_NR_nx, s_NR_rt, s_NXT_nx, s_NXT_ex, s_NXT_rt, e_lenV_sl, e_lenV_nils, get_pk, k_bind, true_and, and_true, if_true, if_false, Bool.true_eq, beq_self_eq_true, reduceIte, Bool.false_eq_true, reduceCtorEq, bne_self_eq_false, Nat.reduceAdd, Nat.reduceLeDiff, Nat.reduceEqDiff, Nat.reduceSub, Nat.reduceBEq, Int.reduceBEq, Int.reduceNeg, Int.reduceLT, Int.reduceLE, Nat.succ_ne_self, Bool.not_true, Bool.not_false, Bool.true_beq, Bool.false_beq, decide_true, decide_false, exists_eq_left', Option.some.injEq, w_drw, w_nil, w_0, w_3, w_0nx, w_1s, w_1nx, w_1lk, w_1ls, w_2, w_2nx, g0, g3, g4, t2.len, d1, hrm, d4, a1, hqt, r1, r2, q1, q2, wd, wh, wy, wr, h16, hsh, hor, st, wi, List.all_nil]
          exact fin
        · have d4 : (((i % 4 : Nat) : Int) == 0) = false := by simp; omega
          simp only [b36_0, q0, u0, q1, u1, q2, u2, q3, u3, q4, u4, q5, u5, q6, u6, q7, u7, q8, u8, q9, u9, q10, u10, q11, u11, q12, u12, q13, u13, q14, u14, q15, u15, q16, u16, q17, u17, q18, u18, q19, u19, q20, u20, q21, u21, q22, u22, q23, u23, q24, u24, q25, u25, q26, u26, q27, u27, q28, u28, q29, u29, q30, u30, q31, u31, q32, u32, q33, u33, q34, u34, q35, u35, q36, u36, q37, u37, q38, u38, q39, u39, q40, u40, q41, u41, q42, u42, q43, u43, q44, u44, q45, u45, q46, u46, q47, u47, q48, u48, q49, u49, q50, u50, q51, u51, q52, u52, q53, u53, q54, u54, q55, u55, q56, u56, q57, u57, q58, u58, q59, u59, q60, u60, q61, u61, q62, u62, q63, u63, q64, u64, q65, u65, q66, u66, q67, u67, q68, u68, q69, u69, q70, u70, q71, u71, q72, u72, q73, u73, q74, u74, q75, u75, q76, u76, q77, u77, q78, u78, q79, u79, q80, u80, q81, u81, q82, u82, q83, u83, q84, u84, q85, u85, q86, u86, q87, u87, q88, u88, q89, u89, q90, u90, q91, u91, q92, u92, q93, u93, q94, u94, q95, u95, q96, u96, q97, u97, q98, u98, q99, u99, q100, u100, q101, u101, q102, u102, q103, u103, q104, u104, q105, u105, q106, u106, q107, u107, q108, u108, q109, u109, q110, u110, q111, u111, q112, u112, q113, u113, q114, u114, q115, u115, q116, u116, q117, u117, q118, u118, q119, u119, q120, u120, q121, u121, q122, u122, q123, u123, q124, u124, q125, u125, q126, u126, q127, u127, q128, u128, q129, u129, q130, u130, q131, u131, q132, u132, q133, u133, q134, u134, q135, u135, q136, u136, oP, oR, oA, oH, oPn, oRn, oAn, oHn, bi, ld, ki, kt, kf, s_ops_nil, s_ops_cons, s_ops_nx, s_ops_pn, s_seq, s_seq_nx, s_seq_ex, s_seq_rt, s_skip, s_ret, s_exit, s_reg, s_cond, s_cond_t, s_cond_f, s_blk, s_blk_nx, s_blk_rt, s_blk_ex, s_put, s_P, s_R, s_A, s_A_some, s_C_ret, s_C_pan, s_H, s_H_ok, s_H_call, s_H_pan, s_gd, s_gd_bool, s_gd_undef, e_t, e_k, e_mv, e_pick, e_pick_b, e_bin, e_add_i64, e_add_i32, e_sub_i64, e_sub_u8, e_mul_i64, e_addU, e_mulU, e_addU32, e_mulU32, e_eql, e_neq, e_lss, e_leq, e_gtr, e_geq, e_str_eql, e_str_neq, e_iaddr, e_iaddr_int, e_lens, e_ld, e_extract, e_ex0, e_ex1, e_ex2, e_lenS, e_lenS_str, e_cii, e_cii_int, e_slsl_hm, e_sl2, e_slsl_h, e_sl1, e_slis, e_evL_nil, e_evL_cons, e_cons, e_call, e_callk, e_app, e_appk, e_store, e_stk, e_next, e_nextk, e_range, e_rangek, e_bs1, e_bs1i, e_bs0, e_mksl, e_mkslk, e_AK_sl, e_AK_it, e_AK_ptr, e_not, e_notb, e_xori, e_idxs, s_Hn, s_Hnk, s_Nx, s_Rt, s_NR_nx, s_NR_rt, s_NXT_nx, s_NXT_ex, s_NXT_rt, e_lenV_sl, e_lenV_nils, get_pk, k_bind, true_and, and_true, if_true, if_false, Bool.true_eq, beq_self_eq_true, reduceIte, Bool.false_eq_true, reduceCtorEq, bne_self_eq_false, Nat.reduceAdd, Nat.reduceLeDiff, Nat.reduceEqDiff, Nat.reduceSub, Nat.reduceBEq, Int.reduceBEq, Int.reduceNeg, Int.reduceLT, Int.reduceLE, Nat.succ_ne_self, Bool.not_true, Bool.not_false, Bool.true_beq, Bool.false_beq, decide_true, decide_false, exists_eq_left', Option.some.injEq, w_drw, w_nil, w_0, w_3, w_0nx, w_1s, w_1nx, w_1lk, w_1ls, w_2, w_2nx, g0, g3, g4, t2.len, d1, hrm, d4, hqt, r1, r2, q1, q2, wd, wh, wy, wr, h16, hsh, hor, st, wi, List.all_nil]
          exact fin
      · have d1 := lt_false hlt
        have hie : i = L.length := by omega
        subst hie
        simp only [b36_0, q0, u0, q1, u1, q2, u2, q3, u3, q4, u4, q5, u5, q6, u6, q7, u7, q8, u8, q9, u9, q10, u10, q11, u11, q12, u12, q13, u13, q14, u14, q15, u15, q16, u16, q17, u17, q18, u18, q19, u19, q20, u20, q21, u21, q22, u22, q23, u23, q24, u24, q25, u25, q26, u26, q27, u27, q28, u28, q29, u29, q30, u30, q31, u31, q32, u32, q33, u33, q34, u34, q35, u35, q36, u36, q37, u37, q38, u38, q39, u39, q40, u40, q41, u41, q42, u42, q43, u43, q44, u44, q45, u45, q46, u46, q47, u47, q48, u48, q49, u49, q50, u50, q51, u51, q52, u52, q53, u53, q54, u54, q55, u55, q56, u56, q57, u57, q58, u58, q59, u59, q60, u60, q61, u61, q62, u62, q63, u63, q64, u64, q65, u65, q66, u66, q67, u67, q68, u68, q69, u69, q70, u70, q71, u71, q72, u72, q73, u73, q74, u74, q75, u75, q76, u76, q77, u77, q78, u78, q79, u79, q80, u80, q81, u81, q82, u82, q83, u83, q84, u84, q85, u85, q86, u86, q87, u87, q88, u88, q89, u89, q90, u90, q91, u91, q92, u92, q93, u93, q94, u94, q95, u95, q96, u96, q97, u97, q98, u98, q99, u99, q100, u100, q101, u101, q102, u102, q103, u103, q104, u104, q105, u105, q106, u106, q107, u107, q108, u108, q109, u109, q110, u110, q111, u111, q112, u112, q113, u113, q114, u114, q115, u115, q116, u116, q117, u117, q118, u118, q119, u119, q120, u120, q121, u121, q122, u122, q123, u123, q124, u124, q125, u125, q126, u126, q127, u127, q128, u128, q129, u129, q130, u130, q131, u131, q132, u132, q133, u133, q134, u134, q135, u135, q136, u136, oP, oR, oA, oH, oPn, oRn, oAn, oHn, bi, ld, ki, kt, kf, s_ops_nil, s_ops_cons, s_ops_nx, s_ops_pn, s_seq, s_seq_nx, s_seq_ex, s_seq_rt, s_skip, s_ret, s_exit, s_reg, s_cond, s_cond_t, s_cond_f, s_blk, s_blk_nx, s_blk_rt, s_blk_ex, s_put, s_P, s_R, s_A, s_A_some, s_C_ret, s_C_pan, s_H, s_H_ok, s_H_call, s_H_pan, s_gd, s_gd_bool, s_gd_undef, e_t, e_k, e_mv, e_pick, e_pick_b, e_bin, e_add_i64, e_add_i32, e_sub_i64, e_sub_u8, e_mul_i64, e_addU, e_mulU, e_addU32, e_mulU32, e_eql, e_neq, e_lss, e_leq, e_gtr, e_geq, e_str_eql, e_str_neq, e_iaddr, e_iaddr_int, e_lens, e_ld, e_extract, e_ex0, e_ex1, e_ex2, e_lenS, e_lenS_str, e_cii, e_cii_int, e_slsl_hm, e_sl2, e_slsl_h, e_sl1, e_slis, e_evL_nil, e_evL_cons, e_cons, e_call, e_callk, e_app, e_appk, e_store, e_stk, e_next, e_nextk, e_range, e_rangek, e_bs1, e_bs1i, e_bs0, e_mksl, e_mkslk, e_AK_sl, e_AK_it, e_AK_ptr, e_not, e_notb, e_xori, e_idxs, s_Hn, s_Hnk, s_Nx, s_Rt, s_NR_nx, s_NR_rt, s_NXT_nx, s_NXT_ex, s_NXT_rt, e_lenV_sl, e_lenV_nils, get_pk, k_bind, true_and, and_true, if_true, if_false, Bool.true_eq, beq_self_eq_true, reduceIte, Bool.false_eq_true, reduceCtorEq, bne_self_eq_false, Nat.reduceAdd, Nat.reduceLeDiff, Nat.reduceEqDiff, Nat.reduceSub, Nat.reduceBEq, Int.reduceBEq, Int.reduceNeg, Int.reduceLT, Int.reduceLE, Nat.succ_ne_self, Bool.not_true, Bool.not_false, Bool.true_beq, Bool.false_beq, decide_true, decide_false, exists_eq_left', Option.some.injEq, g0, g3, g4, t2.len, d1]
        exact ⟨v, A, hacc.UG, hK, hAl, hA, by rw [hv, List.take_of_length_le (Nat.le_refl _)], rfl⟩
    · exact ⟨0, .nils, [], Nat.zero_le _, rfl, .inl ⟨rfl, rfl⟩, Keep.refl _, rfl, wok_of (fun x h => by cases h), rfl, fun h => absurd rfl h, by simp only [q0, u0, q1, u1, q2, u2, q3, u3, q4, u4, q5, u5, q6, u6, q7, u7, q8, u8, q9, u9, q10, u10, q11, u11, q12, u12, q13, u13, q14, u14, q15, u15, q16, u16, q17, u17, q18, u18, q19, u19, q20, u20, q21, u21, q22, u22, q23, u23, q24, u24, q25, u25, q26, u26, q27, u27, q28, u28, q29, u29, q30, u30, q31, u31, q32, u32, q33, u33, q34, u34, q35, u35, q36, u36, q37, u37, q38, u38, q39, u39, q40, u40, q41, u41, q42, u42, q43, u43, q44, u44, q45, u45, q46, u46, q47, u47, q48, u48, q49, u49, q50, u50, q51, u51, q52, u52, q53, u53, q54, u54, q55, u55, q56, u56, q57, u57, q58, u58, q59, u59, q60, u60, q61, u61, q62, u62, q63, u63, q64, u64, q65, u65, q66, u66, q67, u67, q68, u68, q69, u69, q70, u70, q71, u71, q72, u72, q73, u73, q74, u74, q75, u75, q76, u76, q77, u77, q78, u78, q79, u79, q80, u80, q81, u81, q82, u82, q83, u83, q84, u84, q85, u85, q86, u86, q87, u87, q88, u88, q89, u89, q90, u90, q91, u91, q92, u92, q93, u93, q94, u94, q95, u95, q96, u96, q97, u97, q98, u98, q99, u99, q100, u100, q101, u101, q102, u102, q103, u103, q104, u104, q105, u105, q106, u106, q107, u107, q108, u108, q109, u109, q110, u110, q111, u111, q112, u112, q113, u113, q114, u114, q115, u115, q116, u116, q117, u117, q118, u118, q119, u119, q120, u120, q121, u121, q122, u122, q123, u123, q124, u124, q125, u125, q126, u126, q127, u127, q128, u128, q129, u129, q130, u130, q131, u131, q132, u132, q133, u133, q134, u134, q135, u135, q136, u136, oP, oR, oA, oH, oPn, oRn, oAn, oHn, bi, ld, ki, kt, kf, s_ops_nil, s_ops_cons, s_ops_nx, s_ops_pn, s_seq, s_seq_nx, s_seq_ex, s_seq_rt, s_skip, s_ret, s_exit, s_reg, s_cond, s_cond_t, s_cond_f, s_blk, s_blk_nx, s_blk_rt, s_blk_ex, s_put, s_P, s_R, s_A, s_A_some, s_C_ret, s_C_pan, s_H, s_H_ok, s_H_call, s_H_pan, s_gd, s_gd_bool, s_gd_undef, e_t, e_k, e_mv, e_pick, e_pick_b, e_bin, e_add_i64, e_add_i32, e_sub_i64, e_sub_u8, e_mul_i64, e_addU, e_mulU, e_addU32, e_mulU32, e_eql, e_neq, e_lss, e_leq, e_gtr, e_geq, e_str_eql, e_str_neq, e_iaddr, e_iaddr_int, e_lens, e_ld, e_extract, e_ex0, e_ex1, e_ex2, e_lenS, e_lenS_str, e_cii, e_cii_int, e_slsl_hm, e_sl2, e_slsl_h, e_sl1, e_slis, e_evL_nil, e_evL_cons, e_cons, e_call, e_callk, e_app, e_appk, e_store, e_stk, e_next, e_nextk, e_range, e_rangek, e_bs1, e_bs1i, e_bs0, e_mksl, e_mkslk, e_AK_sl, e_AK_it, e_AK_ptr, e_not, e_notb, e_xori, e_idxs, s_Hn, s_Hnk, s_Nx, s_Rt, s_NR_nx, s_NR_rt, s_NXT_nx, s_NXT_ex, s_NXT_rt, e_lenV_sl, e_lenV_nils, get_pk, k_bind, true_and, and_true, if_true, if_false, Bool.true_eq, beq_self_eq_true, reduceIte, Bool.false_eq_true, reduceCtorEq, bne_self_eq_false, Nat.reduceAdd, Nat.reduceLeDiff, Nat.reduceEqDiff, Nat.reduceSub, Nat.reduceBEq, Int.reduceBEq, Int.reduceNeg, Int.reduceLT, Int.reduceLE, Nat.succ_ne_self, Bool.not_true, Bool.not_false, Bool.true_beq, Bool.false_beq, decide_true, decide_false, exists_eq_left', Option.some.injEq], by simp only [q0, u0, q1, u1, q2, u2, q3, u3, q4, u4, q5, u5, q6, u6, q7, u7, q8, u8, q9, u9, q10, u10, q11, u11, q12, u12, q13, u13, q14, u14, q15, u15, q16, u16, q17, u17, q18, u18, q19, u19, q20, u20, q21, u21, q22, u22, q23, u23, q24, u24, q25, u25, q26, u26, q27, u27, q28, u28, q29, u29, q30, u30, q31, u31, q32, u32, q33, u33, q34, u34, q35, u35, q36, u36, q37, u37, q38, u38, q39, u39, q40, u40, q41, u41, q42, u42, q43, u43, q44, u44, q45, u45, q46, u46, q47, u47, q48, u48, q49, u49, q50, u50, q51, u51, q52, u52, q53, u53, q54, u54, q55, u55, q56, u56, q57, u57, q58, u58, q59, u59, q60, u60, q61, u61, q62, u62, q63, u63, q64, u64, q65, u65, q66, u66, q67, u67, q68, u68, q69, u69, q70, u70, q71, u71, q72, u72, q73, u73, q74, u74, q75, u75, q76, u76, q77, u77, q78, u78, q79, u79, q80, u80, q81, u81, q82, u82, q83, u83, q84, u84, q85, u85, q86, u86, q87, u87, q88, u88, q89, u89, q90, u90, q91, u91, q92, u92, q93, u93, q94, u94, q95, u95, q96, u96, q97, u97, q98, u98, q99, u99, q100, u100, q101, u101, q102, u102, q103, u103, q104, u104, q105, u105, q106, u106, q107, u107, q108, u108, q109, u109, q110, u110, q111, u111, q112, u112, q113, u113, q114, u114, q115, u115, q116, u116, q117, u117, q118, u118, q119, u119, q120, u120, q121, u121, q122, u122, q123, u123, q124, u124, q125, u125, q126, u126, q127, u127, q128, u128, q129, u129, q130, u130, q131, u131, q132, u132, q133, u133, q134, u134, q135, u135, q136, u136, oP, oR, oA, oH, oPn, oRn, oAn, oHn, bi, ld, ki, kt, kf, s_ops_nil, s_ops_cons, s_ops_nx, s_ops_pn, s_seq, s_seq_nx, s_seq_ex, s_seq_rt, s_skip, s_ret, s_exit, s_reg, s_cond, s_cond_t, s_cond_f, s_blk, s_blk_nx, s_blk_rt, s_blk_ex, s_put, s_P, s_R, s_A, s_A_some, s_C_ret, s_C_pan, s_H, s_H_ok, s_H_call, s_H_pan, s_gd, s_gd_bool, s_gd_undef, e_t, e_k, e_mv, e_pick, e_pick_b, e_bin, e_add_i64, e_add_i32, e_sub_i64, e_sub_u8, e_mul_i64, e_addU, e_mulU, e_addU32, e_mulU32, e_eql, e_neq, e_lss, e_leq, e_gtr, e_geq, e_str_eql, e_str_neq, e_iaddr, e_iaddr_int, e_lens, e_ld, e_extract, e_ex0, e_ex1, e_ex2, e_lenS, e_lenS_str, e_cii, e_cii_int, e_slsl_hm, e_sl2, e_slsl_h, e_sl1, e_slis, e_evL_nil, e_evL_cons, e_cons, e_call, e_callk, e_app, e_appk, e_store, e_stk, e_next, e_nextk, e_range, e_rangek, e_bs1, e_bs1i, e_bs0, e_mksl, e_mkslk, e_AK_sl, e_AK_it, e_AK_ptr, e_not, e_notb, e_xori, e_idxs, s_Hn, s_Hnk, s_Nx, s_Rt, s_NR_nx, s_NR_rt, s_NXT_nx, s_NXT_ex, s_NXT_rt, e_lenV_sl, e_lenV_nils, get_pk, k_bind, true_and, and_true, if_true, if_false, Bool.true_eq, beq_self_eq_true, reduceIte, Bool.false_eq_true, reduceCtorEq, bne_self_eq_false, Nat.reduceAdd, Nat.reduceLeDiff, Nat.reduceEqDiff, Nat.reduceSub, Nat.reduceBEq, Int.reduceBEq, Int.reduceNeg, Int.reduceLT, Int.reduceLE, Nat.succ_ne_self, Bool.not_true, Bool.not_false, Bool.true_beq, Bool.false_beq, decide_true, decide_false, exists_eq_left', Option.some.injEq], by simp only [q0, u0, q1, u1, q2, u2, q3, u3, q4, u4, q5, u5, q6, u6, q7, u7, q8, u8, q9, u9, q10, u10, q11, u11, q12, u12, q13, u13, q14, u14, q15, u15, q16, u16, q17, u17, q18, u18, q19, u19, q20, u20, q21, u21, q22, u22, q23, u23, q24, u24, q25, u25, q26, u26, q27, u27, q28, u28, q29, u29, q30, u30, q31, u31, q32, u32, q33, u33, q34, u34, q35, u35, q36, u36, q37, u37, q38, u38, q39, u39, q40, u40, q41, u41, q42, u42, q43, u43, q44, u44, q45, u45, q46, u46, q47, u47, q48, u48, q49, u49, q50, u50, q51, u51, q52, u52, q53, u53, q54, u54, q55, u55, q56, u56, q57, u57, q58, u58, q59, u59, q60, u60, q61, u61, q62, u62, q63, u63, q64, u64, q65, u65, q66, u66, q67, u67, q68, u68, q69, u69, q70, u70, q71, u71, q72, u72, q73, u73, q74, u74, q75, u75, q76, u76, q77, u77, q78, u78, q79, u79, q80, u80, q81, u81, q82, u82, q83, u83, q84, u84, q85, u85, q86, u86, q87, u87, q88, u88, q89, u89, q90, u90, q91, u91, q92, u92, q93, u93, q94, u94, q95, u95, q96, u96, q97, u97, q98, u98, q99, u99, q100, u100, q101, u101, q102, u102, q103, u103, q104, u104, q105, u105, q106, u106, q107, u107, q108, u108, q109, u109, q110, u110, q111, u111, q112, u112, q113, u113, q114, u114, q115, u115, q116, u116, q117, u117, q118, u118, q119, u119, q120, u120, q121, u121, q122, u122, q123, u123, q124, u124, q125, u125, q126, u126, q127, u127, q128, u128, q129, u129, q130, u130, q131, u131, q132, u132, q133, u133, q134, u134, q135, u135, q136, u136, oP, oR, oA, oH, oPn, oRn, oAn, oHn, bi, ld, ki, kt, kf, s_ops_nil, s_ops_cons, s_ops_nx, s_ops_pn, s_seq, s_seq_nx, s_seq_ex, s_seq_rt, s_skip, s_ret, s_exit, s_reg, s_cond, s_cond_t, s_cond_f, s_blk, s_blk_nx, s_blk_rt, s_blk_ex, s_put, s_P, s_R, s_A, s_A_some, s_C_ret, s_C_pan, s_H, s_H_ok, s_H_call, s_H_pan, s_gd, s_gd_bool, s_gd_undef, e_t, e_k, e_mv, e_pick, e_pick_b, e_bin, e_add_i64, e_add_i32, e_sub_i64, e_sub_u8, e_mul_i64, e_addU, e_mulU, e_addU32, e_mulU32, e_eql, e_neq, e_lss, e_leq, e_gtr, e_geq, e_str_eql, e_str_neq, e_iaddr, e_iaddr_int, e_lens, e_ld, e_extract, e_ex0, e_ex1, e_ex2, e_lenS, e_lenS_str, e_cii, e_cii_int, e_slsl_hm, e_sl2, e_slsl_h, e_sl1, e_slis, e_evL_nil, e_evL_cons, e_cons, e_call, e_callk, e_app, e_appk, e_store, e_stk, e_next, e_nextk, e_range, e_rangek, e_bs1, e_bs1i, e_bs0, e_mksl, e_mkslk, e_AK_sl, e_AK_it, e_AK_ptr, e_not, e_notb, e_xori, e_idxs, s_Hn, s_Hnk, s_Nx, s_Rt, s_NR_nx, s_NR_rt, s_NXT_nx, s_NXT_ex, s_NXT_rt, e_lenV_sl, e_lenV_nils, get_pk, k_bind, true_and, and_true, if_true, if_false, Bool.true_eq, beq_self_eq_true, reduceIte, Bool.false_eq_true, reduceCtorEq, bne_self_eq_false, Nat.reduceAdd, Nat.reduceLeDiff, Nat.reduceEqDiff, Nat.reduceSub, Nat.reduceBEq, Int.reduceBEq, Int.reduceNeg, Int.reduceLT, Int.reduceLE, Nat.succ_ne_self, Bool.not_true, Bool.not_false, Bool.true_beq, Bool.false_beq, decide_true, decide_false, exists_eq_left', Option.some.injEq]; rfl⟩
    · rintro τ σ' ⟨v, A, h1, h2, h3, h4, h5, g3⟩
      simp only [q0, u0, q1, u1, q2, u2, q3, u3, q4, u4, q5, u5, q6, u6, q7, u7, q8, u8, q9, u9, q10, u10, q11, u11, q12, u12, q13, u13, q14, u14, q15, u15, q16, u16, q17, u17, q18, u18, q19, u19, q20, u20, q21, u21, q22, u22, q23, u23, q24, u24, q25, u25, q26, u26, q27, u27, q28, u28, q29, u29, q30, u30, q31, u31, q32, u32, q33, u33, q34, u34, q35, u35, q36, u36, q37, u37, q38, u38, q39, u39, q40, u40, q41, u41, q42, u42, q43, u43, q44, u44, q45, u45, q46, u46, q47, u47, q48, u48, q49, u49, q50, u50, q51, u51, q52, u52, q53, u53, q54, u54, q55, u55, q56, u56, q57, u57, q58, u58, q59, u59, q60, u60, q61, u61, q62, u62, q63, u63, q64, u64, q65, u65, q66, u66, q67, u67, q68, u68, q69, u69, q70, u70, q71, u71, q72, u72, q73, u73, q74, u74, q75, u75, q76, u76, q77, u77, q78, u78, q79, u79, q80, u80, q81, u81, q82, u82, q83, u83, q84, u84, q85, u85, q86, u86, q87, u87, q88, u88, q89, u89, q90, u90, q91, u91, q92, u92, q93, u93, q94, u94, q95, u95, q96, u96, q97, u97, q98, u98, q99, u99, q100, u100, q101, u101, q102, u102, q103, u103, q104, u104, q105, u105, q106, u106, q107, u107, q108, u108, q109, u109, q110, u110, q111, u111, q112, u112, q113, u113, q114, u114, q115, u115, q116, u116, q117, u117, q118, u118, q119, u119, q120, u120, q121, u121, q122, u122, q123, u123, q124, u124, q125, u125, q126, u126, q127, u127, q128, u128, q129, u129, q130, u130, q131, u131, q132, u132, q133, u133, q134, u134, q135, u135, q136, u136, oP, oR, oA, oH, oPn, oRn, oAn, oHn, bi, ld, ki, kt, kf, s_ops_nil, s_ops_cons, s_ops_nx, s_ops_pn, s_seq, s_seq_nx, s_seq_ex, s_seq_rt, s_skip, s_ret, s_exit, s_reg, s_cond, s_cond_t, s_cond_f, s_blk, s_blk_nx, s_blk_rt, s_blk_ex, s_put, s_P, s_R, s_A, s_A_some, s_C_ret, s_C_pan, s_H, s_H_ok, s_H_call, s_H_pan, s_gd, s_gd_bool, s_gd_undef, e_t, e_k, e_mv, e_pick, e_pick_b, e_bin, e_add_i64, e_add_i32, e_sub_i64, e_sub_u8, e_mul_i64, e_addU, e_mulU, e_addU32, e_mulU32, e_eql, e_neq, e_lss, e_leq, e_gtr, e_geq, e_str_eql, e_str_neq, e_iaddr, e_iaddr_int, e_lens, e_ld, e_extract, e_ex0, e_ex1, e_ex2, e_lenS, e_lenS_str, e_cii, e_cii_int, e_slsl_hm, e_sl2, e_slsl_h, e_sl1, e_slis, e_evL_nil, e_evL_cons, e_cons, e_call, e_callk, e_app, e_appk, e_store, e_stk, e_next, e_nextk, e_range, e_rangek, e_bs1, e_bs1i, e_bs0, e_mksl, e_mkslk, e_AK_sl, e_AK_it, e_AK_ptr, e_not, e_notb, e_xori, e_idxs, s_Hn, s_Hnk, s_Nx, s_Rt, s_NR_nx, s_NR_rt, s_NXT_nx, s_NXT_ex, s_NXT_rt, e_lenV_sl, e_lenV_nils, get_pk, k_bind, true_and, and_true, if_true, if_false, Bool.true_eq, beq_self_eq_true, reduceIte, Bool.false_eq_true, reduceCtorEq, bne_self_eq_false, Nat.reduceAdd, Nat.reduceLeDiff, Nat.reduceEqDiff, Nat.reduceSub, Nat.reduceBEq, Int.reduceBEq, Int.reduceNeg, Int.reduceLT, Int.reduceLE, Nat.succ_ne_self, Bool.not_true, Bool.not_false, Bool.true_beq, Bool.false_beq, decide_true, decide_false, exists_eq_left', Option.some.injEq, g3]
      exact ⟨A, h1, h2, h4, h5, h3⟩
  obtain ⟨v, σ', h1, A, h2⟩ := key
  exact ⟨v, σ', A, h1, h2⟩
end Go.Proofs.YtplaefbblpiehaaEng
