/- Layer 1 run on symbols: the product of two words; a number by one word. -/
import Derived.Test.YtahgfodccndcjaaGreatN4
import Derived.Lib.Mul64
namespace Go.Proofs.YtahgfodccndcjaaGreatEng
open Go
set_option maxRecDepth 100000
set_option linter.unusedSimpArgs false

theorem c58_at : T1.code 58 = some c58 := by kernel_rfl
theorem c31_at : T1.code 31 = some c31 := by kernel_rfl
theorem and_mask32 (x : Nat) : x &&& 4294967295 = x % 4294967296 := Nat.and_two_pow_sub_one_eq_mod x 32
theorem e_mask (q : EqT) (x : Nat) (hx : x < WW) : kBin .and q (some (.int .u64 x)) (some (.int .u64 4294967295)) = some (.int .u64 (x % 4294967296 : Nat)) := by
  have := e_andU q x 4294967295 hx (by decide)
  rw [and_mask32] at this
  exact this
theorem e_shr32 (q : EqT) (k : IntKind) (x : Nat) : kBin .shr q (some (.int .u64 x)) (some (.int k 32)) = some (.int .u64 (x / 4294967296 : Nat)) := e_shrU q k x 32 (by decide)

/-- Mul64 -/
theorem mul64_call {lf m : Nat} {σ : H} {x y : Nat} (hx : x < WW) (hy : y < WW) : call T1 lf (m + 1) 58 [.int .u64 x, .int .u64 y] σ = .ret (.tup [.int .u64 (x * y / WW : Nat), .int .u64 (x * y % WW : Nat)]) σ := by
  have key : ∃ v u σ', call T1 lf (m + 1) 58 [.int .u64 x, .int .u64 y] σ = .ret (.tup [v, u]) σ' ∧ (v = .int .u64 (x * y / WW : Nat) ∧ u = .int .u64 (x * y % WW : Nat) ∧ σ' = σ) := by
    refine call_rt2 (p := pk 4) (q := pk 5) rfl c58_at (by simp [c58]) rfl fun cf hcf => ?_
    clear hcf
    generalize hτ : bindArgs [.int .u64 (x : Int), .int .u64 (y : Int)] .h .lf = τ0
    have h0 : τ0.get (pk 0) = some (.int .u64 x) := by rw [← hτ]; rfl
    have h1 : τ0.get (pk 1) = some (.int .u64 y) := by rw [← hτ]; rfl
    clear hτ
    have hx' : x < 18446744073709551616 := hx
    have hy' : y < 18446744073709551616 := hy
    obtain ⟨b1, b2, b3, b4⟩ := Lib.mul64_hi x y hx hy
    have ba : x / 4294967296 * (y / 4294967296) ≤ 18446744065119617025 := Lib.half_mul_le (by omega) (by omega)
    have bb : x / 4294967296 * (y % 4294967296) ≤ 18446744065119617025 := Lib.half_mul_le (by omega) (by omega)
    have bc : x % 4294967296 * (y / 4294967296) ≤ 18446744065119617025 := Lib.half_mul_le (by omega) (by omega)
    have hq : x * y / 18446744073709551616 < 18446744073709551616 := Nat.div_lt_of_lt_mul (Nat.mul_lt_mul'' hx hy)
    have m1 : x / 4294967296 * (y % 4294967296) % 18446744073709551616 = x / 4294967296 * (y % 4294967296) := Nat.mod_eq_of_lt (by omega)
    have m2 := Nat.mod_eq_of_lt b2
    have m3 : x % 4294967296 * (y / 4294967296) % 18446744073709551616 = x % 4294967296 * (y / 4294967296) := Nat.mod_eq_of_lt (by omega)
    have m4 := Nat.mod_eq_of_lt b3
    have m5 : x / 4294967296 * (y / 4294967296) % 18446744073709551616 = x / 4294967296 * (y / 4294967296) := Nat.mod_eq_of_lt (by omega)
    have m6 : (x / 4294967296 * (y / 4294967296) + (x / 4294967296 * (y % 4294967296) + x % 4294967296 * (y % 4294967296) / 4294967296) / 4294967296) % 18446744073709551616 = x / 4294967296 * (y / 4294967296) + (x / 4294967296 * (y % 4294967296) + x % 4294967296 * (y % 4294967296) / 4294967296) / 4294967296 := Nat.mod_eq_of_lt (by omega)
    have m7 := Nat.mod_eq_of_lt hq
    simp only [c58, QU, oP, oR, oA, oH, oPn, oRn, oAn, oHn, bi, ld, ki, kt, kf, s_ops_nil, s_ops_cons, s_ops_nx, s_ops_pn, s_seq, s_seq_nx, s_seq_ex, s_seq_rt, s_skip, s_ret, s_exit, s_reg, s_cond, s_cond_t, s_cond_f, s_blk, s_blk_nx, s_blk_rt, s_blk_ex, s_put, s_P, s_R, s_A, s_A_some, s_C_ret, s_C_pan, s_H, s_H_ok, s_H_call, s_H_pan, s_gd, s_gd_bool, s_gd_undef, e_t, e_k, e_mv, e_pick, e_pick_b, e_bin, e_add_i64, e_add_i32, e_sub_i64, e_sub_u8, e_mul_i64, e_addU, e_mulU, e_addU32, e_mulU32, e_eql, e_neq, e_lss, e_leq, e_gtr, e_geq, e_str_eql, e_str_neq, e_iaddr, e_iaddr_int, e_lens, e_ld, e_extract, e_ex0, e_ex1, e_ex2, e_lenS, e_lenS_str, e_cii, e_cii_int, e_slsl_hm, e_sl2, e_slsl_h, e_sl1, e_slis, e_evL_nil, e_evL_cons, e_cons, e_call, e_callk, e_app, e_appk, e_store, e_stk, e_next, e_nextk, e_range, e_rangek, e_bs1, e_bs1i, e_bs0, e_mksl, e_mkslk, e_AK_sl, e_AK_it, e_AK_ptr, e_not, e_notb, e_xori, e_idxs, s_Hn, s_Hnk, s_Nx, s_Rt, s_NR_nx, s_NR_rt, s_NXT_nx, s_NXT_ex, s_NXT_rt, e_lenV_sl, e_lenV_nils, get_pk, k_bind, true_and, and_true, if_true, if_false, Bool.true_eq, beq_self_eq_true, reduceIte, Bool.false_eq_true, reduceCtorEq, bne_self_eq_false, Nat.reduceAdd, Nat.reduceLeDiff, Nat.reduceEqDiff, Nat.reduceSub, Nat.reduceBEq, Int.reduceBEq, Int.reduceNeg, Int.reduceLT, Int.reduceLE, Nat.succ_ne_self, Bool.not_true, Bool.not_false, Bool.true_beq, Bool.false_beq, decide_true, decide_false, exists_eq_left', Option.some.injEq, h0, h1, e_mask _ _ hx, e_mask _ _ hy, e_shr32, Nat.mod_eq_of_lt b1, m1, m2, m3, m4, m5, m6, e_mask _ _ b2, b4, m7]
    exact ⟨_, _, rfl, rfl, rfl, rfl⟩
  obtain ⟨v, u, _, h1, rfl, rfl, rfl⟩ := key
  exact h1

/-- the first i words of a product by a word, and what is carried -/
def muS (A : List Nat) (t : Nat) : Nat → List Nat × Nat
  | 0 => ([], 0)
  | i + 1 => ((muS A t i).1 ++ [(A.getD i 0 * t + (muS A t i).2) % WW], (A.getD i 0 * t + (muS A t i).2) / WW)
theorem muS_len (A : List Nat) (t : Nat) : ∀ i, (muS A t i).1.length = i
  | 0 => rfl
  | i + 1 => by simp [muS, muS_len A t i]
theorem mul_add_lt {x y c : Nat} (hx : x < WW) (hy : y < WW) (hc : c < WW) : x * y + c < WW * WW := by
  have h1 : x * y ≤ (WW - 1) * (WW - 1) := Nat.mul_le_mul (by omega) (by omega)
  have h2 : (WW - 1) * (WW - 1) + WW ≤ WW * WW := by decide
  omega
theorem muS_c {A : List Nat} {t : Nat} (hA : wok A) (ht : t < WW) : ∀ i, (muS A t i).2 < WW
  | 0 => (by decide : 0 < WW)
  | i + 1 => Nat.div_lt_of_lt_mul (mul_add_lt (hA i) ht (muS_c hA ht i))
theorem muS_ok (A : List Nat) (t : Nat) : ∀ i, ∀ x ∈ (muS A t i).1, x < WW
  | 0 => fun x h => by cases h
  | i + 1 => fun x h => by
    simp only [muS, List.mem_append, List.mem_singleton] at h
    rcases h with h | rfl
    · exact muS_ok A t i x h
    · exact Nat.mod_lt _ (by decide)
def mulL (A : List Nat) (t : Nat) : List Nat := (muS A t A.length).1 ++ [(muS A t A.length).2]
theorem muS_val (A : List Nat) (t : Nat) : ∀ i, val (muS A t i).1 + WW ^ i * (muS A t i).2 = val (A.take i) * t
  | 0 => by simp [muS, val]
  | i + 1 => by
    have ih := muS_val A t i
    simp only [muS]
    rw [val_append, muS_len, val_take_succ, Nat.pow_succ]
    generalize hs : A.getD i 0 * t + (muS A t i).2 = s
    have h1 : WW ^ i * (s % WW) + WW ^ i * WW * (s / WW) = WW ^ i * s := by
      rw [Nat.mul_assoc, ← Nat.mul_add, Nat.mod_add_div]
    rw [Nat.add_assoc, h1, ← hs, Nat.mul_add, Nat.add_mul, ← ih, Nat.mul_assoc]
    omega
theorem mulL_val (A : List Nat) (t : Nat) : val (mulL A t) = val A * t := by
  have := muS_val A t A.length
  rw [List.take_of_length_le (Nat.le_refl _)] at this
  rw [mulL, val_append, muS_len, this]
theorem mulL_ok {A : List Nat} {t : Nat} (hA : wok A) (ht : t < WW) : wok (mulL A t) := by
  refine wok_of fun x hx => ?_
  simp only [mulL, List.mem_append, List.mem_singleton] at hx
  rcases hx with h | rfl
  · exact muS_ok A t _ x h
  · exact muS_c hA ht _
theorem mulL_len (A : List Nat) (t : Nat) : (mulL A t).length = A.length + 1 := by simp [mulL, muS_len]

theorem set_mid (D : List V) (x y : V) (r : List V) : (D ++ x :: r).set D.length y = D ++ y :: r := by
  induction D with
  | nil => rfl
  | cons d D ih => simp [ih]
/-- mul by one word -/
theorem mul_call {lf m : Nat} {σ : H} {a b : V} {A : List Nat} {t : Nat} (ha : U σ a A) (hb : U σ b [t]) (hw : WfH σ) (hA : wok A) (ht : t < WW) (hlf : A.length + 3 < lf) (hl : A.length < 17592186048512) :
    ∃ v σ', call T1 lf (m + 2) 31 [a, b] σ = .ret v σ' ∧ U σ' v (trimL (mulL A t)) ∧ Keep σ σ' := by
  refine call_rt1 (p := pk 4) rfl c31_at (by simp [c31]) rfl fun cf hcf => ?_
  generalize hτ : bindArgs [a, b] .h .lf = τ0
  have h0 : τ0.get (pk 0) = some a := by rw [← hτ]; rfl
  have h1 : τ0.get (pk 1) = some b := by rw [← hτ]; rfl
  clear hτ
  have w1 : IntKind.i64.wrap ((A.length : Int) + (([t] : List Nat).length : Int)) = ((A.length + 1 : Nat) : Int) := wrap_add1 (by omega)
  have mk : mkV 49 8 [.int .u64 0] (.int .i64 (A.length + 1 : Nat)) (.int .i64 (A.length + 1 : Nat)) = some (.sl (A.length + 1) (A.length + 1), .cells 49 (repl [.int .u64 0] (A.length + 1)) 0 0 (some 0) []) := by
    simp only [mkV]
    rw [if_pos ⟨Int.natCast_nonneg _, Int.le_refl _, by unfold mostBytes; simp; omega, by omega⟩]
    simp
  have rp : ∀ j, repl [V.int .u64 0] (j + 1) = V.int .u64 0 :: repl [.int .u64 0] j := fun _ => rfl
  have rl : ∀ j, (repl [V.int .u64 0] j).length = j := fun j => by
    induction j with
    | zero => rfl
    | succ j ih => rw [rp, List.length_cons, ih]
  simp only [c31, QU, oP, oR, oA, oH, oPn, oRn, oAn, oHn, bi, ld, ki, kt, kf, s_ops_nil, s_ops_cons, s_ops_nx, s_ops_pn, s_seq, s_seq_nx, s_seq_ex, s_seq_rt, s_skip, s_ret, s_exit, s_reg, s_cond, s_cond_t, s_cond_f, s_blk, s_blk_nx, s_blk_rt, s_blk_ex, s_put, s_P, s_R, s_A, s_A_some, s_C_ret, s_C_pan, s_H, s_H_ok, s_H_call, s_H_pan, s_gd, s_gd_bool, s_gd_undef, e_t, e_k, e_mv, e_pick, e_pick_b, e_bin, e_add_i64, e_add_i32, e_sub_i64, e_sub_u8, e_mul_i64, e_addU, e_mulU, e_addU32, e_mulU32, e_eql, e_neq, e_lss, e_leq, e_gtr, e_geq, e_str_eql, e_str_neq, e_iaddr, e_iaddr_int, e_lens, e_ld, e_extract, e_ex0, e_ex1, e_ex2, e_lenS, e_lenS_str, e_cii, e_cii_int, e_slsl_hm, e_sl2, e_slsl_h, e_sl1, e_slis, e_evL_nil, e_evL_cons, e_cons, e_call, e_callk, e_app, e_appk, e_store, e_stk, e_next, e_nextk, e_range, e_rangek, e_bs1, e_bs1i, e_bs0, e_mksl, e_mkslk, e_AK_sl, e_AK_it, e_AK_ptr, e_not, e_notb, e_xori, e_idxs, s_Hn, s_Hnk, s_Nx, s_Rt, s_NR_nx, s_NR_rt, s_NXT_nx, s_NXT_ex, s_NXT_rt, e_lenV_sl, e_lenV_nils, get_pk, k_bind, true_and, and_true, if_true, if_false, Bool.true_eq, beq_self_eq_true, reduceIte, Bool.false_eq_true, reduceCtorEq, bne_self_eq_false, Nat.reduceAdd, Nat.reduceLeDiff, Nat.reduceEqDiff, Nat.reduceSub, Nat.reduceBEq, Int.reduceBEq, Int.reduceNeg, Int.reduceLT, Int.reduceLE, Nat.succ_ne_self, Bool.not_true, Bool.not_false, Bool.true_beq, Bool.false_beq, decide_true, decide_false, exists_eq_left', Option.some.injEq, h0, h1, ha.len, hb.len, w1, mk]
  refine Rt_seq (loop_rule_x
    (fun k τ σ' => ∃ i, i ≤ A.length ∧ k = A.length - i ∧ σ'.get σ.nx = some (.cells 49 ((muS A t i).1.map wd ++ .int .u64 (muS A t i).2 :: repl [.int .u64 0] (A.length - i)) 0 0 (some 0) []) ∧ Keep σ σ' ∧ σ.nx.toNat < σ'.nx.toNat ∧
      τ.get (pk 1) = some b ∧ τ.get (pk 5) = some (.sl σ.nx 0 0 (A.length + 1) (some (A.length + 1)) 0) ∧ τ.get (pk 20) = some a ∧ τ.get (pk 21) = some (.int .i64 A.length) ∧ τ.get (pk 22) = some (.int .i64 i))
    (fun τ σ' => σ'.get σ.nx = some (.cells 49 ((mulL A t).map wd) 0 0 (some 0) []) ∧ Keep σ σ' ∧ τ.get (pk 5) = some (.sl σ.nx 0 0 (A.length + 1) (some (A.length + 1)) 0))
    ?_ (k := A.length) (by omega) ?_) ?_
  · rintro k τ σ' ⟨i, hi, rfl, hg, hK, hnx, g1, g5, g20, g21, g22⟩
    by_cases hlt : i < A.length
    · have d1 := lt_true hlt
      have ha' := ha.keep hw hK
      have hb' := hb.keep hw hK
      obtain ⟨q, q1, q2⟩ := ha'.elem hlt
      obtain ⟨r, r1, r2⟩ := hb'.elem (i := 0) (Nat.zero_lt_one)
      rw [show (((0 : Nat)) : Int) = 0 from rfl] at r1
      rw [show ([t] : List Nat).getD 0 0 = t from rfl] at r2
      obtain ⟨l, rfl⟩ : ∃ l, lf = l + 2 := ⟨lf - 2, by omega⟩
      generalize hx : A.getD i 0 = x at q2
      have hxW : x < WW := by rw [← hx]; exact hA i
      have hcW := muS_c hA ht i
      generalize hc : (muS A t i).2 = c at hg hcW
      have hDl := muS_len A t i
      generalize hD : (muS A t i).1 = D at hg hDl
      have hs : x * t + c < WW * WW := mul_add_lt hxW ht hcW
      have hm := mul64_call (lf := l + 2) (m := m) (σ := σ') hxW ht
      have n1 : x * t % WW + c + 0 = x * t % WW + c := rfl
      have n2 : (x * t % WW + c) % WW = (x * t + c) % WW := by rw [Nat.mod_add_mod]
      have n3 : x * t / WW + (x * t % WW + c) / WW = (x * t + c) / WW := by
        have h1 := Nat.div_add_mod (x * t) WW
        have : (x * t + c) / WW = (WW * (x * t / WW) + (x * t % WW + c)) / WW := by rw [← Nat.add_assoc, h1]
        rw [this, Nat.mul_add_div (by decide)]
      have n4 : (x * t + c) / WW < WW := Nat.div_lt_of_lt_mul hs
      have had1 := add64_call (lf := l + 2) (m := m) (σ := σ') (x := x * t % WW) (y := c) (c := 0) (by decide)
      rw [show (((0 : Nat)) : Int) = 0 from rfl, n1, n2] at had1
      have had2 := add64_call (lf := l + 2) (m := m) (σ := σ') (x := (x * t + c) % WW) (y := 0) (c := 0) (by decide)
      rw [show (((0 : Nat)) : Int) = 0 from rfl, show (x * t + c) % WW + 0 + 0 = (x * t + c) % WW from rfl, Nat.mod_mod, Nat.div_eq_of_lt (Nat.mod_lt _ (by decide))] at had2
      rw [← hcf] at hm had1 had2
      have n5 : (x * t / WW + (x * t % WW + c) / WW) % 18446744073709551616 = (x * t + c) / WW := by rw [n3]; exact Nat.mod_eq_of_lt n4
      have n6 : ((x * t + c) / WW + 0) % 18446744073709551616 = (x * t + c) / WW := Nat.mod_eq_of_lt n4
      have wi0 : IntKind.i64.wrap ((i : Int) + 0) = (i : Int) := by rw [Int.add_zero]; exact wrap_nat (by omega)
      have wi1 : IntKind.i64.wrap ((i : Int) + 1) = ((i + 1 : Nat) : Int) := wrap_add1 (by omega)
      have wi2 : IntKind.i64.wrap ((i : Int) + (([t] : List Nat).length : Int)) = ((i + 1 : Nat) : Int) := wrap_add1 (by omega)
      have w01 : IntKind.i64.wrap ((0 : Int) + 1) = 1 := by decide
      have dl1 : decide ((0 : Int) < (([t] : List Nat).length : Int)) = true := by simp
      have dl2 : decide ((1 : Int) < (([t] : List Nat).length : Int)) = false := by simp
      have el : ∀ j, j < A.length + 1 → elemAt 1 (.sl σ.nx 0 0 (A.length + 1) (some (A.length + 1)) 0) (j : Nat) = some (.ptr σ.nx 0 j) := fun j hj => by
        simp only [elemAt]; rw [if_pos ⟨Int.natCast_nonneg _, by omega⟩]; simp
      have e1 := el i (by omega)
      have e2 := el (i + 1) (by omega)
      obtain ⟨rest, hrest⟩ : ∃ rest, repl [V.int .u64 0] (A.length - i) = .int .u64 0 :: rest ∧ rest = repl [V.int .u64 0] (A.length - (i + 1)) := ⟨_, by rw [show A.length - i = (A.length - (i + 1)) + 1 by omega, rp], rfl⟩
      rw [hrest.1] at hg
      have ldc : ldv σ' (.ptr σ.nx 0 i) = some (.int .u64 c) := by
        simp only [ldv, blkCells, hg, visib, if_true]
        rw [List.getElem?_append_right (by simp [hDl]), List.length_map, hDl, Nat.sub_self]; rfl
      have st1 := st_at (σ := σ') (x := σ.nx) (o := i) (k := .u64) (n := ((x * t + c) % WW : Nat)) hg (by simp [hDl])
      have hset1 : (D.map wd ++ V.int .u64 c :: (.int .u64 0 :: rest)).set i (.int .u64 ((x * t + c) % WW : Nat)) = D.map wd ++ .int .u64 ((x * t + c) % WW : Nat) :: (.int .u64 0 :: rest) := by
        have := set_mid (D.map wd) (V.int .u64 c) (.int .u64 ((x * t + c) % WW : Nat)) (.int .u64 0 :: rest)
        rwa [List.length_map, hDl] at this
      rw [hset1] at st1
      generalize hσ2 : σ'.put σ.nx (.cells 49 (D.map wd ++ .int .u64 ((x * t + c) % WW : Nat) :: (.int .u64 0 :: rest)) 0 0 (some 0) []) = σ2 at st1
      have hg2 : σ2.get σ.nx = some (.cells 49 (D.map wd ++ .int .u64 ((x * t + c) % WW : Nat) :: (.int .u64 0 :: rest)) 0 0 (some 0) []) := by rw [← hσ2, H.get_put, if_pos rfl]
      have hK2 : Keep σ σ2 := by rw [← hσ2]; exact hK.put (Nat.le_refl _) hnx _
      have hnx2 : σ.nx.toNat < σ2.nx.toNat := by rw [← hσ2, nx_put]; exact hnx
      have st2 := st_at (σ := σ2) (x := σ.nx) (o := i + 1) (k := .u64) (n := ((x * t + c) / WW : Nat)) hg2 (by simp [hDl])
      have hset2 : (D.map wd ++ V.int .u64 ((x * t + c) % WW : Nat) :: (.int .u64 0 :: rest)).set (i + 1) (.int .u64 ((x * t + c) / WW : Nat)) = (D ++ [(x * t + c) % WW]).map wd ++ .int .u64 ((x * t + c) / WW : Nat) :: rest := by
        have := set_mid ((D ++ [(x * t + c) % WW]).map wd) (V.int .u64 0) (.int .u64 ((x * t + c) / WW : Nat)) rest
        rw [List.length_map, List.length_append, hDl, List.length_singleton] at this
        rw [← this]; simp [wd]
      rw [hset2] at st2
      simp only [b31_1, b31_0, QU, oP, oR, oA, oH, oPn, oRn, oAn, oHn, bi, ld, ki, kt, kf, s_ops_nil, s_ops_cons, s_ops_nx, s_ops_pn, s_seq, s_seq_nx, s_seq_ex, s_seq_rt, s_skip, s_ret, s_exit, s_reg, s_cond, s_cond_t, s_cond_f, s_blk, s_blk_nx, s_blk_rt, s_blk_ex, s_put, s_P, s_R, s_A, s_A_some, s_C_ret, s_C_pan, s_H, s_H_ok, s_H_call, s_H_pan, s_gd, s_gd_bool, s_gd_undef, e_t, e_k, e_mv, e_pick, e_pick_b, e_bin, e_add_i64, e_add_i32, e_sub_i64, e_sub_u8, e_mul_i64, e_addU, e_mulU, e_addU32, e_mulU32, e_eql, e_neq, e_lss, e_leq, e_gtr, e_geq, e_str_eql, e_str_neq, e_iaddr, e_iaddr_int, e_lens, e_ld, e_extract, e_ex0, e_ex1, e_ex2, e_lenS, e_lenS_str, e_cii, e_cii_int, e_slsl_hm, e_sl2, e_slsl_h, e_sl1, e_slis, e_evL_nil, e_evL_cons, e_cons, e_call, e_callk, e_app, e_appk, e_store, e_stk, e_next, e_nextk, e_range, e_rangek, e_bs1, e_bs1i, e_bs0, e_mksl, e_mkslk, e_AK_sl, e_AK_it, e_AK_ptr, e_not, e_notb, e_xori, e_idxs, s_Hn, s_Hnk, s_Nx, s_Rt, s_NR_nx, s_NR_rt, s_NXT_nx, s_NXT_ex, s_NXT_rt, e_lenV_sl, e_lenV_nils, get_pk, k_bind, true_and, and_true, if_true, if_false, Bool.true_eq, beq_self_eq_true, reduceIte, Bool.false_eq_true, reduceCtorEq, bne_self_eq_false, Nat.reduceAdd, Nat.reduceLeDiff, Nat.reduceEqDiff, Nat.reduceSub, Nat.reduceBEq, Int.reduceBEq, Int.reduceNeg, Int.reduceLT, Int.reduceLE, Nat.succ_ne_self, Bool.not_true, Bool.not_false, Bool.true_beq, Bool.false_beq, decide_true, decide_false, exists_eq_left', Option.some.injEq, s_loop1, s_loop2, s_loop_nx, s_loop_ex, g1, g5, g20, g21, g22, d1, q1, q2, r1, r2, wd, hb'.len, hm, had1, had2, n5, n6, wi0, wi1, wi2, w01, dl1, dl2, e1, e2, ldc, st1, st2]
      refine ⟨A.length - (i + 1), by omega, i + 1, by omega, rfl, ?_, hK2.put (Nat.le_refl _) hnx2 _, by rw [nx_put]; exact hnx2, rfl⟩
      rw [H.get_put, if_pos rfl, hrest.2]
      simp only [muS, hx, hc, hD]
    · have d1 := lt_false hlt
      have hie : i = A.length := by omega
      subst hie
      simp only [b31_1, QU, oP, oR, oA, oH, oPn, oRn, oAn, oHn, bi, ld, ki, kt, kf, s_ops_nil, s_ops_cons, s_ops_nx, s_ops_pn, s_seq, s_seq_nx, s_seq_ex, s_seq_rt, s_skip, s_ret, s_exit, s_reg, s_cond, s_cond_t, s_cond_f, s_blk, s_blk_nx, s_blk_rt, s_blk_ex, s_put, s_P, s_R, s_A, s_A_some, s_C_ret, s_C_pan, s_H, s_H_ok, s_H_call, s_H_pan, s_gd, s_gd_bool, s_gd_undef, e_t, e_k, e_mv, e_pick, e_pick_b, e_bin, e_add_i64, e_add_i32, e_sub_i64, e_sub_u8, e_mul_i64, e_addU, e_mulU, e_addU32, e_mulU32, e_eql, e_neq, e_lss, e_leq, e_gtr, e_geq, e_str_eql, e_str_neq, e_iaddr, e_iaddr_int, e_lens, e_ld, e_extract, e_ex0, e_ex1, e_ex2, e_lenS, e_lenS_str, e_cii, e_cii_int, e_slsl_hm, e_sl2, e_slsl_h, e_sl1, e_slis, e_evL_nil, e_evL_cons, e_cons, e_call, e_callk, e_app, e_appk, e_store, e_stk, e_next, e_nextk, e_range, e_rangek, e_bs1, e_bs1i, e_bs0, e_mksl, e_mkslk, e_AK_sl, e_AK_it, e_AK_ptr, e_not, e_notb, e_xori, e_idxs, s_Hn, s_Hnk, s_Nx, s_Rt, s_NR_nx, s_NR_rt, s_NXT_nx, s_NXT_ex, s_NXT_rt, e_lenV_sl, e_lenV_nils, get_pk, k_bind, true_and, and_true, if_true, if_false, Bool.true_eq, beq_self_eq_true, reduceIte, Bool.false_eq_true, reduceCtorEq, bne_self_eq_false, Nat.reduceAdd, Nat.reduceLeDiff, Nat.reduceEqDiff, Nat.reduceSub, Nat.reduceBEq, Int.reduceBEq, Int.reduceNeg, Int.reduceLT, Int.reduceLE, Nat.succ_ne_self, Bool.not_true, Bool.not_false, Bool.true_beq, Bool.false_beq, decide_true, decide_false, exists_eq_left', Option.some.injEq, g21, g22, d1, g5]
      refine ⟨?_, hK⟩
      rw [hg, Nat.sub_self, mulL, List.map_append]; rfl
  · refine ⟨0, Nat.zero_le _, rfl, by rw [H.get_new, if_pos rfl]; rfl, Keep.new _ _, by rw [nx_new]; omega, ?_⟩
    simp only [QU, oP, oR, oA, oH, oPn, oRn, oAn, oHn, bi, ld, ki, kt, kf, s_ops_nil, s_ops_cons, s_ops_nx, s_ops_pn, s_seq, s_seq_nx, s_seq_ex, s_seq_rt, s_skip, s_ret, s_exit, s_reg, s_cond, s_cond_t, s_cond_f, s_blk, s_blk_nx, s_blk_rt, s_blk_ex, s_put, s_P, s_R, s_A, s_A_some, s_C_ret, s_C_pan, s_H, s_H_ok, s_H_call, s_H_pan, s_gd, s_gd_bool, s_gd_undef, e_t, e_k, e_mv, e_pick, e_pick_b, e_bin, e_add_i64, e_add_i32, e_sub_i64, e_sub_u8, e_mul_i64, e_addU, e_mulU, e_addU32, e_mulU32, e_eql, e_neq, e_lss, e_leq, e_gtr, e_geq, e_str_eql, e_str_neq, e_iaddr, e_iaddr_int, e_lens, e_ld, e_extract, e_ex0, e_ex1, e_ex2, e_lenS, e_lenS_str, e_cii, e_cii_int, e_slsl_hm, e_sl2, e_slsl_h, e_sl1, e_slis, e_evL_nil, e_evL_cons, e_cons, e_call, e_callk, e_app, e_appk, e_store, e_stk, e_next, e_nextk, e_range, e_rangek, e_bs1, e_bs1i, e_bs0, e_mksl, e_mkslk, e_AK_sl, e_AK_it, e_AK_ptr, e_not, e_notb, e_xori, e_idxs, s_Hn, s_Hnk, s_Nx, s_Rt, s_NR_nx, s_NR_rt, s_NXT_nx, s_NXT_ex, s_NXT_rt, e_lenV_sl, e_lenV_nils, get_pk, k_bind, true_and, and_true, if_true, if_false, Bool.true_eq, beq_self_eq_true, reduceIte, Bool.false_eq_true, reduceCtorEq, bne_self_eq_false, Nat.reduceAdd, Nat.reduceLeDiff, Nat.reduceEqDiff, Nat.reduceSub, Nat.reduceBEq, Int.reduceBEq, Int.reduceNeg, Int.reduceLT, Int.reduceLE, Nat.succ_ne_self, Bool.not_true, Bool.not_false, Bool.true_beq, Bool.false_beq, decide_true, decide_false, exists_eq_left', Option.some.injEq, h1]
    rfl
  · rintro τ σ' ⟨hg, hK, g5⟩
    have hu : U σ' (.sl σ.nx 0 0 (A.length + 1) (some (A.length + 1)) 0) (mulL A t) := by
      refine ⟨Nat.le_refl _, by simp [slLen, mulL_len], ?_⟩
      simp only [slCells, blkCells, hg, visib, if_true, cut]
      rw [if_pos (by simp)]
      simp only [List.drop_zero, Nat.mul_one]
      rw [List.take_of_length_le (by simp)]
    obtain ⟨a', k1, k2⟩ := trim_call (lf := lf) (m := m) hu (by rw [mulL_len]; omega) (by rw [mulL_len]; omega)
    rw [← hcf] at k1
    simp only [QU, oP, oR, oA, oH, oPn, oRn, oAn, oHn, bi, ld, ki, kt, kf, s_ops_nil, s_ops_cons, s_ops_nx, s_ops_pn, s_seq, s_seq_nx, s_seq_ex, s_seq_rt, s_skip, s_ret, s_exit, s_reg, s_cond, s_cond_t, s_cond_f, s_blk, s_blk_nx, s_blk_rt, s_blk_ex, s_put, s_P, s_R, s_A, s_A_some, s_C_ret, s_C_pan, s_H, s_H_ok, s_H_call, s_H_pan, s_gd, s_gd_bool, s_gd_undef, e_t, e_k, e_mv, e_pick, e_pick_b, e_bin, e_add_i64, e_add_i32, e_sub_i64, e_sub_u8, e_mul_i64, e_addU, e_mulU, e_addU32, e_mulU32, e_eql, e_neq, e_lss, e_leq, e_gtr, e_geq, e_str_eql, e_str_neq, e_iaddr, e_iaddr_int, e_lens, e_ld, e_extract, e_ex0, e_ex1, e_ex2, e_lenS, e_lenS_str, e_cii, e_cii_int, e_slsl_hm, e_sl2, e_slsl_h, e_sl1, e_slis, e_evL_nil, e_evL_cons, e_cons, e_call, e_callk, e_app, e_appk, e_store, e_stk, e_next, e_nextk, e_range, e_rangek, e_bs1, e_bs1i, e_bs0, e_mksl, e_mkslk, e_AK_sl, e_AK_it, e_AK_ptr, e_not, e_notb, e_xori, e_idxs, s_Hn, s_Hnk, s_Nx, s_Rt, s_NR_nx, s_NR_rt, s_NXT_nx, s_NXT_ex, s_NXT_rt, e_lenV_sl, e_lenV_nils, get_pk, k_bind, true_and, and_true, if_true, if_false, Bool.true_eq, beq_self_eq_true, reduceIte, Bool.false_eq_true, reduceCtorEq, bne_self_eq_false, Nat.reduceAdd, Nat.reduceLeDiff, Nat.reduceEqDiff, Nat.reduceSub, Nat.reduceBEq, Int.reduceBEq, Int.reduceNeg, Int.reduceLT, Int.reduceLE, Nat.succ_ne_self, Bool.not_true, Bool.not_false, Bool.true_beq, Bool.false_beq, decide_true, decide_false, exists_eq_left', Option.some.injEq, g5, k1]
    exact ⟨k2, hK⟩
end Go.Proofs.YtahgfodccndcjaaGreatEng
