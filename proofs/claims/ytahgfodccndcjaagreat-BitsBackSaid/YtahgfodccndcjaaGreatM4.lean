/- Layer 1 run on symbols: Reverse; rows of bytes that grow. -/
import Derived.Test.YtahgfodccndcjaaGreatM3
namespace Go.Proofs.YtahgfodccndcjaaGreatEng
open Go
set_option maxRecDepth 100000
set_option linter.unusedSimpArgs false

/-- the first i and the last i exchanged -/
def rv (L : List Nat) (i : Nat) : List Nat := (List.range L.length).map fun p => if p < i ∨ L.length - i ≤ p then L.getD (L.length - 1 - p) 0 else L.getD p 0
theorem rv_len (L : List Nat) (i : Nat) : (rv L i).length = L.length := by simp [rv]
theorem rv_get (L : List Nat) (i p : Nat) (h : p < L.length) : (rv L i).getD p 0 = if p < i ∨ L.length - i ≤ p then L.getD (L.length - 1 - p) 0 else L.getD p 0 := by
  rw [List.getD_eq_getElem?_getD, List.getElem?_eq_getElem (by rw [rv_len]; exact h)]
  simp [rv]
theorem ext_getD {A B : List Nat} (hl : A.length = B.length) (h : ∀ p, p < A.length → A.getD p 0 = B.getD p 0) : A = B := by
  refine List.ext_getElem hl fun p h1 h2 => ?_
  have := h p h1
  rw [List.getD_eq_getElem?_getD, List.getD_eq_getElem?_getD, List.getElem?_eq_getElem h1, List.getElem?_eq_getElem h2] at this
  exact this
theorem getD_set (L : List Nat) (i p x : Nat) (h : p < L.length) : (L.set i x).getD p 0 = if i = p then x else L.getD p 0 := by
  rw [List.getD_eq_getElem?_getD, List.getElem?_set, List.getD_eq_getElem?_getD]
  split
  · rename_i e; subst e; rw [if_pos h]; rfl
  · rfl
theorem rv_zero (L : List Nat) : rv L 0 = L := by
  refine ext_getD (rv_len L 0) fun p h => ?_
  rw [rv_len] at h
  rw [rv_get L 0 p h, if_neg (by omega)]
theorem rv_step (L : List Nat) (i : Nat) (h : i < L.length - 1 - i) : ((rv L i).set i (L.getD (L.length - 1 - i) 0)).set (L.length - 1 - i) (L.getD i 0) = rv L (i + 1) := by
  refine ext_getD (by rw [List.length_set, List.length_set, rv_len, rv_len]) fun p hp => ?_
  rw [List.length_set, List.length_set, rv_len] at hp
  rw [getD_set _ _ _ _ (by rw [List.length_set, rv_len]; exact hp), getD_set _ _ _ _ (by rw [rv_len]; exact hp), rv_get L i p hp, rv_get L (i + 1) p hp]
  by_cases h1 : L.length - 1 - i = p
  · rw [if_pos h1, if_pos (by omega)]; congr 1; omega
  · rw [if_neg h1]
    by_cases h2 : i = p
    · rw [if_pos h2, if_pos (by omega)]; congr 1; omega
    · rw [if_neg h2]
      by_cases h3 : p < i ∨ L.length - i ≤ p
      · rw [if_pos h3, if_pos (by omega)]
      · rw [if_neg h3, if_neg (by omega)]
theorem rv_end (L : List Nat) (i : Nat) (h : L.length - 1 - i ≤ i) : rv L i = L.reverse := by
  refine ext_getD (by rw [rv_len, List.length_reverse]) fun p hp => ?_
  rw [rv_len] at hp
  rw [rv_get L i p hp]
  have e : L.reverse.getD p 0 = L.getD (L.length - 1 - p) 0 := by
    rw [List.getD_eq_getElem?_getD, List.getElem?_reverse hp, ← List.getD_eq_getElem?_getD]
  rw [e]
  by_cases h3 : p < i ∨ L.length - i ≤ p
  · rw [if_pos h3]
  · rw [if_neg h3]; congr 1; omega
/-- one digit -/
theorem dig_in {base c N0 n N R j : Nat} (hb : 2 ≤ base) (hN : N = N0 / base ^ n) (hj : j < c) (hR : R = N % base ^ c) :
    R / base ^ j % base = N0 / base ^ (n + j) % base ∧ (R / base ^ j ≠ 0 ∨ N / base ^ c ≠ 0 → 0 < N0 / base ^ (n + j)) := by
  have h := dig_round hb hN (Nat.le_of_lt hj) hR
  have hp : 0 < base ^ (c - j) := Nat.pow_pos (by omega)
  have e : base ^ (c - j) = base * base ^ (c - j - 1) := by rw [Nat.mul_comm, ← Nat.pow_succ]; congr 1; omega
  constructor
  · rw [← h, e, Nat.mul_left_comm, Nat.mul_add_mod]
  · intro h2
    rw [← h]
    clear h hR hN
    generalize R / base ^ j = r at *
    generalize N / base ^ c = V at *
    rcases h2 with h2 | h2
    · omega
    · have : 0 < V * base ^ (c - j) := Nat.mul_pos (by omega) hp
      omega
/-- the last one -/
theorem dig_out {base c N0 n N R j : Nat} (hb : 2 ≤ base) (hN : N = N0 / base ^ n) (hj : j ≤ c) (hR : R = N % base ^ c) (h : j = c ∨ (R / base ^ j = 0 ∧ N / base ^ c = 0)) : N0 / base ^ (n + j) = N / base ^ c := by
  have h1 := dig_round hb hN hj hR
  rw [← h1]
  rcases h with h | ⟨h2, h3⟩
  · subst h
    rw [Nat.sub_self, Nat.pow_zero, Nat.mul_one, hR, Nat.div_eq_of_lt (Nat.mod_lt _ (Nat.pow_pos (by omega)))]; rfl
  · rw [h2, h3, Nat.zero_mul]
theorem pos_lt {base N0 k q : Nat} (hb : 2 ≤ base) (h : 0 < N0 / base ^ k) (hN : N0 < bigOf q) : k < 64 * q := by
  apply Nat.lt_of_not_le
  intro hle
  have h1 : 2 ^ (64 * q) ≤ base ^ k := Nat.le_trans (Nat.pow_le_pow_left hb _) (Nat.pow_le_pow_right (by omega) hle)
  rw [Nat.pow_mul] at h1
  have h2 : N0 < base ^ k := Nat.lt_of_lt_of_le hN h1
  rw [Nat.div_eq_of_lt h2] at h
  exact absurd h (Nat.lt_irrefl 0)

theorem c44_at : T1.code 44 = some c44 := by kernel_rfl
def wy (n : Nat) : V := .int .u8 n
theorem wy_one (n : Nat) : (wy n).one = true := rfl
theorem wd_wy (n m : Nat) : wd n ≠ wy m := by simp [wd, wy]

theorem Acc.keep {f : Nat → V} {ty : Nat} {σ0 σ σ' : H} {v : V} {D : List Nat} (h : Acc f ty σ0 σ v D) (k : Keep σ σ') : Acc f ty σ0 σ' v D := by
  rcases h with h | ⟨x, ver, minv, ex, rfl, hg, h1, h2⟩
  · exact .inl h
  · exact .inr ⟨x, ver, minv, ex, rfl, by rw [k.get h2]; exact hg, h1, Nat.lt_of_lt_of_le h2 k.1⟩
theorem visib_mem {c : List V} {ver minv : Nat} {ex : List Nat} {v : Nat} {c' : List V} (h : visib c ver minv ex v = some c') : ∀ z ∈ c', z ∈ c := by
  unfold visib at h
  intro z hz
  split at h
  · obtain rfl := Option.some.inj h; exact hz
  · split at h
    · split at h
      · obtain rfl := Option.some.inj h; exact List.mem_of_mem_take hz
      · cases h
    · cases h
/-- a write to a block of other things -/
theorem UG.put_other {f g : Nat → V} (hfg : ∀ n m, f n ≠ g m) {σ : H} {a : V} {L : List Nat} {x : Pos} {ty : Nat} {D : List Nat} {ver minv : Nat} {fz : Option Nat} {ex : List Nat} {b : Blk} (h : UG f σ a L) (hL : L ≠ []) (hx : σ.get x = some (.cells ty (D.map g) ver minv fz ex)) : UG f (σ.put x b) a L := by
  obtain ⟨h1, h2, h3⟩ := h
  refine ⟨h1, h2, ?_⟩
  cases a with
  | sl y v o len cap es =>
    simp only [slCells, blkCells] at h3 ⊢
    by_cases e : y = x
    · subst e
      exfalso
      rw [hx] at h3
      simp only at h3
      split at h3
      · rename_i c hv
        obtain ⟨_, l2⟩ := cut_some h3
        obtain ⟨n, L', rfl⟩ := List.exists_cons_of_ne_nil hL
        have m1 : f n ∈ (c.drop o).take ((n :: L').length * 1) := by rw [← l2]; simp
        have m2 := visib_mem hv _ (List.mem_of_mem_drop (List.mem_of_mem_take m1))
        obtain ⟨m, _, hm⟩ := List.mem_map.1 m2
        exact hfg n m hm.symm
      · cases h3
    · rw [H.get_put, if_neg e]; exact h3
  | nils => exact h3
  | ros => exact h3
  | _ => simp [okSl] at h1
theorem Acc.app2 {f : Nat → V} (hf : ∀ n, (f n).one = true) {ty eb : Nat} {σ0 σ : H} {v : V} {D : List Nat} {w : Nat} (hw : WfH σ) (h : Acc f ty σ0 σ v D) (hK : Keep σ0 σ) (hb : (D.length + 1) * eb ≤ mostBytes) (hb2 : D.length + 1 ≤ mostBytes) :
    ∃ v' σ', appV (σ.new (.cells ty [f w] 0 0 (some 0) [])) ty 1 eb v (.sl σ.nx 0 0 1 (some 1) 0) = .ok v' σ' ∧ Acc f ty σ0 σ' v' (D ++ [w]) ∧ Keep σ0 σ' ∧ ∀ (g : Nat → V) a L, (∀ n m, g n ≠ f m) → L ≠ [] → Go.Proofs.YtahgfodccndcjaaGreatEng.UG g σ a L → Go.Proofs.YtahgfodccndcjaaGreatEng.UG g σ' a L := by
  have hy : Go.Proofs.YtahgfodccndcjaaGreatEng.UG f (σ.new (.cells ty [f w] 0 0 (some 0) [])) (.sl σ.nx 0 0 1 (some 1) 0) [w] := UG.one (by rw [H.get_new, if_pos rfl])
  have hK0 := Keep.new σ (.cells ty [f w] 0 0 (some 0) [])
  have hK1 := hK.trans hK0
  rcases h with ⟨rfl, rfl⟩ | ⟨x, ver, minv, ex, rfl, hg, h1, h2⟩
  · refine ⟨_, _, app_nil hy (by simp) (by simpa using hb) (by simpa using hb2), ?_, hK1.trans (Keep.new _ _), fun g a L _ _ hu => hu.keep hw (hK0.trans (Keep.new _ _))⟩
    refine .inr ⟨_, 0, 0, [], rfl, by rw [H.get_new, if_pos rfl]; rfl, hK1.1, by simp only [nx_new]; omega⟩
  · have hx : (σ.new (.cells ty [f w] 0 0 (some 0) [])).get x = some (.cells ty (D.map f) ver minv (some 0) ex) := by
      rw [H.get_new, if_neg (fun e => by rw [e] at h2; omega)]; exact hg
    refine ⟨_, _, app_end hf hy hx hb hb2, ?_, hK1.put h1 (by rw [nx_new]; omega) _, fun g a L hne hL hu => (hu.keep hw hK0).put_other hne hL hx⟩
    refine .inr ⟨x, ver + 1, minv, _, by simp, by rw [H.get_put, if_pos rfl], h1, by rw [nx_put, nx_new]; omega⟩

theorem call_nx0 {T : Tab} {f : Nat} {c : CFun} {lf m : Nat} {args : List V} {σ : H} {Post : H → Prop} (hi : T.intr f = none) (hc : T.code f = some c) (hl : args.length ≤ c.n) (hr : c.res = [])
    (h : ∀ cf, cf = call T lf m → Nx (exec cf lf c.n c.body (bindArgs args .h .lf) σ []) fun _ σ' => Post σ') : ∃ σ', call T lf (m + 1) f args σ = .ret (.tup []) σ' ∧ Post σ' := by
  obtain ⟨τ, σ', h1, h2⟩ := (h _ rfl).elim
  refine ⟨σ', ?_, h2⟩
  rw [call_def hi hc lf m args σ hl, h1, hr]
  rfl
theorem st_wy {σ : H} {x : Pos} {ver minv k n : Nat} {L : List Nat} {ex : List Nat} (hg : σ.get x = some (.cells 5 (L.map wy) ver minv (some 0) ex)) (hk : k < L.length) :
    stV σ 1 (.ptr x ver k) (.int .u8 (n : Nat)) = .ok undefV (σ.put x (.cells 5 ((L.set k n).map wy) ver ver (some 0) ex)) := by
  have h := st_at (k := .u8) (n := (n : Nat)) (o := k) hg (by simpa using hk)
  rw [h, List.map_set]; rfl

/-- slices.Reverse of bytes -/
theorem rev_call {lf m : Nat} {σ : H} {x : Pos} {ver minv : Nat} {ex : List Nat} {D : List Nat} (hg : σ.get x = some (.cells 5 (D.map wy) ver minv (some 0) ex)) (hlf : D.length < lf) (hl : D.length < 4611686018427387904) :
    ∃ σ', call T1 lf (m + 1) 44 [.sl x ver 0 D.length none 1] σ = .ret (.tup []) σ' ∧ (∃ minv', σ'.get x = some (.cells 5 (D.reverse.map wy) ver minv' (some 0) ex)) ∧ (∀ y, y ≠ x → σ'.m.get y = σ.m.get y) ∧ σ'.nx = σ.nx := by
  refine call_nx0 rfl c44_at (by simp [c44]) rfl fun cf hcf => ?_
  clear hcf
  generalize hτ : bindArgs [.sl x ver 0 D.length none 1] .h .lf = τ0
  have h0 : τ0.get (pk 0) = some (.sl x ver 0 D.length none 1) := by rw [← hτ]; rfl
  clear hτ
  have w1 : IntKind.i64.wrap ((D.length : Int) - 1) = (D.length : Int) - 1 := wrap_i64 (by omega)
  simp only [c44, QU, oP, oR, oA, oH, oPn, oRn, oAn, oHn, bi, ld, ki, kt, kf, s_ops_nil, s_ops_cons, s_ops_nx, s_ops_pn, s_seq, s_seq_nx, s_seq_ex, s_seq_rt, s_skip, s_ret, s_exit, s_reg, s_cond, s_cond_t, s_cond_f, s_blk, s_blk_nx, s_blk_rt, s_blk_ex, s_put, s_P, s_R, s_A, s_A_some, s_C_ret, s_C_pan, s_H, s_H_ok, s_H_call, s_H_pan, s_gd, s_gd_bool, s_gd_undef, e_t, e_k, e_mv, e_pick, e_pick_b, e_bin, e_add_i64, e_add_i32, e_sub_i64, e_sub_u8, e_mul_i64, e_addU, e_mulU, e_addU32, e_mulU32, e_eql, e_neq, e_lss, e_leq, e_gtr, e_geq, e_str_eql, e_str_neq, e_iaddr, e_iaddr_int, e_lens, e_ld, e_extract, e_ex0, e_ex1, e_ex2, e_lenS, e_lenS_str, e_cii, e_cii_int, e_slsl_hm, e_sl2, e_slsl_h, e_sl1, e_slis, e_evL_nil, e_evL_cons, e_cons, e_call, e_callk, e_app, e_appk, e_store, e_stk, e_next, e_nextk, e_range, e_rangek, e_bs1, e_bs1i, e_bs0, e_mksl, e_mkslk, e_AK_sl, e_AK_it, e_AK_ptr, e_not, e_notb, e_xori, e_idxs, s_Hn, s_Hnk, s_Nx, s_Rt, s_NR_nx, s_NR_rt, s_NXT_nx, s_NXT_ex, s_NXT_rt, e_lenV_sl, e_lenV_nils, get_pk, k_bind, true_and, and_true, if_true, if_false, Bool.true_eq, beq_self_eq_true, reduceIte, Bool.false_eq_true, reduceCtorEq, bne_self_eq_false, Nat.reduceAdd, Nat.reduceLeDiff, Nat.reduceEqDiff, Nat.reduceSub, Nat.reduceBEq, Int.reduceBEq, Int.reduceNeg, Int.reduceLT, Int.reduceLE, Nat.succ_ne_self, Bool.not_true, Bool.not_false, Bool.true_beq, Bool.false_beq, decide_true, decide_false, exists_eq_left', Option.some.injEq, h0, w1]
  refine loop_rule_x (fun k τ σ' => ∃ i minv', i ≤ D.length ∧ k = D.length - i ∧ σ'.get x = some (.cells 5 ((rv D i).map wy) ver minv' (some 0) ex) ∧ (∀ y, y ≠ x → σ'.m.get y = σ.m.get y) ∧ σ'.nx = σ.nx ∧
      τ.get (pk 0) = some (.sl x ver 0 D.length none 1) ∧ τ.get (pk 2) = some (.int .i64 i) ∧ τ.get (pk 3) = some (.int .i64 ((D.length : Int) - 1 - i)))
    _ ?_ (k := D.length) hlf ?_
  · rintro k τ σ' ⟨i, minv', hi, rfl, hg', hy, hnx, g0, g2, g3⟩
    by_cases hlt : i < D.length - 1 - i
    · have ej : ((D.length : Int) - 1 - i) = ((D.length - 1 - i : Nat) : Int) := by omega
      rw [ej] at g3
      have d1 := lt_true hlt
      have el : ∀ j, j < D.length → elemAt 1 (.sl x ver 0 D.length none 1) (j : Nat) = some (.ptr x ver j) := fun j hj => by
        simp only [elemAt]; rw [if_pos ⟨Int.natCast_nonneg _, by omega⟩]; simp
      have e1 := el i (by omega)
      have e2 := el (D.length - 1 - i) (by omega)
      have ldj : ∀ j, i ≤ j → j < D.length - i → ldv σ' (.ptr x ver j) = some (.int .u8 (D.getD j 0 : Nat)) := fun j h1 h2 => by
        have h3 := rv_get D i j (by omega)
        rw [if_neg (by omega)] at h3
        simp only [ldv, blkCells, hg', visib, if_true]
        rw [List.getElem?_map, List.getElem?_eq_getElem (by rw [rv_len]; omega)]
        rw [List.getD_eq_getElem?_getD, List.getElem?_eq_getElem (by rw [rv_len]; omega)] at h3
        rw [← h3]; rfl
      have l1 := ldj i (Nat.le_refl _) (by omega)
      have l2 := ldj (D.length - 1 - i) (by omega) (by omega)
      have st1 := st_wy (k := i) (n := D.getD (D.length - 1 - i) 0) hg' (by rw [rv_len]; omega)
      generalize hσ2 : σ'.put x (.cells 5 (((rv D i).set i (D.getD (D.length - 1 - i) 0)).map wy) ver ver (some 0) ex) = σ2 at st1
      have hg2 : σ2.get x = some (.cells 5 (((rv D i).set i (D.getD (D.length - 1 - i) 0)).map wy) ver ver (some 0) ex) := by rw [← hσ2, H.get_put, if_pos rfl]
      have st2 := st_wy (k := D.length - 1 - i) (n := D.getD i 0) hg2 (by rw [List.length_set, rv_len]; omega)
      rw [rv_step D i hlt] at st2
      have wi : IntKind.i64.wrap ((i : Int) + 1) = ((i + 1 : Nat) : Int) := wrap_add1 (by omega)
      have wj : IntKind.i64.wrap (((D.length - 1 - i : Nat) : Int) - 1) = (D.length : Int) - 1 - (i + 1 : Nat) := by rw [wrap_i64 (by omega)]; omega
      simp only [b44_0, QU, oP, oR, oA, oH, oPn, oRn, oAn, oHn, bi, ld, ki, kt, kf, s_ops_nil, s_ops_cons, s_ops_nx, s_ops_pn, s_seq, s_seq_nx, s_seq_ex, s_seq_rt, s_skip, s_ret, s_exit, s_reg, s_cond, s_cond_t, s_cond_f, s_blk, s_blk_nx, s_blk_rt, s_blk_ex, s_put, s_P, s_R, s_A, s_A_some, s_C_ret, s_C_pan, s_H, s_H_ok, s_H_call, s_H_pan, s_gd, s_gd_bool, s_gd_undef, e_t, e_k, e_mv, e_pick, e_pick_b, e_bin, e_add_i64, e_add_i32, e_sub_i64, e_sub_u8, e_mul_i64, e_addU, e_mulU, e_addU32, e_mulU32, e_eql, e_neq, e_lss, e_leq, e_gtr, e_geq, e_str_eql, e_str_neq, e_iaddr, e_iaddr_int, e_lens, e_ld, e_extract, e_ex0, e_ex1, e_ex2, e_lenS, e_lenS_str, e_cii, e_cii_int, e_slsl_hm, e_sl2, e_slsl_h, e_sl1, e_slis, e_evL_nil, e_evL_cons, e_cons, e_call, e_callk, e_app, e_appk, e_store, e_stk, e_next, e_nextk, e_range, e_rangek, e_bs1, e_bs1i, e_bs0, e_mksl, e_mkslk, e_AK_sl, e_AK_it, e_AK_ptr, e_not, e_notb, e_xori, e_idxs, s_Hn, s_Hnk, s_Nx, s_Rt, s_NR_nx, s_NR_rt, s_NXT_nx, s_NXT_ex, s_NXT_rt, e_lenV_sl, e_lenV_nils, get_pk, k_bind, true_and, and_true, if_true, if_false, Bool.true_eq, beq_self_eq_true, reduceIte, Bool.false_eq_true, reduceCtorEq, bne_self_eq_false, Nat.reduceAdd, Nat.reduceLeDiff, Nat.reduceEqDiff, Nat.reduceSub, Nat.reduceBEq, Int.reduceBEq, Int.reduceNeg, Int.reduceLT, Int.reduceLE, Nat.succ_ne_self, Bool.not_true, Bool.not_false, Bool.true_beq, Bool.false_beq, decide_true, decide_false, exists_eq_left', Option.some.injEq, w_drw, w_nil, w_0, w_3, w_0nx, w_1s, w_1nx, w_1lk, w_1ls, w_2, w_2nx, g0, g2, g3, d1, e1, e2, l1, l2, st1, st2, wi, wj, List.all_nil]
      refine ⟨D.length - (i + 1), by omega, i + 1, ver, by omega, rfl, by rw [H.get_put, if_pos rfl], fun y hyx => ?_, ?_, rfl, rfl⟩
      · rw [H.m_put, if_neg hyx, ← hσ2, H.m_put, if_neg hyx]; exact hy y hyx
      · rw [nx_put, ← hσ2, nx_put]; exact hnx
    · have d1 : decide ((i : Int) < (D.length : Int) - 1 - (i : Int)) = false := by simp; omega
      simp only [b44_0, QU, oP, oR, oA, oH, oPn, oRn, oAn, oHn, bi, ld, ki, kt, kf, s_ops_nil, s_ops_cons, s_ops_nx, s_ops_pn, s_seq, s_seq_nx, s_seq_ex, s_seq_rt, s_skip, s_ret, s_exit, s_reg, s_cond, s_cond_t, s_cond_f, s_blk, s_blk_nx, s_blk_rt, s_blk_ex, s_put, s_P, s_R, s_A, s_A_some, s_C_ret, s_C_pan, s_H, s_H_ok, s_H_call, s_H_pan, s_gd, s_gd_bool, s_gd_undef, e_t, e_k, e_mv, e_pick, e_pick_b, e_bin, e_add_i64, e_add_i32, e_sub_i64, e_sub_u8, e_mul_i64, e_addU, e_mulU, e_addU32, e_mulU32, e_eql, e_neq, e_lss, e_leq, e_gtr, e_geq, e_str_eql, e_str_neq, e_iaddr, e_iaddr_int, e_lens, e_ld, e_extract, e_ex0, e_ex1, e_ex2, e_lenS, e_lenS_str, e_cii, e_cii_int, e_slsl_hm, e_sl2, e_slsl_h, e_sl1, e_slis, e_evL_nil, e_evL_cons, e_cons, e_call, e_callk, e_app, e_appk, e_store, e_stk, e_next, e_nextk, e_range, e_rangek, e_bs1, e_bs1i, e_bs0, e_mksl, e_mkslk, e_AK_sl, e_AK_it, e_AK_ptr, e_not, e_notb, e_xori, e_idxs, s_Hn, s_Hnk, s_Nx, s_Rt, s_NR_nx, s_NR_rt, s_NXT_nx, s_NXT_ex, s_NXT_rt, e_lenV_sl, e_lenV_nils, get_pk, k_bind, true_and, and_true, if_true, if_false, Bool.true_eq, beq_self_eq_true, reduceIte, Bool.false_eq_true, reduceCtorEq, bne_self_eq_false, Nat.reduceAdd, Nat.reduceLeDiff, Nat.reduceEqDiff, Nat.reduceSub, Nat.reduceBEq, Int.reduceBEq, Int.reduceNeg, Int.reduceLT, Int.reduceLE, Nat.succ_ne_self, Bool.not_true, Bool.not_false, Bool.true_beq, Bool.false_beq, decide_true, decide_false, exists_eq_left', Option.some.injEq, g2, g3, d1]
      refine ⟨⟨minv', ?_⟩, hy, hnx⟩
      rw [hg', rv_end D i (by omega)]
  · exact ⟨0, minv, Nat.zero_le _, rfl, by rw [rv_zero]; exact hg, fun _ _ => rfl, rfl, by simp only [QU, oP, oR, oA, oH, oPn, oRn, oAn, oHn, bi, ld, ki, kt, kf, s_ops_nil, s_ops_cons, s_ops_nx, s_ops_pn, s_seq, s_seq_nx, s_seq_ex, s_seq_rt, s_skip, s_ret, s_exit, s_reg, s_cond, s_cond_t, s_cond_f, s_blk, s_blk_nx, s_blk_rt, s_blk_ex, s_put, s_P, s_R, s_A, s_A_some, s_C_ret, s_C_pan, s_H, s_H_ok, s_H_call, s_H_pan, s_gd, s_gd_bool, s_gd_undef, e_t, e_k, e_mv, e_pick, e_pick_b, e_bin, e_add_i64, e_add_i32, e_sub_i64, e_sub_u8, e_mul_i64, e_addU, e_mulU, e_addU32, e_mulU32, e_eql, e_neq, e_lss, e_leq, e_gtr, e_geq, e_str_eql, e_str_neq, e_iaddr, e_iaddr_int, e_lens, e_ld, e_extract, e_ex0, e_ex1, e_ex2, e_lenS, e_lenS_str, e_cii, e_cii_int, e_slsl_hm, e_sl2, e_slsl_h, e_sl1, e_slis, e_evL_nil, e_evL_cons, e_cons, e_call, e_callk, e_app, e_appk, e_store, e_stk, e_next, e_nextk, e_range, e_rangek, e_bs1, e_bs1i, e_bs0, e_mksl, e_mkslk, e_AK_sl, e_AK_it, e_AK_ptr, e_not, e_notb, e_xori, e_idxs, s_Hn, s_Hnk, s_Nx, s_Rt, s_NR_nx, s_NR_rt, s_NXT_nx, s_NXT_ex, s_NXT_rt, e_lenV_sl, e_lenV_nils, get_pk, k_bind, true_and, and_true, if_true, if_false, Bool.true_eq, beq_self_eq_true, reduceIte, Bool.false_eq_true, reduceCtorEq, bne_self_eq_false, Nat.reduceAdd, Nat.reduceLeDiff, Nat.reduceEqDiff, Nat.reduceSub, Nat.reduceBEq, Int.reduceBEq, Int.reduceNeg, Int.reduceLT, Int.reduceLE, Nat.succ_ne_self, Bool.not_true, Bool.not_false, Bool.true_beq, Bool.false_beq, decide_true, decide_false, exists_eq_left', Option.some.injEq, h0], by simp only [QU, oP, oR, oA, oH, oPn, oRn, oAn, oHn, bi, ld, ki, kt, kf, s_ops_nil, s_ops_cons, s_ops_nx, s_ops_pn, s_seq, s_seq_nx, s_seq_ex, s_seq_rt, s_skip, s_ret, s_exit, s_reg, s_cond, s_cond_t, s_cond_f, s_blk, s_blk_nx, s_blk_rt, s_blk_ex, s_put, s_P, s_R, s_A, s_A_some, s_C_ret, s_C_pan, s_H, s_H_ok, s_H_call, s_H_pan, s_gd, s_gd_bool, s_gd_undef, e_t, e_k, e_mv, e_pick, e_pick_b, e_bin, e_add_i64, e_add_i32, e_sub_i64, e_sub_u8, e_mul_i64, e_addU, e_mulU, e_addU32, e_mulU32, e_eql, e_neq, e_lss, e_leq, e_gtr, e_geq, e_str_eql, e_str_neq, e_iaddr, e_iaddr_int, e_lens, e_ld, e_extract, e_ex0, e_ex1, e_ex2, e_lenS, e_lenS_str, e_cii, e_cii_int, e_slsl_hm, e_sl2, e_slsl_h, e_sl1, e_slis, e_evL_nil, e_evL_cons, e_cons, e_call, e_callk, e_app, e_appk, e_store, e_stk, e_next, e_nextk, e_range, e_rangek, e_bs1, e_bs1i, e_bs0, e_mksl, e_mkslk, e_AK_sl, e_AK_it, e_AK_ptr, e_not, e_notb, e_xori, e_idxs, s_Hn, s_Hnk, s_Nx, s_Rt, s_NR_nx, s_NR_rt, s_NXT_nx, s_NXT_ex, s_NXT_rt, e_lenV_sl, e_lenV_nils, get_pk, k_bind, true_and, and_true, if_true, if_false, Bool.true_eq, beq_self_eq_true, reduceIte, Bool.false_eq_true, reduceCtorEq, bne_self_eq_false, Nat.reduceAdd, Nat.reduceLeDiff, Nat.reduceEqDiff, Nat.reduceSub, Nat.reduceBEq, Int.reduceBEq, Int.reduceNeg, Int.reduceLT, Int.reduceLE, Nat.succ_ne_self, Bool.not_true, Bool.not_false, Bool.true_beq, Bool.false_beq, decide_true, decide_false, exists_eq_left', Option.some.injEq]; rfl, by simp only [QU, oP, oR, oA, oH, oPn, oRn, oAn, oHn, bi, ld, ki, kt, kf, s_ops_nil, s_ops_cons, s_ops_nx, s_ops_pn, s_seq, s_seq_nx, s_seq_ex, s_seq_rt, s_skip, s_ret, s_exit, s_reg, s_cond, s_cond_t, s_cond_f, s_blk, s_blk_nx, s_blk_rt, s_blk_ex, s_put, s_P, s_R, s_A, s_A_some, s_C_ret, s_C_pan, s_H, s_H_ok, s_H_call, s_H_pan, s_gd, s_gd_bool, s_gd_undef, e_t, e_k, e_mv, e_pick, e_pick_b, e_bin, e_add_i64, e_add_i32, e_sub_i64, e_sub_u8, e_mul_i64, e_addU, e_mulU, e_addU32, e_mulU32, e_eql, e_neq, e_lss, e_leq, e_gtr, e_geq, e_str_eql, e_str_neq, e_iaddr, e_iaddr_int, e_lens, e_ld, e_extract, e_ex0, e_ex1, e_ex2, e_lenS, e_lenS_str, e_cii, e_cii_int, e_slsl_hm, e_sl2, e_slsl_h, e_sl1, e_slis, e_evL_nil, e_evL_cons, e_cons, e_call, e_callk, e_app, e_appk, e_store, e_stk, e_next, e_nextk, e_range, e_rangek, e_bs1, e_bs1i, e_bs0, e_mksl, e_mkslk, e_AK_sl, e_AK_it, e_AK_ptr, e_not, e_notb, e_xori, e_idxs, s_Hn, s_Hnk, s_Nx, s_Rt, s_NR_nx, s_NR_rt, s_NXT_nx, s_NXT_ex, s_NXT_rt, e_lenV_sl, e_lenV_nils, get_pk, k_bind, true_and, and_true, if_true, if_false, Bool.true_eq, beq_self_eq_true, reduceIte, Bool.false_eq_true, reduceCtorEq, bne_self_eq_false, Nat.reduceAdd, Nat.reduceLeDiff, Nat.reduceEqDiff, Nat.reduceSub, Nat.reduceBEq, Int.reduceBEq, Int.reduceNeg, Int.reduceLT, Int.reduceLE, Nat.succ_ne_self, Bool.not_true, Bool.not_false, Bool.true_beq, Bool.false_beq, decide_true, decide_false, exists_eq_left', Option.some.injEq]; simp⟩
end Go.Proofs.YtahgfodccndcjaaGreatEng
