/- Symbolic runs: ground. (Numbers of seat r3.) -/
/- Symbolic runs: many, allSorts. (Numbers of seat r3.) -/
/- Symbolic runs: names, funNames. Printed by tools/names.py. (Numbers of seat r3.) -/
/- Symbolic runs: names, funNames, twice, open. (Numbers of seat r3.) -/
/- Symbolic runs: open, CheckSig. (Numbers of seat r3.) -/
import Derived.Test.YtfgghbikbaopjaaGreatDoorY2
namespace Go.Proofs.YtfgghbikbaopjaaGreatDoorEng
open Go
set_option maxRecDepth 100000
set_option linter.unusedSimpArgs false

/-- What a run leaves that goes on, returns, or leaves by one exit. -/
def NRE (e : Nat) (r : R) (N T E : Tr V → H → Prop) : Prop := match r with
  | .nx τ σ d => d = [] ∧ N τ σ
  | .rt τ σ d => d = [] ∧ T τ σ
  | .ex i τ σ d => i = e ∧ d = [] ∧ E τ σ
  | _ => False
theorem s_NRE_nx (e : Nat) (τ : Tr V) (σ : H) (d : List Df) (N T E : Tr V → H → Prop) : NRE e (.nx τ σ d) N T E = (d = [] ∧ N τ σ) := rfl
theorem s_NRE_rt (e : Nat) (τ : Tr V) (σ : H) (d : List Df) (N T E : Tr V → H → Prop) : NRE e (.rt τ σ d) N T E = (d = [] ∧ T τ σ) := rfl
theorem s_NRE_ex (e i : Nat) (τ : Tr V) (σ : H) (d : List Df) (N T E : Tr V → H → Prop) : NRE e (.ex i τ σ d) N T E = (i = e ∧ d = [] ∧ E τ σ) := rfl
theorem NRE.elim {e : Nat} {r : R} {N T E : Tr V → H → Prop} (h : NRE e r N T E) : (∃ τ σ, r = .nx τ σ [] ∧ N τ σ) ∨ (∃ τ σ, r = .rt τ σ [] ∧ T τ σ) ∨ ∃ τ σ, r = .ex e τ σ [] ∧ E τ σ := by
  cases r with
  | nx τ σ d => obtain ⟨rfl, h⟩ := h; exact .inl ⟨τ, σ, rfl, h⟩
  | rt τ σ d => obtain ⟨rfl, h⟩ := h; exact .inr (.inl ⟨τ, σ, rfl, h⟩)
  | ex i τ σ d => obtain ⟨rfl, rfl, h⟩ := h; exact .inr (.inr ⟨τ, σ, rfl, h⟩)
  | bad => exact False.elim h
  | pn => exact False.elim h
theorem NRE_blk {e id : Nat} {r : R} {N N' T E E' : Tr V → H → Prop} (hid : e ≠ id) (h : NRE e r N T E) (hN : ∀ τ σ, N τ σ → N' τ σ) (hE : ∀ τ σ, E τ σ → E' τ σ) : NRE e (kBlk id r) N' T E' := by
  rcases h.elim with ⟨τ, σ, rfl, h1⟩ | ⟨τ, σ, rfl, h1⟩ | ⟨τ, σ, rfl, h1⟩
  · exact ⟨rfl, hN _ _ h1⟩
  · exact ⟨rfl, h1⟩
  · simp only [kBlk, if_neg hid]
    exact ⟨rfl, rfl, hE _ _ h1⟩
theorem range_rule_e {cf : CallF} {lf n l i nn k id id' e : Nat} {B : CC} {N : Nat} (J : Nat → Tr V → H → Prop) (X T E : Tr V → H → Prop)
    (he : e ≠ id) (hl : l + 1 ≤ n) (hi : i + 1 ≤ n) (hk : k + 1 ≤ n) (_d1 : ¬ i = l) (_d2 : ¬ nn = l) (d3 : ¬ nn = k) (d4 : ¬ nn = i)
    (hN : N < lf) (hN2 : N < 4611686018427387904)
    (step : ∀ j τ σ, j < N → J j τ σ → τ.get (pk i) = some (.int .i64 j) → τ.get (pk nn) = some (.int .i64 N) →
      NRE e (kBlk id' (exec cf lf n B (τ.set (pk l) (.bool true)) σ [])) (fun τ' σ' => τ'.get (pk i) = some (.int .i64 j) ∧ τ'.get (pk nn) = some (.int .i64 N) ∧
        J (j + 1) ((τ'.set (pk k) (.int .i64 (j + 1 : Nat))).set (pk i) (.int .i64 (j + 1 : Nat))) σ') T E)
    (fin : ∀ τ σ, J N τ σ → X (τ.set (pk l) (.bool false)) σ)
    {τ : Tr V} {σ : H} (h0 : J 0 τ σ) (gi : τ.get (pk i) = some (.int .i64 0)) (gn : τ.get (pk nn) = some (.int .i64 N)) :
    NRE e (kBlk id (exec cf lf n (.loop (rngB l i nn k id id' B)) τ σ [])) X T E := by
  rw [exec_loop]
  refine loop_ind (body := exec cf lf n (rngB l i nn k id id' B)) (fun kk τ σ' => ∃ j : Nat, j ≤ N ∧ kk = N - j ∧ τ.get (pk i) = some (.int .i64 j) ∧ τ.get (pk nn) = some (.int .i64 N) ∧ J j τ σ') (fun r => NRE e (kBlk id r) X T E) ?_ lf N τ σ hN ⟨0, Nat.zero_le _, rfl, gi, gn, h0⟩
  rintro kk τ σ' ⟨j, hj, rfl, g1, g2, hJ⟩
  by_cases hlt : j < N
  · have q1 : decide ((j : Int) < (N : Int)) = true := by simp; exact hlt
    have hw : IntKind.i64.wrap ((j : Int) + 1) = ((j + 1 : Nat) : Int) := wrap_add1 (by omega)
    have hs := step j τ σ' hlt hJ g1 g2
    have h1 : exec cf lf n (rngB l i nn k id id' B) τ σ' [] = kSeq cf lf n (.reg [oP (pk k) (bi .add (.t (pk i)) (ki 1)), oP (pk i) (.mv (.t (pk k)))]) (kBlk id' (exec cf lf n B (τ.set (pk l) (.bool true)) σ' [])) := by
      simp only [rngB, s_seq, s_reg, s_ops_cons, oP, s_P, bi, e_bin, e_t, g1, g2, e_lss, q1, s_put, hl, if_true, s_ops_nx, s_ops_nil, s_seq_nx, s_cond, get_pk, s_cond_t, s_skip, s_blk]
    rw [h1]
    rcases hs.elim with ⟨τ', σ'', e1, k1, k2, k3⟩ | ⟨τ', σ'', e1, k1⟩ | ⟨τ', σ'', e1, k1⟩
    · rw [e1]
      simp only [s_seq_nx, s_reg, s_ops_cons, oP, s_P, bi, e_bin, e_t, e_k, ki, k1, k2, e_add_i64, hw, s_put, hk, hi, if_true, s_ops_nx, s_ops_nil, e_mv, get_pk]
      refine ⟨trivial, N - (j + 1), by omega, j + 1, by omega, rfl, rfl, ?_, k3⟩
      rw [if_neg d4, if_neg d3]
    · rw [e1]
      exact ⟨rfl, k1⟩
    · rw [e1]
      simp only [s_seq_ex, kBlk, if_neg he]
      exact ⟨rfl, rfl, k1⟩
  · have q1 : decide ((j : Int) < (N : Int)) = false := by simp; omega
    have hjN : j = N := by omega
    subst hjN
    have h1 : exec cf lf n (rngB l i nn k id id' B) τ σ' [] = .ex id (τ.set (pk l) (.bool false)) σ' [] := by
      simp only [rngB, s_seq, s_reg, s_ops_cons, oP, s_P, bi, e_bin, e_t, g1, g2, e_lss, q1, s_put, hl, if_true, s_ops_nx, s_ops_nil, s_seq_nx, s_cond, get_pk, s_cond_f, s_exit, s_seq_ex]
    rw [h1]
    simp only [kBlk, if_true]
    exact ⟨rfl, fin τ σ' hJ⟩

def kMkfn (f : Nat) : Option (List V) → Option (List V) → Option V
  | some x, some y => some (.fn f x y)
  | _, _ => none
theorem e_mkfn (τ : Tr V) (f : Nat) (a b : List Arg) : POp.ev τ (.mkfn f a b) = kMkfn f (evL τ a) (evL τ b) := by
  simp only [POp.ev]
  cases evL τ a <;> cases evL τ b <;> rfl
theorem e_mkfk (f : Nat) (x y : List V) : kMkfn f (some x) (some y) = some (.fn f x y) := rfl

theorem c145_at : T1.code 145 = some c145 := by kernel_rfl
/-- what ground asks of a selector -/
theorem gsel_call {lf m : Nat} {σ : H} {o : Bool} {Q : Nat → Prop} {c : List V} {x : Se} {xb x1 x3 : Pos} {g : Sg} {a : V} {y : Pos} {L : List Bool} (hw : WfH σ) (hB : Book σ xb g) (hpos : 0 < g.ds.length) (hL : BL σ a y L) (hLl : L.length = g.ds.length) (hSh : Shp x.2) (hS : Ese.P o σ Q c x)
    (h1 : σ.get x1 = some (.cells 159 [.ptr xb 0 0] 0 0 (some 0) [])) (h3 : σ.get x3 = some (.cells 166 [a] 0 0 (some 0) [])) (hm : seSz x ≤ m) :
    ∃ b σ', call T1 lf (m + 2) 145 [.agg c, .ptr x1 0 0, .ptr x3 0 0] σ = .ret (.bool b) σ' ∧ Keep σ σ' := by
  have key : ∃ v σ', call T1 lf (m + 2) 145 [.agg c, .ptr x1 0 0, .ptr x3 0 0] σ = .ret v σ' ∧ (Keep σ σ' ∧ ∃ b, v = .bool b) := by
    refine call_rt1 (p := pk 4) rfl c145_at (by simp [c145]) rfl fun cf hcf => ?_
    generalize hτ : bindArgs [.agg c, .ptr x1 0 0, .ptr x3 0 0] .h .lf = τ0
    have g0 : τ0.get (pk 0) = some (.agg c) := by rw [← hτ]; rfl
    have g1 : τ0.get (pk 1) = some (.ptr x1 0 0) := by rw [← hτ]; rfl
    have g2 : τ0.get (pk 2) = some (.ptr x3 0 0) := by rw [← hτ]; rfl
    clear hτ
    obtain ⟨nm, s⟩ := x
    obtain ⟨d, rfl, hd⟩ := hS
    have hKa := Keep.new σ (.cells 42 (.str nm :: d) 0 0 (some 0) [])
    have ga := (Keep.refl (σ.new (.cells 42 (.str nm :: d) 0 0 (some 0) []))).at
    have hw1 := hKa.2.2 hw
    generalize hσ1 : σ.new (.cells 42 (.str nm :: d) 0 0 (some 0) []) = σ1 at *
    obtain ⟨q', e1, hq'⟩ := (At.var ga).fad (c := [.str nm]) (d := d) (j := 1) rfl
    have e1' : q' = .ptr σ.nx 0 1 := by simpa [fadV] using e1.symm
    subst e1'
    have l1 := hq'.ldg hd.len
    have t1 : ldv σ1 (.ptr x1 0 0) = some (.ptr xb 0 0) := ldk (hKa.get_some hw h1) rfl
    have t3 : ldv σ1 (.ptr x3 0 0) = some a := ldk (hKa.get_some hw h3) rfl
    simp only [seSz] at hm
    obtain ⟨b, σ2, k1, k2⟩ := grounded_call s.sz s (Nat.le_refl _) (lf := lf) (m := m) hw1 (hB.keep hw hKa) hpos (hL.keep hw hKa) hLl hSh (hd.up (hKa.up _)) (by omega)
    rw [← hcf] at k1
    simp only [c145, QA, Nat.reduceAdd, Nat.reduceLeDiff, Nat.reduceEqDiff, QZ, e_box, g0, g1, g2, hσ1, t1, t3, l1, k1]
    exact ⟨hKa.trans k2, _, rfl⟩
  obtain ⟨v, σ', h1, h2, b, rfl⟩ := key
  exact ⟨b, σ', h1, h2⟩
theorem c144_at : T1.code 144 = some (containsF 201) := by kernel_rfl
theorem c201_at : T1.code 201 = some (indexFF (fun n => lg n t14) 5) := by kernel_rfl
/-- ContainsFunc over selectors -/
theorem gsels_call {lf m : Nat} {σ : H} {o : Bool} {Q : Nat → Prop} {sl : V} {S0 : List Se} {xb x1 x3 : Pos} {g : Sg} {a : V} {y : Pos} {L : List Bool} (hw : WfH σ) (hB : Book σ xb g) (hpos : 0 < g.ds.length) (hL : BL σ a y L) (hLl : L.length = g.ds.length) (hSh : ∀ x ∈ S0, Shp x.2) (hS : SP Ese 42 o σ Q sl S0)
    (h1 : σ.get x1 = some (.cells 159 [.ptr xb 0 0] 0 0 (some 0) [])) (h3 : σ.get x3 = some (.cells 166 [a] 0 0 (some 0) [])) (hm : sum seSz S0 ≤ m) (hlf : sum seSz S0 < lf) (hBB : sum seSz S0 < BB) :
    ∃ b σ', call T1 lf (m + 4) 144 [sl, .fn 145 [] [.ptr x1 0 0, .ptr x3 0 0]] σ = .ret (.bool b) σ' ∧ Keep σ σ' := by
  have hlen := sum_len seSz S0
  obtain ⟨r, σ', k1, k2, b, rfl⟩ := contains_call (f := 144) (g := 201) (lf := lf) (m := m + 3) (σ := σ) (a := sl) (v := .fn 145 [] [.ptr x1 0 0, .ptr x3 0 0]) (Post := fun σ' => Keep σ σ') rfl c144_at (by
    refine indexf_call (f := 201) (N := S0.length) rfl c201_at hS.len (fun σ' i hK hi => ?_) (by omega) (by unfold BB at hBB; omega)
    obtain ⟨x, hx⟩ : ∃ x, S0[i]? = some x := ⟨_, List.getElem?_eq_getElem hi⟩
    have hsz := sum_mem (f := seSz) hx
    obtain ⟨q, c, q1, q2, q3⟩ := (hS.keep hK).elem hx
    obtain ⟨b, σ2, t1, t2⟩ := gsel_call (lf := lf) (m := m) (hK.2.2 hw) (hB.keep hw hK) hpos (hL.keep hw hK) hLl (hSh x (List.mem_of_getElem? hx)) q3 (hK.get_some hw h1) (hK.get_some hw h3) (by omega)
    refine ⟨q, .agg c, b, σ2, q1, fun τ hτ => ?_, t1, hK.trans t2⟩
    have lq := q2.ldg (Ese.len q3)
    simp only [QA, QZ, hτ, lq])
  exact ⟨b, σ', k1, k2⟩

/-- every sort of a selector has its parts -/
def AllShp (ds : List Da) : Prop := ∀ d ∈ ds, ∀ c ∈ d.2, ∀ s ∈ c.2, Shp s.2
/-- the state of ground -/
structure Gst (b σ : H) (xb x1 x3 y : Pos) (g : Sg) (L : List Bool) : Prop where
  keep : Keep b σ
  h1 : σ.get x1 = some (.cells 159 [.ptr xb 0 0] 0 0 (some 0) [])
  h3 : σ.get x3 = some (.cells 166 [.sl y 0 0 g.ds.length (some g.ds.length) 0] 0 0 (some 0) [])
  hy : σ.get y = some (.cells 4 (L.map V.bool) 0 0 (some 0) [])
  len : L.length = g.ds.length
  lo : b.nx.toNat ≤ y.toNat
  hi : y.toNat < σ.nx.toNat
theorem Gst.later {b σ σ' : H} {xb x1 x3 y : Pos} {g : Sg} {L : List Bool} (hwb : WfH b) (h : Gst b σ xb x1 x3 y g L) (k : Keep σ σ') : Gst b σ' xb x1 x3 y g L := by
  have hw := h.keep.2.2 hwb
  exact ⟨h.keep.trans k, k.get_some hw h.h1, k.get_some hw h.h3, k.get_some hw h.hy, h.len, h.lo, Nat.lt_of_lt_of_le h.hi k.1⟩
theorem Gst.put {b σ : H} {xb x1 x3 y : Pos} {g : Sg} {L : List Bool} (h : Gst b σ xb x1 x3 y g L) (i : Nat) : Gst b (σ.put y (.cells 4 ((L.set i true).map V.bool) 0 0 (some 0) [])) xb x1 x3 y g (L.set i true) := by
  have n1 : x1 ≠ y := by
    rintro rfl
    have := h.h1; rw [h.hy] at this; simp at this
  have n3 : x3 ≠ y := by
    rintro rfl
    have := h.h3; rw [h.hy] at this; simp at this
  exact ⟨h.keep.put h.lo h.hi _, by rw [H.get_put, if_neg n1]; exact h.h1, by rw [H.get_put, if_neg n3]; exact h.h3, by rw [H.get_put, if_pos rfl], by rw [List.length_set]; exact h.len, h.lo, h.hi⟩

def Wg1 : List Nat := [7, 33, 34, 35, 36, 37, 38, 39, 40, 41, 45]
/-- ground: the constructors of a datatype -/
theorem ground1 {lf m : Nat} {cf : CallF} (hcf : cf = call T1 lf (m + 4)) {b b' σ : H} {o : Bool} {Q : Nat → Prop} {a : V} {C : List Co} {xb x1 x3 y : Pos} {g : Sg} {L : List Bool} {i : Nat} (hwb : WfH b) (hG : Gst b b' xb x1 x3 y g L) (hK : Keep b' σ) (hB : Book b xb g) (hi : i < g.ds.length) (hA : SP Eco 36 o b Q a C) (hSh : ∀ c ∈ C, ∀ s ∈ c.2, Shp s.2)
    (hlf : sum coSz C < lf) (hBB : sum coSz C < BB) (hm : sum coSz C ≤ m) (_hf : L[i]? = some false)
    {T : Tr V → H → Prop} {τ : Tr V} (f1 : τ.get (pk 1) = some (.ptr x1 0 0)) (f3 : τ.get (pk 3) = some (.ptr x3 0 0)) (f4 : τ.get (pk 4) = some (.int .i64 i)) (f31 : τ.get (pk 31) = some a) (f32 : τ.get (pk 32) = some (.int .i64 C.length)) (f33 : τ.get (pk 33) = some (.int .i64 0)) :
    NRE 1 (kBlk 4 (exec cf lf 48 (.loop b80_1) τ σ [])) (fun τ' σ' => Keep b' σ' ∧ Fr Wg1 τ τ') T (fun τ' σ' => Gst b σ' xb x1 x3 y g (L.set i true) ∧ τ'.get (pk 1) = some (.ptr x1 0 0) ∧ τ'.get (pk 3) = some (.ptr x3 0 0)) := by
  have hlen := sum_len coSz C
  have hwb' := hG.keep.2.2 hwb
  refine range_rule_e (l := 34) (i := 33) (nn := 32) (k := 45) (id := 4) (id' := 5) (B := y80_1) (N := C.length)
    (fun j τ' σ' => Keep b' σ' ∧ Fr Wg1 τ τ') _ T _ (by decide) (by decide) (by decide) (by decide) (by decide) (by decide) (by decide) (by decide) (by omega) (by unfold BB at hBB; omega) ?_ ?_ ?_ f33 f32
  · rintro j τ' σ' hj ⟨hK, hF⟩ g33 g32
    have g1 := hF.get (by decide) f1
    have g3 := hF.get (by decide) f3
    have g4 := hF.get (by decide) f4
    have g31 := hF.get (by decide) f31
    obtain ⟨⟨nm, sels⟩, hs'⟩ : ∃ s', C[j]? = some s' := ⟨_, List.getElem?_eq_getElem hj⟩
    have hsz := sum_mem (f := coSz) hs'
    simp only [coSz] at hsz
    have hKb := hG.keep.trans hK
    obtain ⟨q, ce, q1, q2, a', rfl, q3⟩ := hA.elem hs'
    simp only at q3
    have lq := (q2.keep hwb hKb).ldg (n := 2) rfl
    have hw' := hKb.2.2 hwb
    obtain ⟨σ3, k1, k2, k3⟩ := var_new σ' 36 2 (zs := [.str [], .nils]) (c := [.str nm, a']) rfl rfl (by rw [List.all_cons, List.all_cons, q3.one]; rfl)
    have lb : ldv σ3 (.ptr σ'.nx 0 1) = some a' := ldk k3 rfl
    have hG3 := hG.later hwb (hK.trans k2)
    have hw3 := hG3.keep.2.2 hwb
    obtain ⟨bv, σ4, t1, t2⟩ := gsels_call (lf := lf) (m := m) (S0 := sels) hw3 (hB.keep hwb hG3.keep) (by omega) ⟨by rw [hG3.len], hG3.hy⟩ hG3.len (hSh _ (List.mem_of_getElem? hs')) (q3.keep hG3.keep) hG3.h1 hG3.h3 (by omega) (by omega) (by omega)
    rw [← hcf] at t1
    cases bv with
    | true =>
      simp only [y80_1, QA, Nat.reduceAdd, Nat.reduceLeDiff, Nat.reduceEqDiff, QZ, e_mkfn, e_mkfk, g1, g3, g31, g32, g33, q1, lq, k1, lb, t1, s_NRE_nx]
      refine ⟨hK.trans (k2.trans t2), ?_⟩
      repeat refine Fr.set ?_ (by decide)
      exact hF
    | false =>
      have hG4 := hG3.later hwb t2
      have l3 : ldv σ4 (.ptr x3 0 0) = some (.sl y 0 0 g.ds.length (some g.ds.length) 0) := ldk hG4.h3 rfl
      have o1 : elemAt 1 (.sl y 0 0 g.ds.length (some g.ds.length) 0) i = some (.ptr y 0 i) := by
        simp only [elemAt]; rw [if_pos ⟨Int.natCast_nonneg i, by omega⟩]; simp
      have st := st_one (σ := σ4) (x := y) (o := i) (v := .bool true) hG4.hy (by rw [List.length_map, hG4.len]; exact hi) rfl rfl
      rw [show (L.map V.bool).set i (.bool true) = (L.set i true).map V.bool by rw [List.map_set]] at st
      simp only [y80_1, QA, Nat.reduceAdd, Nat.reduceLeDiff, Nat.reduceEqDiff, QZ, e_mkfn, e_mkfk, g1, g3, g4, g31, g33, q1, lq, k1, lb, t1, l3, o1, st, s_NRE_ex]
      exact hG4.put i
  · rintro τ' σ' ⟨hK, hF⟩
    exact ⟨hK, hF.set (by decide)⟩
  · exact ⟨hK, Fr.refl _ _⟩

/-- ground: a round -/
theorem ground2 {lf m : Nat} {cf : CallF} (hcf : cf = call T1 lf (m + 4)) {b σ : H} {o : Bool} {Q : Nat → Prop} {d : V} {xb x1 x3 y : Pos} {g : Sg} {L : List Bool} (hwb : WfH b) (hG : Gst b σ xb x1 x3 y g L) (hB : Book b xb g) (hA : SP Eda 33 o b Q d g.ds) (hSh : AllShp g.ds)
    (hlf : sum daSz g.ds < lf) (hBB : sum daSz g.ds < BB) (hm : sum daSz g.ds ≤ m)
    {T : Tr V → H → Prop} {τ : Tr V} (f1 : τ.get (pk 1) = some (.ptr x1 0 0)) (f3 : τ.get (pk 3) = some (.ptr x3 0 0)) (f19 : τ.get (pk 19) = some d) (f20 : τ.get (pk 20) = some (.int .i64 g.ds.length)) (f21 : τ.get (pk 21) = some (.int .i64 0)) :
    NRE 1 (kBlk 2 (exec cf lf 48 (.loop b80_3) τ σ [])) (fun τ' σ' => Keep σ σ' ∧ τ'.get (pk 3) = some (.ptr x3 0 0)) T
      (fun τ' σ' => ∃ i, L[i]? = some false ∧ i < g.ds.length ∧ Gst b σ' xb x1 x3 y g (L.set i true) ∧ τ'.get (pk 1) = some (.ptr x1 0 0) ∧ τ'.get (pk 3) = some (.ptr x3 0 0)) := by
  have hlen := sum_len daSz g.ds
  have hwσ := hG.keep.2.2 hwb
  refine range_rule_e (l := 22) (i := 21) (nn := 20) (k := 46) (id := 2) (id' := 3) (B := y80_3) (N := g.ds.length)
    (fun j τ' σ' => Keep σ σ' ∧ τ'.get (pk 1) = some (.ptr x1 0 0) ∧ τ'.get (pk 3) = some (.ptr x3 0 0) ∧ τ'.get (pk 19) = some d) _ T _ (by decide) (by decide) (by decide) (by decide) (by decide) (by decide) (by decide) (by decide) (by omega) (by unfold BB at hBB; omega) ?_ ?_ ?_ f21 f20
  · rintro j τ' σ' hj ⟨hK, g1, g3, g19⟩ g21 g20
    obtain ⟨⟨nm, cons⟩, hs'⟩ : ∃ s', g.ds[j]? = some s' := ⟨_, List.getElem?_eq_getElem hj⟩
    have hsz := sum_mem (f := daSz) hs'
    simp only [daSz] at hsz
    have hKb := hG.keep.trans hK
    obtain ⟨q, ce, q1, q2, a', rfl, q3⟩ := hA.elem hs'
    simp only at q3
    have lq := (q2.keep hwb hKb).ldg (n := 2) rfl
    have hw' := hKb.2.2 hwb
    obtain ⟨σ3, k1, k2, k3⟩ := var_new σ' 33 2 (zs := [.str [], .nils]) (c := [.str nm, a']) rfl rfl (by rw [List.all_cons, List.all_cons, q3.one]; rfl)
    have lb : ldv σ3 (.ptr σ'.nx 0 1) = some a' := ldk k3 rfl
    have hG3 := hG.later hwb (hK.trans k2)
    have l3 : ldv σ3 (.ptr x3 0 0) = some (.sl y 0 0 g.ds.length (some g.ds.length) 0) := ldk hG3.h3 rfl
    obtain ⟨bv, hbv⟩ : ∃ bv, L[j]? = some bv := ⟨_, List.getElem?_eq_getElem (by rw [hG.len]; exact hj)⟩
    obtain ⟨r1, r2⟩ := (show BL σ3 (.sl y 0 0 g.ds.length (some g.ds.length) 0) y L from ⟨by rw [hG.len], hG3.hy⟩).elem hbv
    cases bv with
    | true =>
      simp only [y80_3, QA, Nat.reduceAdd, Nat.reduceLeDiff, Nat.reduceEqDiff, QZ, g1, g3, g19, g20, g21, q1, lq, k1, l3, r1, r2, s_NRE_nx]
      exact hK.trans k2
    | false =>
      simp only [y80_3, QA, Nat.reduceAdd, Nat.reduceLeDiff, Nat.reduceEqDiff, QZ, g3, g19, g21, q1, lq, k1, l3, r1, r2, lb, q3.len]
      refine NRE_blk (by decide) (ground1 (m := m) (i := j) (C := cons) hcf hwb hG (hK.trans k2) hB hj q3 (fun c hc s hs => hSh _ (List.mem_of_getElem? hs') c hc s hs) (by omega) (by omega) (by omega) hbv
        (by simp only [QA, Nat.reduceEqDiff, g1]) (by simp only [QA, Nat.reduceEqDiff, g3]) (by simp only [QA, Nat.reduceEqDiff]) (by simp only [QA, Nat.reduceEqDiff]) (by simp only [QA, Nat.reduceEqDiff]) (by simp only [QA, Nat.reduceEqDiff])) ?_ ?_
      · rintro τ2 σ5 ⟨hK5, hF⟩
        have r1 := hF.get (s := 1) (v := .ptr x1 0 0) (by decide) (by simp only [QA, Nat.reduceEqDiff, g1])
        have r3 := hF.get (s := 3) (v := .ptr x3 0 0) (by decide) (by simp only [QA, Nat.reduceEqDiff, g3])
        have r19 := hF.get (s := 19) (v := d) (by decide) (by simp only [QA, Nat.reduceEqDiff, g19])
        have r20 := hF.get (s := 20) (v := .int .i64 g.ds.length) (by decide) (by simp only [QA, Nat.reduceEqDiff, g20])
        have r21 := hF.get (s := 21) (v := .int .i64 j) (by decide) (by simp only [QA, Nat.reduceEqDiff, g21])
        exact ⟨r21, r20, hK5, by simp only [r1], by simp only [r3], by simp only [r19]⟩
      · rintro τ2 σ5 ⟨hG5, r1, r3⟩
        exact ⟨j, hbv, hj, hG5, r1, r3⟩
  · rintro τ' σ' ⟨hK, g1, g3, g19⟩
    exact ⟨hK, by simp only [QA, Nat.reduceEqDiff, g3]⟩
  · exact ⟨Keep.refl _, f1, f3, f19⟩

theorem NXT_out {cf : CallF} {lf n : Nat} {r : R} {N T E A X : Tr V → H → Prop} (h : NRE 1 r N T E) (hN : ∀ τ σ, N τ σ → X τ σ) (hE : ∀ τ σ, E τ σ → A τ σ) : NXT 0 (kBlk 1 (kSeq cf lf n (.exit 0) r)) A X T := by
  rcases h.elim with ⟨τ, σ, rfl, h1⟩ | ⟨τ, σ, rfl, h1⟩ | ⟨τ, σ, rfl, h1⟩
  · exact ⟨rfl, rfl, hN _ _ h1⟩
  · exact ⟨rfl, h1⟩
  · exact ⟨rfl, hE _ _ h1⟩
theorem sum_one {α : Type} : ∀ l : List α, sum (fun _ => 1) l = 2 * l.length
  | [] => rfl
  | x :: r => by simp only [sum, sum_one r, List.length_cons]; omega
theorem c80_at : T1.code 80 = some c80 := by kernel_rfl
/-- ground -/
theorem ground_call {lf m : Nat} {σ : H} {xb : Pos} {g : Sg} (hw : WfH σ) (hB : Book σ xb g) (hSh : AllShp g.ds) (hlf : 2 * sum daSz g.ds < lf) (hBB : sum daSz g.ds < BB) (hm : sum daSz g.ds ≤ m) :
    ∃ v σ', call T1 lf (m + 5) 80 [.ptr xb 0 0] σ = .ret v σ' ∧ Keep σ σ' ∧ ∃ y L, BL σ' v y L ∧ L.length = g.ds.length := by
  have hlen := sum_len daSz g.ds
  refine call_rt1 (p := pk 2) rfl c80_at (by simp [c80]) rfl fun cf hcf => ?_
  generalize hτ : bindArgs [.ptr xb 0 0] .h .lf = τ0
  have h0 : τ0.get (pk 0) = some (.ptr xb 0 0) := by rw [← hτ]; rfl
  clear hτ
  have bx : kBox 159 (some (.ptr xb 0 0)) = some (.ptr, .cells 159 [.ptr xb 0 0] 0 0 (some 0) []) := rfl
  have mk := mkV_nat 4 1 [.bool false] (n := g.ds.length) (by omega) (by decide)
  have hKa := Keep.new σ (.cells 159 [.ptr xb 0 0] 0 0 (some 0) [])
  have ga := (Keep.refl (σ.new (.cells 159 [.ptr xb 0 0] 0 0 (some 0) []))).at
  have hw1 := hKa.2.2 hw
  generalize hσ1 : σ.new (.cells 159 [.ptr xb 0 0] 0 0 (some 0) []) = σ1 at *
  have hB1 := hB.keep hw hKa
  obtain ⟨u, d, f, xm, hb1, hb2, hb3⟩ := id hB1
  obtain ⟨_, _, _, he, _, hsd1, _⟩ := hb2
  simp only [List.cons.injEq, and_true] at he
  obtain ⟨rfl, rfl, rfl⟩ := he
  have hsd : SP Eda 33 true σ (fun _ => True) d g.ds := by
    obtain ⟨u', d', f', xm', hc1, hc2, _⟩ := hB
    obtain ⟨u2, d2, f2, he, _, h3, _⟩ := hc2
    rw [hKa.get_some hw hc1] at hb1
    simp only [Option.some.injEq, Blk.cells.injEq, List.cons.injEq, true_and, and_true] at hb1 he
    obtain ⟨rfl, rfl, rfl, _⟩ := hb1
    obtain ⟨rfl, rfl, rfl⟩ := he
    exact h3
  have l0 : ldv σ1 (.ptr σ.nx 0 0) = some (.ptr xb 0 0) := ldk ga rfl
  have ld1 : ldv σ1 (.ptr xb 0 1) = some d := ldk hb1 rfl
  have hdl := hsd1.len
  have hKy := Keep.new σ1 (.cells 4 (repl [.bool false] g.ds.length) 0 0 (some 0) [])
  have gy := (Keep.refl (σ1.new (.cells 4 (repl [.bool false] g.ds.length) 0 0 (some 0) []))).at
  have hyn : σ1.nx.toNat < (σ1.new (.cells 4 (repl [.bool false] g.ds.length) 0 0 (some 0) [])).nx.toNat := by rw [nx_new]; omega
  have hw2 := hKy.2.2 hw1
  generalize hσ2 : σ1.new (.cells 4 (repl [.bool false] g.ds.length) 0 0 (some 0) []) = σ2 at *
  have st := st_one (σ := σ2.new (.cells 166 [.nils] 0 0 (some 0) [])) (x := σ2.nx) (o := 0) (ty := 166) (c := [.nils]) (ver := 0) (minv := 0) (ex := []) (v := .sl σ1.nx 0 0 g.ds.length (some g.ds.length) 0) (Keep.refl _).at (by simp) rfl rfl
  have hK3 := (Keep.new σ2 (.cells 166 [.nils] 0 0 (some 0) [])).put (Nat.le_refl _) (by rw [nx_new]; omega) (.cells 166 [.sl σ1.nx 0 0 g.ds.length (some g.ds.length) 0] 0 0 (some 0) [])
  have st' : stV (σ2.new (.cells 166 [.nils] 0 0 (some 0) [])) 1 (.ptr σ2.nx 0 0) (.sl σ1.nx 0 0 g.ds.length (some g.ds.length) 0) = .ok undefV ((σ2.new (.cells 166 [.nils] 0 0 (some 0) [])).put σ2.nx (.cells 166 [.sl σ1.nx 0 0 g.ds.length (some g.ds.length) 0] 0 0 (some 0) [])) := st
  have g3 : ((σ2.new (.cells 166 [.nils] 0 0 (some 0) [])).put σ2.nx (.cells 166 [.sl σ1.nx 0 0 g.ds.length (some g.ds.length) 0] 0 0 (some 0) [])).get σ2.nx = some (.cells 166 [.sl σ1.nx 0 0 g.ds.length (some g.ds.length) 0] 0 0 (some 0) []) := by rw [H.get_put, if_pos rfl]
  generalize hσ3 : (σ2.new (.cells 166 [.nils] 0 0 (some 0) [])).put σ2.nx (.cells 166 [.sl σ1.nx 0 0 g.ds.length (some g.ds.length) 0] 0 0 (some 0) []) = σ3 at *
  have hG : Gst σ σ3 xb σ.nx σ2.nx σ1.nx g (List.replicate g.ds.length false) := by
    refine ⟨(hKa.trans hKy).trans hK3, (hKy.trans hK3).get_some hw1 ga, g3, ?_, List.length_replicate, hKa.1, Nat.lt_of_lt_of_le hyn hK3.1⟩
    rw [hK3.get_some hw2 gy, repl_one, List.map_replicate]
  simp only [c80, QA, Nat.reduceAdd, Nat.reduceLeDiff, Nat.reduceEqDiff, QZ, e_box, h0, bx, hσ1, l0, ld1, hdl, mk, hσ2, st']
  refine Rt_seqNR (loop_rule (fun kk τ σ' => ∃ L, Gst σ σ' xb σ.nx σ2.nx σ1.nx g L ∧ τ.get (pk 1) = some (.ptr σ.nx 0 0) ∧ τ.get (pk 3) = some (.ptr σ2.nx 0 0) ∧ unv (fun _ => 1) g.ds L ≤ kk)
    (fun τ σ' => ∃ L, Gst σ σ' xb σ.nx σ2.nx σ1.nx g L ∧ τ.get (pk 3) = some (.ptr σ2.nx 0 0)) _ ?_ (k := 2 * g.ds.length) (by omega) ?_) ?_
  · rintro kk τ σ' ⟨L, hGL, q1, q3, hk⟩
    have hwσ := hGL.keep.2.2 hw
    have hB' := hB.keep hw hGL.keep
    obtain ⟨u', d', f', xm', hc1, hc2, _⟩ := hB'
    obtain ⟨u2, d2, f2, he, _, h3, _⟩ := hc2
    have t1 : ldv σ' (.ptr σ.nx 0 0) = some (.ptr xb 0 0) := ldk hGL.h1 rfl
    have hd' : d' = d := by
      obtain ⟨u3, d3, f3, xm3, hc3, _⟩ := id hB
      have e1 := hGL.keep.get_some hw hc3
      have e2 := hKa.get_some hw hc3
      rw [hc1] at e1
      rw [hb1] at e2
      simp only [Option.some.injEq, Blk.cells.injEq, List.cons.injEq, true_and, and_true] at e1 e2
      rw [e1.2.1, e2.2.1]
    subst hd'
    have t2 : ldv σ' (.ptr xb 0 1) = some d' := ldk hc1 rfl
    simp only [b80_4, x80_0, QA, Nat.reduceAdd, Nat.reduceLeDiff, Nat.reduceEqDiff, QZ, q1, t1, t2, hdl]
    refine NXT_out (ground2 (m := m) hcf hw hGL hB hsd hSh (by omega) hBB hm (by simp only [QA, Nat.reduceEqDiff, q1]) (by simp only [QA, Nat.reduceEqDiff, q3]) (by simp only [QA, Nat.reduceEqDiff]) (by simp only [QA, Nat.reduceEqDiff]) (by simp only [QA, Nat.reduceEqDiff])) ?_ ?_
    · rintro τ' σ5 ⟨hK, r3⟩
      exact ⟨L, hGL.later hw hK, r3⟩
    · rintro τ' σ5 ⟨i, hi, hin, hG5, r1, r3⟩
      obtain ⟨x, hx⟩ : ∃ x, g.ds[i]? = some x := ⟨_, List.getElem?_eq_getElem hin⟩
      have hu := unv_set (fun _ => 1) hx hi
      exact ⟨kk - 1, by omega, L.set i true, hG5, r1, r3, by omega⟩
  · have := unv_le (fun _ => 1) g.ds (List.replicate g.ds.length false)
    rw [sum_one] at this
    exact ⟨_, hG, by simp only [QA, Nat.reduceEqDiff], by simp only [QA, Nat.reduceEqDiff], this⟩
  · rintro τ σ' ⟨L, hGL, q3⟩
    have t3 : ldv σ' (.ptr σ2.nx 0 0) = some (.sl σ1.nx 0 0 g.ds.length (some g.ds.length) 0) := ldk hGL.h3 rfl
    simp only [QA, Nat.reduceAdd, Nat.reduceLeDiff, Nat.reduceEqDiff, q3, t3]
    exact ⟨hGL.keep, σ1.nx, L, ⟨by rw [hGL.len], hGL.hy⟩, hGL.len⟩
end Go.Proofs.YtfgghbikbaopjaaGreatDoorEng

namespace Go.Proofs.YtfgghbikbaopjaaGreatDoorEng
open Go
set_option maxRecDepth 100000
set_option linter.unusedSimpArgs false

def Wm1 : List Nat := [3, 7, 46, 47, 48, 49, 50, 51, 52, 53, 54, 55, 56, 57, 58, 59]
/-- many: the constructors of a datatype -/
theorem many1 {lf : Nat} {cf : CallF} {b σ : H} {o : Bool} {Q : Nat → Prop} {a : V} {L : List Co} (hwb : WfH b) (hKb : Keep b σ) (hA : SP Eco 36 o b Q a L) (hlf : L.length < lf) (hBB : L.length < BB)
    {T : Tr V → H → Prop} (hT : ∀ τ σ', Keep b σ' → τ.get (pk 2) = some (.bool true) → T τ σ') {τ : Tr V} (f3 : ∃ i : Int, τ.get (pk 3) = some (.int .i64 i)) (f44 : τ.get (pk 44) = some a) (f45 : τ.get (pk 45) = some (.int .i64 L.length)) (f46 : τ.get (pk 46) = some (.int .i64 0)) :
    NR (kBlk 2 (exec cf lf 75 (.loop b71_1) τ σ [])) (fun τ' σ' => Keep b σ' ∧ Fr Wm1 τ τ' ∧ ∃ i : Int, τ'.get (pk 3) = some (.int .i64 i)) T := by
  refine range_rule (l := 47) (i := 46) (nn := 45) (k := 59) (id := 2) (id' := 3) (B := y71_1) (N := L.length)
    (fun j τ' σ' => Keep b σ' ∧ Fr Wm1 τ τ' ∧ ∃ i : Int, τ'.get (pk 3) = some (.int .i64 i)) _ T (by decide) (by decide) (by decide) (by decide) (by decide) (by decide) (by decide) hlf (by unfold BB at hBB; omega) ?_ ?_ ?_ f46 f45
  · rintro j τ' σ' hj ⟨hK, hF, i, g3⟩ g46 g45
    have g44 := hF.get (by decide) f44
    obtain ⟨⟨nm, sels⟩, hs'⟩ : ∃ s', L[j]? = some s' := ⟨_, List.getElem?_eq_getElem hj⟩
    obtain ⟨q, ce, q1, q2, a', rfl, q3⟩ := hA.elem hs'
    have lq := (q2.keep hwb hK).ldg (n := 2) rfl
    obtain ⟨σ3, k1, k2, k3⟩ := var_new σ' 36 2 (zs := [.str [], .nils]) (c := [.str nm, a']) rfl rfl (by rw [List.all_cons, List.all_cons, q3.one]; rfl)
    have lb : ldv σ3 (.ptr σ'.nx 0 1) = some a' := ldk k3 rfl
    have kk := hK.trans k2
    simp only at q3
    cases e : decide ((64 : Int) < (sels.length : Int)) with
    | true =>
      simp only [y71_1, QA, Nat.reduceAdd, Nat.reduceLeDiff, Nat.reduceEqDiff, QZ, g3, g44, g46, q1, lq, k1, lb, q3.len, e]
      exact hT _ _ kk (by simp only [QA, Nat.reduceEqDiff])
    | false =>
      simp only [y71_1, QA, Nat.reduceAdd, Nat.reduceLeDiff, Nat.reduceEqDiff, QZ, g3, g44, g45, g46, q1, lq, k1, lb, q3.len, e]
      refine ⟨kk, ?_, _, rfl⟩
      repeat refine Fr.set ?_ (by decide)
      exact hF
  · rintro τ' σ' ⟨hK, hF, i, g3⟩
    exact ⟨hK, hF.set (by decide), i, by simp only [QA, Nat.reduceEqDiff, g3]⟩
  · exact ⟨hKb, Fr.refl _ _, f3⟩

theorem c71_at : T1.code 71 = some c71 := by kernel_rfl
/-- many -/
theorem many_call {lf m : Nat} {σ : H} {o : Bool} {Q : Nat → Prop} {u d f : V} {g : Sg} (hw : WfH σ) (hu : SP Est 9 o σ Q u g.us) (hd : SP Eda 33 o σ Q d g.ds) (hf : SP Efu 44 o σ Q f g.fs) (hlf : sum daSz g.ds < lf) (hBB : sum daSz g.ds < BB) (hlf2 : sum fuSz g.fs < lf) (hBB2 : sum fuSz g.fs < BB) :
    ∃ v σ', call T1 lf (m + 1) 71 [.agg [u, d, f]] σ = .ret v σ' ∧ Keep σ σ' ∧ ∃ b, v = .bool b := by
  have hlen := sum_len daSz g.ds
  have hlen2 := sum_len fuSz g.fs
  refine call_rt1 (p := pk 2) rfl c71_at (by simp [c71]) rfl fun cf hcf => ?_
  clear hcf
  generalize hτ : bindArgs [.agg [u, d, f]] .h .lf = τ0
  have h0 : τ0.get (pk 0) = some (.agg [u, d, f]) := by rw [← hτ]; rfl
  clear hτ
  have hKa := Keep.new σ (.cells 26 [u, d, f] 0 0 (some 0) [])
  have ga := (Keep.refl (σ.new (.cells 26 [u, d, f] 0 0 (some 0) []))).at
  have hw1 := hKa.2.2 hw
  generalize hσ1 : σ.new (.cells 26 [u, d, f] 0 0 (some 0) []) = σ1 at *
  have l0 : ldv σ1 (.ptr σ.nx 0 0) = some u := ldk ga rfl
  have l1 : ldv σ1 (.ptr σ.nx 0 1) = some d := ldk ga rfl
  have l2 : ldv σ1 (.ptr σ.nx 0 2) = some f := ldk ga rfl
  have hd1 := hd.keep hKa
  have hf1 := hf.keep hKa
  simp only [c71, QA, Nat.reduceAdd, Nat.reduceLeDiff, Nat.reduceEqDiff, QZ, e_box, h0, hσ1, l0, l1, l2, hu.len, hd.len, hf.len]
  refine Rt_seqNR (range_rule (l := 25) (i := 24) (nn := 23) (k := 60) (id := 0) (id' := 1) (B := y71_3) (N := g.ds.length)
    (fun j τ σ' => Keep σ1 σ' ∧ τ.get (pk 1) = some (.ptr σ.nx 0 0) ∧ τ.get (pk 22) = some d ∧ ∃ i : Int, τ.get (pk 3) = some (.int .i64 i))
    (fun τ σ' => Keep σ1 σ' ∧ τ.get (pk 1) = some (.ptr σ.nx 0 0) ∧ ∃ i : Int, τ.get (pk 3) = some (.int .i64 i)) _ (by decide) (by decide) (by decide) (by decide) (by decide) (by decide) (by decide) (by omega) (by unfold BB at hBB; omega) ?_ ?_ ?_ ?_ ?_) ?_
  · rintro j τ' σ' hj ⟨hK, g1, g22, i, g3⟩ g24 g23
    obtain ⟨⟨nm, cons⟩, hs'⟩ : ∃ s', g.ds[j]? = some s' := ⟨_, List.getElem?_eq_getElem hj⟩
    have hsz := sum_mem (f := daSz) hs'
    simp only [daSz] at hsz
    have hcl := sum_len coSz cons
    obtain ⟨q, ce, q1, q2, a', rfl, q3⟩ := hd1.elem hs'
    simp only at q3
    have lq := (q2.keep hw1 hK).ldg (n := 2) rfl
    obtain ⟨σ3, k1, k2, k3⟩ := var_new σ' 33 2 (zs := [.str [], .nils]) (c := [.str nm, a']) rfl rfl (by rw [List.all_cons, List.all_cons, q3.one]; rfl)
    have lb : ldv σ3 (.ptr σ'.nx 0 1) = some a' := ldk k3 rfl
    have kk := hK.trans k2
    cases e : decide ((cons.length : Int) < 1) with
    | true =>
      simp only [y71_3, QA, Nat.reduceAdd, Nat.reduceLeDiff, Nat.reduceEqDiff, QZ, g3, g22, g24, q1, lq, k1, lb, q3.len, e]
      exact ⟨hKa.trans kk, _, rfl⟩
    | false =>
    cases e2 : decide ((64 : Int) < (cons.length : Int)) with
    | true =>
      simp only [y71_3, QA, Nat.reduceAdd, Nat.reduceLeDiff, Nat.reduceEqDiff, QZ, g3, g22, g24, q1, lq, k1, lb, q3.len, e, e2]
      exact ⟨hKa.trans kk, _, rfl⟩
    | false =>
      simp only [y71_3, QA, Nat.reduceAdd, Nat.reduceLeDiff, Nat.reduceEqDiff, QZ, g3, g22, g24, q1, lq, k1, lb, q3.len, e, e2]
      refine NR_blk ((many1 (L := cons) hw1 kk q3 (by omega) (by omega) (fun τ σ' h1 h2 => ⟨_, h2, hKa.trans h1, _, rfl⟩) ⟨_, by simp only [QA, Nat.reduceEqDiff]; rfl⟩ (by simp only [QA, Nat.reduceEqDiff]) (by simp only [QA, Nat.reduceEqDiff]) (by simp only [QA, Nat.reduceEqDiff])).mono ?_ (fun _ _ h => h))
      rintro τ2 σ5 ⟨hK5, hF, i', r3⟩
      have r1 := hF.get (s := 1) (v := .ptr σ.nx 0 0) (by decide) (by simp only [QA, Nat.reduceEqDiff, g1])
      have r22 := hF.get (s := 22) (v := d) (by decide) (by simp only [QA, Nat.reduceEqDiff, g22])
      have r23 := hF.get (s := 23) (v := .int .i64 g.ds.length) (by decide) (by simp only [QA, Nat.reduceEqDiff, g23])
      have r24 := hF.get (s := 24) (v := .int .i64 j) (by decide) (by simp only [QA, Nat.reduceEqDiff, g24])
      exact ⟨r24, r23, hK5, by simp only [r1], by simp only [r22], i', by simp only [r3]⟩
  · rintro τ σ' ⟨hK, g1, g22, i, g3⟩
    exact ⟨hK, by simp only [QA, Nat.reduceEqDiff, g1], i, by simp only [QA, Nat.reduceEqDiff, g3]⟩
  · exact ⟨Keep.refl _, by simp only [QA, Nat.reduceEqDiff], by simp only [QA, Nat.reduceEqDiff], _, by simp only [QA, Nat.reduceEqDiff]; rfl⟩
  · simp only [QA, Nat.reduceEqDiff]
  · simp only [QA, Nat.reduceEqDiff]
  · rintro τ σ' ⟨hK, g1, i, g3⟩
    have l2' : ldv σ' (.ptr σ.nx 0 2) = some f := ldk (hK.get_some hw1 ga) rfl
    simp only [QA, Nat.reduceAdd, Nat.reduceLeDiff, QZ, g1, l2', hf.len]
    refine Rt_seqNR (range_rule (l := 65) (i := 64) (nn := 63) (k := 72) (id := 4) (id' := 5) (B := y71_5) (N := g.fs.length)
      (fun j τ σ' => Keep σ1 σ' ∧ τ.get (pk 62) = some f ∧ ∃ i : Int, τ.get (pk 3) = some (.int .i64 i))
      (fun τ σ' => Keep σ1 σ' ∧ ∃ i : Int, τ.get (pk 3) = some (.int .i64 i)) _ (by decide) (by decide) (by decide) (by decide) (by decide) (by decide) (by decide) (by omega) (by unfold BB at hBB2; omega) ?_ ?_ ?_ ?_ ?_) ?_
    · rintro j τ' σ' hj ⟨hK, g62, i, g3⟩ g64 g63
      obtain ⟨x, hs'⟩ : ∃ s', g.fs[j]? = some s' := ⟨_, List.getElem?_eq_getElem hj⟩
      obtain ⟨q, ce, q1, q2, q3⟩ := hf1.elem hs'
      have ql := Efu.len q3
      have qo := Efu.one q3
      have lq := (q2.keep hw1 hK).ldg ql
      obtain ⟨σ3, k1, k2, k3⟩ := var_new σ' 44 6 (zs := [.str [], .nils, .int .i64 0, .int .i64 0, .str [], .nils]) rfl ql qo
      obtain ⟨nm, args, rt⟩ := x
      obtain ⟨a', d', rfl, q4, q5⟩ := q3
      simp only at q4
      have lb : ldv σ3 (.ptr σ'.nx 0 1) = some a' := ldk k3 rfl
      have kk := hK.trans k2
      cases e : decide ((64 : Int) < (args.length : Int)) with
      | true =>
        simp only [y71_5, QA, Nat.reduceAdd, Nat.reduceLeDiff, Nat.reduceEqDiff, QZ, g62, g64, q1, lq, k1, lb, q4.len, e]
        exact ⟨hKa.trans kk, _, rfl⟩
      | false =>
        simp only [y71_5, QA, Nat.reduceAdd, Nat.reduceLeDiff, Nat.reduceEqDiff, QZ, g3, g62, g63, g64, q1, lq, k1, lb, q4.len, e]
        exact ⟨kk, _, rfl⟩
    · rintro τ σ' ⟨hK, g62, i, g3⟩
      exact ⟨hK, i, by simp only [QA, Nat.reduceEqDiff, g3]⟩
    · exact ⟨hK, by simp only [QA, Nat.reduceEqDiff], i, by simp only [QA, Nat.reduceEqDiff, g3]⟩
    · simp only [QA, Nat.reduceEqDiff]
    · simp only [QA, Nat.reduceEqDiff]
    · rintro τ σ' ⟨hK, i, g3⟩
      simp only [QA, Nat.reduceAdd, Nat.reduceLeDiff, Nat.reduceEqDiff, g3]
      exact ⟨hKa.trans hK, _, rfl⟩

def Wa1 : List Nat := [8, 9, 35, 36, 37, 38, 39, 40, 41, 42, 43, 44, 46]
/-- allSorts: the selectors of a constructor -/
theorem all1 {lf m : Nat} {cf : CallF} (hcf : cf = call T1 lf (m + 3)) {b σ : H} {o : Bool} {Q : Nat → Prop} {a : V} {L : List Se} {xb : Pos} {g : Sg} (hwb : WfH b) (hKb : Keep b σ) (hB : Book b xb g) (hA : SP Ese 42 o b Q a L) (hlf : sum seSz L < lf) (hBB : sum seSz L < BB) (hm : sum seSz L ≤ m)
    {T : Tr V → H → Prop} (hT : ∀ τ σ' (i : Int), Keep b σ' → i ≠ 0 → τ.get (pk 2) = some (.int .i64 i) → T τ σ') {τ : Tr V} (f0 : τ.get (pk 0) = some (.ptr xb 0 0)) (f33 : τ.get (pk 33) = some a) (f34 : τ.get (pk 34) = some (.int .i64 L.length)) (f35 : τ.get (pk 35) = some (.int .i64 0)) :
    NR (kBlk 4 (exec cf lf 79 (.loop b76_1) τ σ [])) (fun τ' σ' => (Keep b σ' ∧ Fr Wa1 τ τ') ∧ ∀ s ∈ L, Shp s.2) T := by
  have hlen := sum_len seSz L
  refine range_rule (l := 36) (i := 35) (nn := 34) (k := 46) (id := 4) (id' := 5) (B := y76_1) (N := L.length)
    (fun j τ' σ' => (Keep b σ' ∧ Fr Wa1 τ τ') ∧ ∀ (i : Nat) s, i < j → L[i]? = some s → Shp s.2) _ T (by decide) (by decide) (by decide) (by decide) (by decide) (by decide) (by decide) (by omega) (by unfold BB at hBB; omega) ?_ ?_ ?_ f35 f34
  · rintro j τ' σ' hj ⟨⟨hK, hF⟩, hS⟩ g35 g34
    have g0 := hF.get (by decide) f0
    have g33 := hF.get (by decide) f33
    obtain ⟨⟨nm, s'⟩, hs'⟩ : ∃ s', L[j]? = some s' := ⟨_, List.getElem?_eq_getElem hj⟩
    have hsz := sum_mem (f := seSz) hs'
    simp only [seSz] at hsz
    obtain ⟨q, ce, q1, q2, q3⟩ := (hA.keep hK).elem hs'
    have ql := Ese.len q3
    have qo := Ese.one q3
    have lq := q2.ldg ql
    have hw' := hK.2.2 hwb
    obtain ⟨σ3, k1, k2, k3⟩ := var_new σ' 42 5 (zs := [.str [], .int .i64 0, .int .i64 0, .str [], .nils]) rfl ql qo
    obtain ⟨d, rfl, q4⟩ := q3
    obtain ⟨q', e1, hq'⟩ := (At.var k3).fad (c := [.str nm]) (d := d) (j := 1) rfl
    have e1' : q' = .ptr σ'.nx 0 1 := by simpa [fadV] using e1.symm
    subst e1'
    have l1 := hq'.ldg q4.len
    have hw3 := k2.2.2 hw'
    obtain ⟨i, σ4, k4, k5, k6⟩ := check_call (s := s') (lf := lf) (m := m) hw3 (hB.keep hwb (hK.trans k2)) (q4.up (k2.up _)) (by omega) (by omega) (by omega)
    have kk := hK.trans (k2.trans k5)
    rw [← hcf] at k4
    cases e : (i != 0) with
    | true =>
      simp only [y76_1, QA, reduceCtorEq, Nat.reduceAdd, Nat.reduceLeDiff, Nat.reduceEqDiff, QZ, g0, g33, g35, q1, lq, k1, l1, k4, e]
      exact hT _ _ i kk (by simpa using e) (by simp only [QA, Nat.reduceEqDiff])
    | false =>
      have hi : i = 0 := by simpa using e
      simp only [y76_1, QA, reduceCtorEq, Nat.reduceAdd, Nat.reduceLeDiff, Nat.reduceEqDiff, QZ, g0, g33, g34, g35, q1, lq, k1, l1, k4, e]
      refine ⟨⟨kk, ?_⟩, fun i' s hi' he => ?_⟩
      · repeat refine Fr.set ?_ (by decide)
        exact hF
      · rcases Nat.lt_or_ge i' j with hlt | hge
        · exact hS i' s hlt he
        · obtain rfl : i' = j := by omega
          rw [hs'] at he
          obtain rfl := Option.some.inj he
          exact k6 hi
  · rintro τ' σ' ⟨⟨hK, hF⟩, hS⟩
    refine ⟨⟨hK, hF.set (by decide)⟩, fun s hs => ?_⟩
    obtain ⟨i, hi⟩ := List.getElem?_of_mem hs
    refine hS i s ?_ hi
    rcases Nat.lt_or_ge i L.length with h | h
    · exact h
    · rw [List.getElem?_eq_none h] at hi; cases hi
  · exact ⟨⟨hKb, Fr.refl _ _⟩, fun i s hi => by omega⟩

def Wa2 : List Nat := [6, 28, 29, 30, 31, 32, 33, 34, 47] ++ Wa1
/-- .. the constructors of a datatype -/
theorem all2 {lf m : Nat} {cf : CallF} (hcf : cf = call T1 lf (m + 3)) {b σ : H} {o : Bool} {Q : Nat → Prop} {a : V} {L : List Co} {xb : Pos} {g : Sg} (hwb : WfH b) (hKb : Keep b σ) (hB : Book b xb g) (hA : SP Eco 36 o b Q a L) (hlf : sum coSz L < lf) (hBB : sum coSz L < BB) (hm : sum coSz L ≤ m)
    {T : Tr V → H → Prop} (hT : ∀ τ σ' (i : Int), Keep b σ' → i ≠ 0 → τ.get (pk 2) = some (.int .i64 i) → T τ σ') {τ : Tr V} (f0 : τ.get (pk 0) = some (.ptr xb 0 0)) (f26 : τ.get (pk 26) = some a) (f27 : τ.get (pk 27) = some (.int .i64 L.length)) (f28 : τ.get (pk 28) = some (.int .i64 0)) :
    NR (kBlk 2 (exec cf lf 79 (.loop b76_3) τ σ [])) (fun τ' σ' => (Keep b σ' ∧ Fr Wa2 τ τ') ∧ ∀ c ∈ L, ∀ s ∈ c.2, Shp s.2) T := by
  have hlen := sum_len coSz L
  refine range_rule (l := 29) (i := 28) (nn := 27) (k := 47) (id := 2) (id' := 3) (B := y76_3) (N := L.length)
    (fun j τ' σ' => (Keep b σ' ∧ Fr Wa2 τ τ') ∧ ∀ (i : Nat) c, i < j → L[i]? = some c → ∀ s ∈ c.2, Shp s.2) _ T (by decide) (by decide) (by decide) (by decide) (by decide) (by decide) (by decide) (by omega) (by unfold BB at hBB; omega) ?_ ?_ ?_ f28 f27
  · rintro j τ' σ' hj ⟨⟨hK, hF⟩, hS⟩ g28 g27
    have g0 := hF.get (by decide) f0
    have g26 := hF.get (by decide) f26
    obtain ⟨⟨nm, sels⟩, hs'⟩ : ∃ s', L[j]? = some s' := ⟨_, List.getElem?_eq_getElem hj⟩
    have hsz := sum_mem (f := coSz) hs'
    simp only [coSz] at hsz
    obtain ⟨q, ce, q1, q2, a', rfl, q3⟩ := hA.elem hs'
    simp only at q3
    have lq := (q2.keep hwb hK).ldg (n := 2) rfl
    have hw' := hK.2.2 hwb
    obtain ⟨σ3, k1, k2, k3⟩ := var_new σ' 36 2 (zs := [.str [], .nils]) (c := [.str nm, a']) rfl rfl (by rw [List.all_cons, List.all_cons, q3.one]; rfl)
    have lb : ldv σ3 (.ptr σ'.nx 0 1) = some a' := ldk k3 rfl
    simp only [y76_3, QA, Nat.reduceAdd, Nat.reduceLeDiff, Nat.reduceEqDiff, QZ, g26, g28, q1, lq, k1, lb, q3.len]
    refine NR_blk ((all1 (m := m) (L := sels) hcf hwb (hK.trans k2) hB q3 (by omega) (by omega) (by omega) hT (by simp only [QA, reduceCtorEq, g0]) (by simp only [QA, Nat.reduceEqDiff]) (by simp only [QA, Nat.reduceEqDiff]) (by simp only [QA, Nat.reduceEqDiff])).mono ?_ (fun _ _ h => h))
    rintro τ2 σ5 ⟨⟨hK5, hF2⟩, hS2⟩
    refine ⟨hF2.get (by decide) (by simp only [QA, Nat.reduceEqDiff, g28]), hF2.get (by decide) (by simp only [QA, Nat.reduceEqDiff, g27]), ⟨hK5, ?_⟩, fun i c hi he => ?_⟩
    · have hF3 := hF2.low (W' := Wa2) (by decide)
      refine Fr.set (Fr.set (Fr.trans ?_ hF3) (by decide)) (by decide)
      repeat refine Fr.set ?_ (by decide)
      exact hF
    · rcases Nat.lt_or_ge i j with hlt | hge
      · exact hS i c hlt he
      · obtain rfl : i = j := by omega
        rw [hs'] at he
        obtain rfl := Option.some.inj he
        exact hS2
  · rintro τ' σ' ⟨⟨hK, hF⟩, hS⟩
    refine ⟨⟨hK, hF.set (by decide)⟩, fun c hc => ?_⟩
    obtain ⟨i, hi⟩ := List.getElem?_of_mem hc
    refine hS i c ?_ hi
    rcases Nat.lt_or_ge i L.length with h | h
    · exact h
    · rw [List.getElem?_eq_none h] at hi; cases hi
  · exact ⟨⟨hKb, Fr.refl _ _⟩, fun i s hi => by omega⟩

/-- .. the sorts of a function -/
theorem all3 {lf m : Nat} {cf : CallF} (hcf : cf = call T1 lf (m + 3)) {b σ : H} {o : Bool} {Q : Nat → Prop} {a : V} {L : List So} {xb : Pos} {g : Sg} (hwb : WfH b) (hKb : Keep b σ) (hB : Book b xb g) (hA : SP Eso 40 o σ Q a L) (hlf : S.szL L < lf) (hBB : S.szL L < BB) (hm : S.szL L ≤ m)
    {T : Tr V → H → Prop} (hT : ∀ τ σ' (i : Int), Keep b σ' → i ≠ 0 → τ.get (pk 2) = some (.int .i64 i) → T τ σ') {τ : Tr V} {v53 v54 v55 : V} (f0 : τ.get (pk 0) = some (.ptr xb 0 0)) (f53 : τ.get (pk 53) = some v53) (f54 : τ.get (pk 54) = some v54) (f55 : τ.get (pk 55) = some v55)
    (f65 : τ.get (pk 65) = some a) (f66 : τ.get (pk 66) = some (.int .i64 L.length)) (f67 : τ.get (pk 67) = some (.int .i64 0)) :
    NR (kBlk 8 (exec cf lf 79 (.loop b76_7) τ σ [])) (fun τ' σ' => Keep b σ' ∧ τ'.get (pk 0) = some (.ptr xb 0 0) ∧ τ'.get (pk 53) = some v53 ∧ τ'.get (pk 54) = some v54 ∧ τ'.get (pk 55) = some v55) T := by
  have hlen := S.szL_len L
  have hwσ := hKb.2.2 hwb
  refine range_rule (l := 68) (i := 67) (nn := 66) (k := 77) (id := 8) (id' := 9) (B := y76_7) (N := L.length)
    (fun j τ' σ' => Keep σ σ' ∧ τ'.get (pk 0) = some (.ptr xb 0 0) ∧ τ'.get (pk 53) = some v53 ∧ τ'.get (pk 54) = some v54 ∧ τ'.get (pk 55) = some v55 ∧ τ'.get (pk 65) = some a) _ T (by decide) (by decide) (by decide) (by decide) (by decide) (by decide) (by decide) (by omega) (by unfold BB at hBB; omega) ?_ ?_ ?_ f67 f66
  · rintro j τ' σ' hj ⟨hK, g0, g53, g54, g55, g65⟩ g67 g66
    obtain ⟨s', hs'⟩ : ∃ s', L[j]? = some s' := ⟨_, List.getElem?_eq_getElem hj⟩
    have hsz := S.szL_mem hs'
    obtain ⟨q, ce, q1, q2, q3⟩ := (hA.keep hK).elem hs'
    have q3 : SortIs σ' o Q ce s' := q3
    have lq := q2.ldg q3.len
    have hw' := hK.2.2 hwσ
    obtain ⟨σ3, k1, k2, k3⟩ := var_new σ' 40 4 (zs := [.int .i64 0, .int .i64 0, .str [], .nils]) rfl q3.len q3.one
    have l5 := (At.var k3).ldg q3.len
    have hw3 := k2.2.2 hw'
    obtain ⟨i, σ4, k4, k5, k6⟩ := check_call (s := s') (lf := lf) (m := m) hw3 (hB.keep hwb (hKb.trans (hK.trans k2))) (q3.up (k2.up _)) (by omega) (by omega) (by omega)
    have kk := hK.trans (k2.trans k5)
    rw [← hcf] at k4
    cases e : (i != 0) with
    | true =>
      simp only [y76_7, QA, reduceCtorEq, Nat.reduceAdd, Nat.reduceLeDiff, Nat.reduceEqDiff, QZ, g0, g65, g67, q1, lq, k1, l5, k4, e]
      exact hT _ _ i (hKb.trans kk) (by simpa using e) (by simp only [QA, Nat.reduceEqDiff])
    | false =>
      simp only [y76_7, QA, reduceCtorEq, Nat.reduceAdd, Nat.reduceLeDiff, Nat.reduceEqDiff, QZ, g0, g65, g66, g67, q1, lq, k1, l5, k4, e]
      exact ⟨kk, g53, g54, g55⟩
  · rintro τ' σ' ⟨hK, g0, g53, g54, g55, g65⟩
    exact ⟨hKb.trans hK, by simp only [QA, reduceCtorEq, g0], by simp only [QA, Nat.reduceEqDiff, g53], by simp only [QA, Nat.reduceEqDiff, g54], by simp only [QA, Nat.reduceEqDiff, g55]⟩
  · exact ⟨Keep.refl _, f0, f53, f54, f55, f65⟩

/-- a list to which another is appended -/
theorem GL.appS {α : Type} {n : Nat} {E : EK α n} {b σ : H} {Q Qy : Nat → Prop} {ty ty' eb : Nat} {o' : Bool} {a y : V} {L M : List α} (h : GL E ty σ Q a L) (hy : SP E ty' o' σ Qy y M) (hn : 0 < n)
    (hx : ∀ (x : Pos) ver o l c k, a = .sl x ver o l c k → b.nx.toNat ≤ x.toNat ∧ ¬ Qy x.toNat) (hKb : Keep b σ) (hb : (L.length + M.length) * eb ≤ mostBytes) (hb2 : L.length + M.length ≤ mostBytes) :
    ∃ v' σ', appV σ ty n eb a y = .ok v' σ' ∧ SP E ty false σ' (fun _ => True) v' (L ++ M) ∧ Keep b σ' := by
  obtain ⟨D, hyk, hyl, hye⟩ := hy
  have hK : ∃ C, Sk σ true (fun z => b.nx.toNat ≤ z) ty n a C ∧ C.length = L.length ∧ ∀ (i : Nat) c x, C[i]? = some c → L[i]? = some x → E.P true σ (fun z => ∀ (x : Pos) ver o l c k, a = .sl x ver o l c k → z ≠ x.toNat) c x := by
    have hsp := h.sp
    cases h with
    | nils => exact ⟨[], .nils, rfl, fun i c x e => by simp at e⟩
    | own x ver minv ex C L hg hq hx' hne hl he =>
      refine ⟨C, ?_, hl, fun i c x' e1 e2 => E.low (he i c x' e1 e2) fun z hz x2 ver2 o2 l2 c2 k2 h => by cases h; exact hz.2⟩
      rw [← hl]
      refine .own x ver minv ex C (fun e => hne (List.eq_nil_of_length_eq_zero (by rw [← hl, e]; rfl))) (fun c hc => ?_) (fun c hc => ?_) hg (hx _ _ _ _ _ _ rfl).1 hx'
      · obtain ⟨i, hi⟩ := List.getElem?_of_mem hc
        obtain ⟨y, hy⟩ := idx_some hl hi
        exact E.len (he i c y hi hy)
      · obtain ⟨i, hi⟩ := List.getElem?_of_mem hc
        obtain ⟨y, hy⟩ := idx_some hl hi
        exact E.one (he i c y hi hy)
  obtain ⟨C, hk, hl, he⟩ := hK
  obtain ⟨v', σ', h1, h2, h3, h4, h5⟩ := Sk.app (eb := eb) hk hyk hn hKb.1 (fun z hz => hz) hKb (by rw [hl, hyl]; exact hb) (by rw [hl, hyl]; exact hb2)
  refine ⟨v', σ', h1, ⟨C ++ D, h2.read.low (fun _ _ => trivial), by simp [hl, hyl], fun i c x e1 e2 => ?_⟩, h3⟩
  have uA : Up (fun z => ∀ (x : Pos) ver o l c k, a = .sl x ver o l c k → z ≠ x.toNat) σ σ' := by
    rcases h5 with ⟨_, rfl, _⟩ | ⟨_, hk, _⟩ | ⟨x, ver, ver', l, l', rfl, _, hz⟩
    · exact Up.refl _ _
    · exact hk.up _
    · exact ⟨h4, fun z hz2 _ => hz z fun e => by subst e; exact hz2 _ _ _ _ _ _ rfl rfl⟩
  have uY : Up Qy σ σ' := by
    rcases h5 with ⟨_, rfl, _⟩ | ⟨_, hk, _⟩ | ⟨x, ver, ver', l, l', rfl, _, hz⟩
    · exact Up.refl _ _
    · exact hk.up _
    · exact ⟨h4, fun z hz2 _ => hz z fun e => by subst e; exact (hx _ _ _ _ _ _ rfl).2 hz2⟩
  by_cases hi : i < C.length
  · rw [List.getElem?_append_left hi] at e1
    rw [List.getElem?_append_left (hl ▸ hi)] at e2
    exact E.low (E.read (E.up (he i c x e1 e2) uA)) fun _ _ => trivial
  · rw [List.getElem?_append_right (by omega)] at e1
    rw [List.getElem?_append_right (by omega), ← hl] at e2
    exact E.low (E.read (E.up (hye _ c x e1 e2) uY)) fun _ _ => trivial

theorem c140_at : T1.code 140 = some (cloneF 40 4 56) := by kernel_rfl
theorem c76_at : T1.code 76 = some c76 := by kernel_rfl
/-- allSorts -/
theorem allSorts_call {lf m : Nat} {σ : H} {xb : Pos} {g : Sg} (hw : WfH σ) (hB : Book σ xb g) (hlf : sum daSz g.ds < lf) (hBB : sum daSz g.ds < BB) (hm : sum daSz g.ds ≤ m) (hlf2 : sum fuSz g.fs < lf) (hBB2 : sum fuSz g.fs < BB) (hm2 : sum fuSz g.fs ≤ m) :
    ∃ i σ', call T1 lf (m + 4) 76 [.ptr xb 0 0] σ = .ret (.int .i64 i) σ' ∧ Keep σ σ' ∧ (i = 0 → AllShp g.ds) := by
  have hlen := sum_len daSz g.ds
  have hlen2 := sum_len fuSz g.fs
  have key : ∃ v σ', call T1 lf (m + 4) 76 [.ptr xb 0 0] σ = .ret v σ' ∧ (Keep σ σ' ∧ ∃ i, v = .int .i64 i ∧ (i = 0 → AllShp g.ds)) := by
    refine call_rt1 (p := pk 2) rfl c76_at (by simp [c76]) rfl fun cf hcf => ?_
    generalize hτ : bindArgs [.ptr xb 0 0] .h .lf = τ0
    have h0 : τ0.get (pk 0) = some (.ptr xb 0 0) := by rw [← hτ]; rfl
    clear hτ
    obtain ⟨u, d, f, xm, hb1, hb2, hb3⟩ := id hB
    obtain ⟨_, _, _, he, _, hsd, hsf⟩ := hb2
    simp only [List.cons.injEq, and_true] at he
    obtain ⟨rfl, rfl, rfl⟩ := he
    have ld1 : ldv σ (.ptr xb 0 1) = some d := ldk hb1 rfl
    simp only [c76, QA, reduceCtorEq, Nat.reduceAdd, Nat.reduceLeDiff, Nat.reduceEqDiff, QZ, h0, ld1, hsd.len]
    refine Rt_seqNR (range_rule (l := 22) (i := 21) (nn := 20) (k := 48) (id := 0) (id' := 1) (B := y76_5) (N := g.ds.length)
      (fun j τ σ' => Keep σ σ' ∧ τ.get (pk 0) = some (.ptr xb 0 0) ∧ τ.get (pk 19) = some d ∧ ∀ (i : Nat) x, i < j → g.ds[i]? = some x → ∀ c ∈ x.2, ∀ s ∈ c.2, Shp s.2)
      (fun τ σ' => Keep σ σ' ∧ τ.get (pk 0) = some (.ptr xb 0 0) ∧ AllShp g.ds) _ (by decide) (by decide) (by decide) (by decide) (by decide) (by decide) (by decide) (by omega) (by unfold BB at hBB; omega) ?_ ?_ ?_ ?_ ?_) ?_
    · rintro j τ' σ' hj ⟨hK, g0, g19, hS⟩ g21 g20
      obtain ⟨⟨nm, cons⟩, hs'⟩ : ∃ s', g.ds[j]? = some s' := ⟨_, List.getElem?_eq_getElem hj⟩
      have hsz := sum_mem (f := daSz) hs'
      simp only [daSz] at hsz
      obtain ⟨q, ce, q1, q2, a', rfl, q3⟩ := hsd.elem hs'
      simp only at q3
      have lq := (q2.keep hw hK).ldg (n := 2) rfl
      obtain ⟨σ3, k1, k2, k3⟩ := var_new σ' 33 2 (zs := [.str [], .nils]) (c := [.str nm, a']) rfl rfl (by rw [List.all_cons, List.all_cons, q3.one]; rfl)
      have lb : ldv σ3 (.ptr σ'.nx 0 1) = some a' := ldk k3 rfl
      simp only [y76_5, QA, reduceCtorEq, Nat.reduceAdd, Nat.reduceLeDiff, Nat.reduceEqDiff, QZ, g19, g21, q1, lq, k1, lb, q3.len]
      refine NR_blk ((all2 (m := m) (L := cons) hcf hw (hK.trans k2) hB q3 (by omega) (by omega) (by omega) (fun τ σ' i h1 h2 h3 => ⟨_, h3, h1, i, rfl, fun h => absurd h h2⟩) (by simp only [QA, reduceCtorEq, g0]) (by simp only [QA, Nat.reduceEqDiff]) (by simp only [QA, Nat.reduceEqDiff]) (by simp only [QA, Nat.reduceEqDiff])).mono ?_ (fun _ _ h => h))
      rintro τ2 σ5 ⟨⟨hK5, hF⟩, hS2⟩
      have r0 := hF.get (s := 0) (v := .ptr xb 0 0) (by decide) (by simp only [QA, reduceCtorEq, g0])
      have r19 := hF.get (s := 19) (v := d) (by decide) (by simp only [QA, Nat.reduceEqDiff, g19])
      have r20 := hF.get (s := 20) (v := .int .i64 g.ds.length) (by decide) (by simp only [QA, Nat.reduceEqDiff, g20])
      have r21 := hF.get (s := 21) (v := .int .i64 j) (by decide) (by simp only [QA, Nat.reduceEqDiff, g21])
      refine ⟨r21, r20, hK5, by simp only [r0], by simp only [r19], fun i x hi he => ?_⟩
      rcases Nat.lt_or_ge i j with hlt | hge
      · exact hS i x hlt he
      · obtain rfl : i = j := by omega
        rw [hs'] at he
        obtain rfl := Option.some.inj he
        exact hS2
    · rintro τ σ' ⟨hK, g0, g19, hS⟩
      refine ⟨hK, by simp only [QA, reduceCtorEq, g0], fun x hx => ?_⟩
      obtain ⟨i, hi⟩ := List.getElem?_of_mem hx
      refine hS i x ?_ hi
      rcases Nat.lt_or_ge i g.ds.length with h | h
      · exact h
      · rw [List.getElem?_eq_none h] at hi; cases hi
    · exact ⟨Keep.refl _, by simp only [QA, reduceCtorEq, h0], by simp only [QA, Nat.reduceEqDiff], fun i x hi => by omega⟩
    · simp only [QA, Nat.reduceEqDiff]
    · simp only [QA, Nat.reduceEqDiff]
    · rintro τ σ1 ⟨hK1, g0, hAll⟩
      have ld2 : ldv σ1 (.ptr xb 0 2) = some f := ldk (hK1.get_some hw hb1) rfl
      simp only [QA, Nat.reduceAdd, Nat.reduceLeDiff, Nat.reduceEqDiff, QZ, g0, ld2, hsf.len]
      refine Rt_seqNR (range_rule (l := 56) (i := 55) (nn := 54) (k := 78) (id := 6) (id' := 7) (B := y76_9) (N := g.fs.length)
        (fun j τ σ' => Keep σ σ' ∧ τ.get (pk 0) = some (.ptr xb 0 0) ∧ τ.get (pk 53) = some f)
        (fun τ σ' => Keep σ σ') _ (by decide) (by decide) (by decide) (by decide) (by decide) (by decide) (by decide) (by omega) (by unfold BB at hBB2; omega) ?_ ?_ ?_ ?_ ?_) ?_
      · rintro j τ' σ' hj ⟨hK, g0, g53⟩ g55 g54
        obtain ⟨x, hs'⟩ : ∃ s', g.fs[j]? = some s' := ⟨_, List.getElem?_eq_getElem hj⟩
        have hsz := sum_mem (f := fuSz) hs'
        obtain ⟨q, ce, q1, q2, q3⟩ := (hsf.keep hK).elem hs'
        have ql := Efu.len q3
        have qo := Efu.one q3
        have lq := q2.ldg ql
        have hw' := hK.2.2 hw
        obtain ⟨σ3, k1, k2, k3⟩ := var_new σ' 44 6 (zs := [.str [], .nils, .int .i64 0, .int .i64 0, .str [], .nils]) rfl ql qo
        obtain ⟨nm, args, rt⟩ := x
        obtain ⟨a', d', rfl, q4, q5⟩ := q3
        simp only at q4 q5
        simp only [fuSz] at hsz
        have hal := S.szL_len args
        have hw3 := k2.2.2 hw'
        have lb : ldv σ3 (.ptr σ'.nx 0 1) = some a' := ldk k3 rfl
        obtain ⟨q', e2, hq'⟩ := (At.var k3).fad (c := [.str nm, a']) (d := d') (j := 2) rfl
        have e2' : q' = .ptr σ'.nx 0 2 := by simpa [fadV] using e2.symm
        subst e2'
        have l2 := hq'.ldg q5.len
        have bs := kBsn_agg (ty := 40) q5.len
        have hKn := Keep.new σ3 (.cells 40 d' 0 0 (some 0) [])
        have gn := (Keep.refl (σ3.new (.cells 40 d' 0 0 (some 0) []))).at
        have hnn : σ3.nx.toNat < (σ3.new (.cells 40 d' 0 0 (some 0) [])).nx.toNat := by rw [nx_new]; omega
        have hw4 := hKn.2.2 hw3
        generalize hσ4 : σ3.new (.cells 40 d' 0 0 (some 0) []) = σ4 at *
        have k24 := k2.trans hKn
        have qA := (q4.up (k24.up _))
        have qR := (q5.up (k24.up _))
        obtain ⟨a2, σ5, t1, t2, t3, t4⟩ := clone_call (E := Eso) (f := 140) (lf := lf) (m := m + 2) rfl c140_at hw4 qA (by decide) (by simp [mostBytes]; unfold BB at hBB2; omega) (by simp [mostBytes]; unfold BB at hBB2; omega)
        have hyS : SP Eso 40 false σ5 (fun z => z < σ4.nx.toNat) (.sl σ3.nx 0 0 1 (some 1) 0) [rt] := by
          have e := (Eso.bd qR)
          refine SP.up (σ := σ4) ⟨[d'], .box σ3.nx d' rfl q5.len q5.one gn hnn hnn, rfl, fun i c x e1 e2 => ?_⟩ (t2.up _)
          cases i with
          | succ i => simp at e1
          | zero =>
            simp at e1 e2; subst e1; subst e2
            exact Eso.low (Eso.read e) fun z hz => hz.2
        obtain ⟨v', σ6, t5, t6, t7⟩ := GL.appS (b := σ4) (eb := 56) t3 hyS (by decide) (fun x ver o l c k h => ⟨t4 x ver o l c k h, by have := t4 x ver o l c k h; omega⟩) t2 (by simp [mostBytes]; unfold BB at hBB2; omega) (by simp [mostBytes]; unfold BB at hBB2; omega)
        rw [← hcf] at t1
        have kk := hK.trans (k24.trans t7)
        simp only [y76_9, QA, reduceCtorEq, Nat.reduceAdd, Nat.reduceLeDiff, Nat.reduceEqDiff, QD, QZ, w_1g, w_1gk, g53, g55, q1, lq, k1, lb, l2, bs, hσ4, t1, t5, t6.len, List.length_cons, List.length_nil, ne_eq, not_false_eq_true, Nat.zero_ne_one]
        rw [if_pos]
        · simp only [QA]
          have hszl : S.szL (args ++ [rt]) = S.szL args + rt.sz + 1 := szL_snoc args rt
          refine NR_blk ((all3 (m := m) (v53 := f) (v54 := .int .i64 g.fs.length) (v55 := .int .i64 j) hcf hw kk hB t6 (by omega) (by omega) (by omega) (fun τ σ' i h1 h2 h3 => ⟨_, h3, h1, i, rfl, fun _ => hAll⟩) (by simp only [QA, reduceCtorEq, g0]) (by simp only [QA, Nat.reduceEqDiff, g53]) (by simp only [QA, Nat.reduceEqDiff, g54]) (by simp only [QA, Nat.reduceEqDiff, g55]) (by simp only [QA, Nat.reduceEqDiff]) (by simp only [QA, Nat.reduceEqDiff]) (by simp only [QA, Nat.reduceEqDiff])).mono ?_ (fun _ _ h => h))
          rintro τ2 σ7 ⟨r1, r0, r53, r54, r55⟩
          exact ⟨r55, r54, r1, by simp only [r0], by simp only [r53]⟩
        · rw [owe_at hq' hw3]
          · rfl
          · intro s h
            simp only [List.reverse_cons, List.reverse_nil, List.nil_append, List.cons_append, List.drop_zero, List.take_succ_cons, List.take_zero, List.mem_cons, List.not_mem_nil, or_false] at h
            rcases h with rfl | rfl
            · exact hKn
            · exact hKn.trans t2
      · rintro τ σ' ⟨hK, _⟩
        exact hK
      · exact ⟨hK1, by simp only [QA, reduceCtorEq, g0], by simp only [QA, Nat.reduceEqDiff]⟩
      · simp only [QA, Nat.reduceEqDiff]
      · simp only [QA, Nat.reduceEqDiff]
      · rintro τ σ' hK
        simp only [QA, Nat.reduceAdd, Nat.reduceLeDiff]
        exact ⟨hK, 0, rfl, fun _ => hAll⟩
  obtain ⟨v, σ', h1, h2, i, rfl, h3⟩ := key
  exact ⟨i, σ', h1, h2, h3⟩
end Go.Proofs.YtfgghbikbaopjaaGreatDoorEng

namespace Go.Proofs.YtfgghbikbaopjaaGreatDoorEng
open Go
set_option maxRecDepth 100000
set_option linter.unusedSimpArgs false

/-- not this slice's block -/
def Off (b : H) (A : V) (z : Nat) : Prop := b.nx.toNat ≤ z ∧ ∀ (x : Pos) ver o l c k, A = .sl x ver o l c k → z ≠ x.toNat
/-- two lists of strings that lie apart -/
def P2 (b σ : H) (a : V) (L : List (List Nat)) (A : V) (M : List (List Nat)) : Prop := GL Est 9 σ (Off b A) a L ∧ GL Est 9 σ (Off b a) A M
theorem P2.symm {b σ : H} {a A : V} {L M : List (List Nat)} (h : P2 b σ a L A M) : P2 b σ A M a L := ⟨h.2, h.1⟩
theorem P2.keep {b σ σ' : H} {a A : V} {L M : List (List Nat)} (h : P2 b σ a L A M) (k : Keep σ σ') : P2 b σ' a L A M := ⟨h.1.keep k, h.2.keep k⟩
theorem P2.nils (b σ : H) : P2 b σ .nils [] .nils [] := ⟨.nils, .nils⟩
theorem gl_block {_b σ : H} {A : V} {Q : Nat → Prop} {M : List (List Nat)} (h : GL Est 9 σ Q A M) : ∀ (x : Pos) ver o l c k, A = .sl x ver o l c k → Q x.toNat ∧ x.toNat < σ.nx.toNat := by
  intro x ver o l c k e
  cases h with
  | nils => cases e
  | own x' ver' minv ex C L hg hq hx hne hl he => cases e; exact ⟨hq, hx⟩
theorem gl_low {σ : H} {A : V} {Q Q' : Nat → Prop} {M : List (List Nat)} (h : GL Est 9 σ Q A M) (hq : ∀ (x : Pos) ver o l c k, A = .sl x ver o l c k → Q' x.toNat) : GL Est 9 σ Q' A M := by
  cases h with
  | nils => exact .nils
  | own x ver minv ex C L hg hq' hx hne hl he => exact .own x ver minv ex C _ hg (hq _ _ _ _ _ _ rfl) hx hne hl fun i c y e1 e2 => (he i c y e1 e2 : c = [.str y])
theorem P2.app {b σ0 σ : H} {a A : V} {L M : List (List Nat)} {s : List Nat} (hwb : WfH b) (h : P2 b σ0 a L A M) (hKb : Keep b σ0) (hK : Keep σ0 σ) (hb : L.length + 1 < BB) :
    ∃ v' σ', appV (σ.new (.cells 9 [.str s] 0 0 (some 0) [])) 9 1 16 a (.sl σ.nx 0 0 1 (some 1) 0) = .ok v' σ' ∧ P2 b σ' v' (L ++ [s]) A M ∧ Keep b σ' ∧ ∀ z : Pos, σ0.nx.toNat ≤ z.toNat → z.toNat < σ.nx.toNat → σ'.get z = σ.get z := by
  have hKbs := hKb.trans hK
  obtain ⟨h1, h2⟩ := h
  obtain ⟨v', σ', k1, k2, k3, k4, k5, _⟩ := GL.app (E := Est) (eb := 16) (c := [.str s]) (y := s) (by decide) h1 hK (fun z hz => ⟨Nat.le_trans hKb.1 hz, fun x ver o l c k e => by have := (gl_block (_b := b) h2 x ver o l c k e).2; omega⟩) rfl (by simp [mostBytes]; unfold BB at hb; omega) (by simp [mostBytes]; unfold BB at hb; omega) (hKbs.2.2 hwb)
  refine ⟨v', σ', k1, ⟨k2, ?_⟩, ⟨Nat.le_trans hKbs.1 k4, fun x hx => ?_, fun _ => k3⟩, fun z h0 h1' => H.get_of_m (k5 z h1' fun ver l e => by have := (gl_block (_b := b) h1 z ver 0 l none 1 e).2; omega)⟩
  · have hA : GL Est 9 σ' (Off b a) A M := by
      cases h2 with
      | nils => exact .nils
      | own x ver minv ex C L' hg hq hx hne hl he =>
        refine .own x ver minv ex C _ ?_ hq (Nat.lt_of_lt_of_le hx (Nat.le_trans hK.1 k4)) hne hl fun i c y e1 e2 => (he i c y e1 e2 : c = [.str y])
        rw [H.get_of_m (k5 x (Nat.lt_of_lt_of_le hx hK.1) fun ver' l' e => hq.2 x ver' 0 l' none 1 e rfl), H.get_of_m (hK.2.1 x hx)]
        exact hg
    refine gl_low hA fun x ver o l c k e => ⟨(gl_block (_b := b) hA x ver o l c k e).1.1, fun x' ver' o' l' c' k' e' e2 => ?_⟩
    exact (gl_block (_b := b) k2 x' ver' o' l' c' k' e').1.2 x ver o l c k e e2.symm
  · rw [k5 x (Nat.lt_of_lt_of_le hx hKbs.1), hKbs.2.1 x hx]
    rintro ver l rfl
    have := (gl_block (_b := b) h1 x ver 0 l none 1 rfl).1.1
    omega
theorem bs9 (s : List Nat) : kBs1 9 (some (.str s)) = some (.sl 1 1, .cells 9 [.str s] 0 0 (some 0) []) := rfl
theorem snoc_all {K : Nat} {D : List (List Nat)} {s : List Nat} (h : ∀ x ∈ D, x.length < K) (hs : s.length < K) : ∀ x ∈ D ++ [s], x.length < K := by
  intro x hx
  rcases List.mem_append.1 hx with h1 | h1
  · exact h x h1
  · simp at h1; subst h1; exact hs

def Wnama : List Nat := [5, 11, 44, 45, 46, 47, 48, 49, 50, 51, 52, 53]
/-- nam: the selectors of a constructor -/
theorem nam1 {lf : Nat} {cf : CallF} {b σ : H} {o : Bool} {Q : Nat → Prop} {a A : V} {L : List Se} {K : Nat} {D0 M : List (List Nat)} {v0 : V} (hwb : WfH b) (hKb : Keep b σ) (hA : SP Ese 42 o b Q a L) (hlf : sum seSz L < lf) (hBB : sum seSz L < BB) (hK' : sum seSz L ≤ K)
    (hP : P2 b σ v0 D0 A M) (hD : ∀ s ∈ D0, s.length < K) (hn : D0.length + sum seSz L < BB)
    {T : Tr V → H → Prop} {τ : Tr V} (fl : τ.get (pk 5) = some v0) (fa : τ.get (pk 42) = some a) (fn : τ.get (pk 43) = some (.int .i64 L.length)) (fi : τ.get (pk 44) = some (.int .i64 0)) :
    NR (kBlk 4 (exec cf lf 71 (.loop b72_1) τ σ [])) (fun τ' σ' => Keep b σ' ∧ Fr Wnama τ τ' ∧ ∃ v D, τ'.get (pk 5) = some v ∧ P2 b σ' v D A M ∧ (∀ s ∈ D, s.length < K) ∧ D.length ≤ D0.length + L.length) T := by
  have hlen := sum_len seSz L
  refine range_rule (l := 45) (i := 44) (nn := 43) (k := 53) (id := 4) (id' := 5) (B := y72_1) (N := L.length)
    (fun j τ' σ' => Keep b σ' ∧ Fr Wnama τ τ' ∧ ∃ v D, τ'.get (pk 5) = some v ∧ P2 b σ' v D A M ∧ (∀ s ∈ D, s.length < K) ∧ D.length ≤ D0.length + j) _ T (by decide) (by decide) (by decide) (by decide) (by decide) (by decide) (by decide) (by omega) (by unfold BB at hBB; omega) ?_ ?_ ?_ fi fn
  · rintro j τ' σ' hj ⟨hK, hF, v, D, gl, hP, hD, hDl⟩ gi gn
    have ga := hF.get (by decide) fa
    obtain ⟨⟨nm, s'⟩, hs'⟩ : ∃ s', L[j]? = some s' := ⟨_, List.getElem?_eq_getElem hj⟩
    have hsz := sum_mem (f := seSz) hs'
    simp only [seSz] at hsz
    obtain ⟨q, ce, q1, q2, q3⟩ := (hA.keep hK).elem hs'
    have ql := Ese.len q3
    have qo := Ese.one q3
    have lq := q2.ldg ql
    obtain ⟨σ3, k1, k2, k3⟩ := var_new σ' 42 5 (zs := [.str [], .int .i64 0, .int .i64 0, .str [], .nils]) rfl ql qo
    obtain ⟨d, rfl, q4⟩ := q3
    have l0 := (At.var k3).ldv
    obtain ⟨v', σ4, k4, k5, k6, k7⟩ := hP.app (s := nm) hwb hK k2 (by omega)
    simp only [y72_1, QA, Nat.reduceAdd, Nat.reduceLeDiff, Nat.reduceEqDiff, QZ, gl, ga, gi, gn, q1, lq, k1, l0, bs9, k4]
    refine ⟨k6, ?_, _, _, rfl, k5, snoc_all hD (by omega), by rw [List.length_append, List.length_singleton]; omega⟩
    repeat refine Fr.set ?_ (by decide)
    exact hF
  · rintro τ' σ' ⟨hK, hF, v, D, gl, hP, hD, hDl⟩
    exact ⟨hK, hF.set (by decide), v, D, by simp only [QA, Nat.reduceEqDiff, gl], hP, hD, hDl⟩
  · exact ⟨hKb, Fr.refl _ _, v0, D0, fl, hP, hD, Nat.le_refl _⟩

def Wnamb : List Nat := [9, 32, 33, 34, 35, 36, 37, 38, 39, 40, 41, 42, 43, 54] ++ Wnama
/-- .. the constructors of a datatype -/
theorem nam2 {lf : Nat} {cf : CallF} {b σ : H} {o : Bool} {Q : Nat → Prop} {a A : V} {L : List Co} {K : Nat} {D0 M : List (List Nat)} {v0 : V} (hwb : WfH b) (hKb : Keep b σ) (hA : SP Eco 36 o b Q a L) (hlf : sum coSz L < lf) (hBB : sum coSz L < BB) (hK' : sum coSz L ≤ K)
    (hP : P2 b σ v0 D0 A M) (hD : ∀ s ∈ D0, s.length < K) (hn : D0.length + sum coSz L < BB)
    {T : Tr V → H → Prop} {τ : Tr V} (fl : τ.get (pk 5) = some v0) (fa : τ.get (pk 30) = some a) (fn : τ.get (pk 31) = some (.int .i64 L.length)) (fi : τ.get (pk 32) = some (.int .i64 0)) :
    NR (kBlk 2 (exec cf lf 71 (.loop b72_3) τ σ [])) (fun τ' σ' => Keep b σ' ∧ Fr Wnamb τ τ' ∧ ∃ v D, τ'.get (pk 5) = some v ∧ P2 b σ' v D A M ∧ (∀ s ∈ D, s.length < K) ∧ D.length ≤ D0.length + sum coSz L) T := by
  have hlen := sum_len coSz L
  refine range_rule (l := 33) (i := 32) (nn := 31) (k := 54) (id := 2) (id' := 3) (B := y72_3) (N := L.length)
    (fun j τ' σ' => Keep b σ' ∧ Fr Wnamb τ τ' ∧ ∃ v D, τ'.get (pk 5) = some v ∧ P2 b σ' v D A M ∧ (∀ s ∈ D, s.length < K) ∧ D.length ≤ D0.length + sum coSz (L.take j)) _ T (by decide) (by decide) (by decide) (by decide) (by decide) (by decide) (by decide) (by omega) (by unfold BB at hBB; omega) ?_ ?_ ?_ fi fn
  · rintro j τ' σ' hj ⟨hK, hF, v, D, gl, hP, hD, hDl⟩ gi gn
    have ga := hF.get (by decide) fa
    obtain ⟨⟨nm, sels⟩, hs'⟩ : ∃ s', L[j]? = some s' := ⟨_, List.getElem?_eq_getElem hj⟩
    have hsz := sum_mem (f := coSz) hs'
    have htl : sum coSz (L.take (j + 1)) = sum coSz (L.take j) + coSz (nm, sels) + 1 := by rw [take_snoc hs', sum_snoc]
    have hle := sum_take coSz L (j + 1)
    simp only [coSz] at hsz htl
    have hsl := sum_len seSz sels
    obtain ⟨q, ce, q1, q2, a', rfl, q3⟩ := hA.elem hs'
    simp only at q3
    have lq := (q2.keep hwb hK).ldg (n := 2) rfl
    have hw' := hK.2.2 hwb
    obtain ⟨σ3, k1, k2, k3⟩ := var_new σ' 36 2 (zs := [.str [], .nils]) (c := [.str nm, a']) rfl rfl (by rw [List.all_cons, List.all_cons, q3.one]; rfl)
    have l0 := (At.var k3).ldv
    obtain ⟨v', σ4, k4, k5, k6, k7⟩ := hP.app (s := nm) hwb hK k2 (by omega)
    -- the box is read again
    have lb : ldv σ4 (.ptr σ'.nx 0 1) = some a' := by
      have hx : σ4.get σ'.nx = σ3.get σ'.nx := k7 σ'.nx (Nat.le_refl _) (k2.2.2 hw' _ _ k3)
      exact ldk (hx.trans k3) rfl
    simp only [y72_3, QA, Nat.reduceAdd, Nat.reduceLeDiff, Nat.reduceEqDiff, QZ, gl, ga, gi, q1, lq, k1, l0, bs9, k4, lb, q3.len]
    refine NR_blk ((nam1 (L := sels) (K := K) (D0 := D ++ [nm]) hwb k6 q3 (by omega) (by omega) (by omega) k5 (snoc_all hD (by omega)) (by rw [List.length_append, List.length_singleton]; omega) (by simp only [QA, Nat.reduceEqDiff]) (by simp only [QA, Nat.reduceEqDiff]) (by simp only [QA, Nat.reduceEqDiff]) (by simp only [QA, Nat.reduceEqDiff])).mono ?_ (fun _ _ h => h))
    rintro τ2 σ5 ⟨hK5, hF2, v2, D2, r1, r2, r3, r4⟩
    rw [List.length_append, List.length_singleton] at r4
    refine ⟨hF2.get (by decide) (by simp only [QA, Nat.reduceEqDiff, gi]), hF2.get (by decide) (by simp only [QA, Nat.reduceEqDiff, gn]), hK5, ?_, v2, D2, by simp only [r1], r2, r3, by omega⟩
    have hF3 := hF2.low (W' := Wnamb) (by decide)
    refine Fr.set (Fr.set (Fr.trans ?_ hF3) (by decide)) (by decide)
    repeat refine Fr.set ?_ (by decide)
    exact hF
  · rintro τ' σ' ⟨hK, hF, v, D, gl, hP, hD, hDl⟩
    rw [List.take_of_length_le (Nat.le_refl _)] at hDl
    exact ⟨hK, hF.set (by decide), v, D, by simp only [QA, Nat.reduceEqDiff, gl], hP, hD, hDl⟩
  · exact ⟨hKb, Fr.refl _ _, v0, D0, fl, hP, hD, by simp⟩

/-- .. the functions -/
theorem nam4 {lf : Nat} {cf : CallF} {b σ : H} {o : Bool} {Q : Nat → Prop} {a A : V} {L : List Fu} {K : Nat} {D0 M : List (List Nat)} {v0 : V} (hwb : WfH b) (hKb : Keep b σ) (hA : SP Efu 44 o b Q a L) (hlf : sum fuSz L < lf) (hBB : sum fuSz L < BB) (hK' : sum fuSz L ≤ K)
    (hP : P2 b σ v0 D0 A M) (hD : ∀ s ∈ D0, s.length < K) (hn : D0.length + sum fuSz L < BB)
    {T : Tr V → H → Prop} {τ : Tr V} {v4 : Option V} (f4 : τ.get (pk 4) = v4) (fl : τ.get (pk 5) = some v0) (fa : τ.get (pk 57) = some a) (fn : τ.get (pk 58) = some (.int .i64 L.length)) (fi : τ.get (pk 59) = some (.int .i64 0)) :
    NR (kBlk 6 (exec cf lf 71 (.loop b72_7) τ σ [])) (fun τ' σ' => Keep b σ' ∧ τ'.get (pk 4) = v4 ∧ ∃ v D, τ'.get (pk 5) = some v ∧ P2 b σ' v D A M ∧ (∀ s ∈ D, s.length < K) ∧ D.length ≤ D0.length + sum fuSz L) T := by
  have hlen := sum_len fuSz L
  refine range_rule (l := 60) (i := 59) (nn := 58) (k := 68) (id := 6) (id' := 7) (B := y72_7) (N := L.length)
    (fun j τ' σ' => Keep b σ' ∧ τ'.get (pk 4) = v4 ∧ τ'.get (pk 57) = some a ∧ ∃ v D, τ'.get (pk 5) = some v ∧ P2 b σ' v D A M ∧ (∀ s ∈ D, s.length < K) ∧ D.length ≤ D0.length + j) _ T (by decide) (by decide) (by decide) (by decide) (by decide) (by decide) (by decide) (by omega) (by unfold BB at hBB; omega) ?_ ?_ ?_ fi fn
  · rintro j τ' σ' hj ⟨hK, g4, ga, v, D, gl, hP, hD, hDl⟩ gi gn
    obtain ⟨⟨nm, args, rt⟩, hs'⟩ : ∃ s', L[j]? = some s' := ⟨_, List.getElem?_eq_getElem hj⟩
    have hsz := sum_mem (f := fuSz) hs'
    simp only [fuSz] at hsz
    obtain ⟨q, ce, q1, q2, q3⟩ := (hA.keep hK).elem hs'
    have ql := Efu.len q3
    have qo := Efu.one q3
    have lq := q2.ldg ql
    obtain ⟨σ3, k1, k2, k3⟩ := var_new σ' 44 6 (zs := [.str [], .nils, .int .i64 0, .int .i64 0, .str [], .nils]) rfl ql qo
    obtain ⟨a', d, rfl, q4, q5⟩ := q3
    have l0 := (At.var k3).ldv
    obtain ⟨v', σ4, k4, k5, k6, k7⟩ := hP.app (s := nm) hwb hK k2 (by omega)
    simp only [y72_7, QA, Nat.reduceAdd, Nat.reduceLeDiff, Nat.reduceEqDiff, QZ, g4, gl, ga, gi, gn, q1, lq, k1, l0, bs9, k4]
    exact ⟨k6, _, _, rfl, k5, snoc_all hD (by omega), by rw [List.length_append, List.length_singleton]; omega⟩
  · rintro τ' σ' ⟨hK, g4, ga, v, D, gl, hP, hD, hDl⟩
    exact ⟨hK, by simp only [QA, Nat.reduceEqDiff, g4], v, D, by simp only [QA, Nat.reduceEqDiff, gl], hP, hD, by omega⟩
  · exact ⟨hKb, f4, fa, v0, D0, fl, hP, hD, Nat.le_refl _⟩

def Wfnma : List Nat := [3, 9, 34, 35, 36, 37, 38, 39, 40, 41, 42, 43]
/-- fnm: the selectors of a constructor -/
theorem fnm1 {lf : Nat} {cf : CallF} {b σ : H} {o : Bool} {Q : Nat → Prop} {a A : V} {L : List Se} {K : Nat} {D0 M : List (List Nat)} {v0 : V} (hwb : WfH b) (hKb : Keep b σ) (hA : SP Ese 42 o b Q a L) (hlf : sum seSz L < lf) (hBB : sum seSz L < BB) (hK' : sum seSz L ≤ K)
    (hP : P2 b σ v0 D0 A M) (hD : ∀ s ∈ D0, s.length < K) (hn : D0.length + sum seSz L < BB)
    {T : Tr V → H → Prop} {τ : Tr V} (fl : τ.get (pk 3) = some v0) (fa : τ.get (pk 32) = some a) (fn : τ.get (pk 33) = some (.int .i64 L.length)) (fi : τ.get (pk 34) = some (.int .i64 0)) :
    NR (kBlk 4 (exec cf lf 60 (.loop b69_1) τ σ [])) (fun τ' σ' => Keep b σ' ∧ Fr Wfnma τ τ' ∧ ∃ v D, τ'.get (pk 3) = some v ∧ P2 b σ' v D A M ∧ (∀ s ∈ D, s.length < K) ∧ D.length ≤ D0.length + L.length) T := by
  have hlen := sum_len seSz L
  refine range_rule (l := 35) (i := 34) (nn := 33) (k := 43) (id := 4) (id' := 5) (B := y69_1) (N := L.length)
    (fun j τ' σ' => Keep b σ' ∧ Fr Wfnma τ τ' ∧ ∃ v D, τ'.get (pk 3) = some v ∧ P2 b σ' v D A M ∧ (∀ s ∈ D, s.length < K) ∧ D.length ≤ D0.length + j) _ T (by decide) (by decide) (by decide) (by decide) (by decide) (by decide) (by decide) (by omega) (by unfold BB at hBB; omega) ?_ ?_ ?_ fi fn
  · rintro j τ' σ' hj ⟨hK, hF, v, D, gl, hP, hD, hDl⟩ gi gn
    have ga := hF.get (by decide) fa
    obtain ⟨⟨nm, s'⟩, hs'⟩ : ∃ s', L[j]? = some s' := ⟨_, List.getElem?_eq_getElem hj⟩
    have hsz := sum_mem (f := seSz) hs'
    simp only [seSz] at hsz
    obtain ⟨q, ce, q1, q2, q3⟩ := (hA.keep hK).elem hs'
    have ql := Ese.len q3
    have qo := Ese.one q3
    have lq := q2.ldg ql
    obtain ⟨σ3, k1, k2, k3⟩ := var_new σ' 42 5 (zs := [.str [], .int .i64 0, .int .i64 0, .str [], .nils]) rfl ql qo
    obtain ⟨d, rfl, q4⟩ := q3
    have l0 := (At.var k3).ldv
    obtain ⟨v', σ4, k4, k5, k6, k7⟩ := hP.app (s := nm) hwb hK k2 (by omega)
    simp only [y69_1, QA, Nat.reduceAdd, Nat.reduceLeDiff, Nat.reduceEqDiff, QZ, gl, ga, gi, gn, q1, lq, k1, l0, bs9, k4]
    refine ⟨k6, ?_, _, _, rfl, k5, snoc_all hD (by omega), by rw [List.length_append, List.length_singleton]; omega⟩
    repeat refine Fr.set ?_ (by decide)
    exact hF
  · rintro τ' σ' ⟨hK, hF, v, D, gl, hP, hD, hDl⟩
    exact ⟨hK, hF.set (by decide), v, D, by simp only [QA, Nat.reduceEqDiff, gl], hP, hD, hDl⟩
  · exact ⟨hKb, Fr.refl _ _, v0, D0, fl, hP, hD, Nat.le_refl _⟩

def Wfnmb : List Nat := [7, 22, 23, 24, 25, 26, 27, 28, 29, 30, 31, 32, 33, 44] ++ Wfnma
/-- .. the constructors of a datatype -/
theorem fnm2 {lf : Nat} {cf : CallF} {b σ : H} {o : Bool} {Q : Nat → Prop} {a A : V} {L : List Co} {K : Nat} {D0 M : List (List Nat)} {v0 : V} (hwb : WfH b) (hKb : Keep b σ) (hA : SP Eco 36 o b Q a L) (hlf : sum coSz L < lf) (hBB : sum coSz L < BB) (hK' : sum coSz L ≤ K)
    (hP : P2 b σ v0 D0 A M) (hD : ∀ s ∈ D0, s.length < K) (hn : D0.length + sum coSz L < BB)
    {T : Tr V → H → Prop} {τ : Tr V} (fl : τ.get (pk 3) = some v0) (fa : τ.get (pk 20) = some a) (fn : τ.get (pk 21) = some (.int .i64 L.length)) (fi : τ.get (pk 22) = some (.int .i64 0)) :
    NR (kBlk 2 (exec cf lf 60 (.loop b69_3) τ σ [])) (fun τ' σ' => Keep b σ' ∧ Fr Wfnmb τ τ' ∧ ∃ v D, τ'.get (pk 3) = some v ∧ P2 b σ' v D A M ∧ (∀ s ∈ D, s.length < K) ∧ D.length ≤ D0.length + sum coSz L) T := by
  have hlen := sum_len coSz L
  refine range_rule (l := 23) (i := 22) (nn := 21) (k := 44) (id := 2) (id' := 3) (B := y69_3) (N := L.length)
    (fun j τ' σ' => Keep b σ' ∧ Fr Wfnmb τ τ' ∧ ∃ v D, τ'.get (pk 3) = some v ∧ P2 b σ' v D A M ∧ (∀ s ∈ D, s.length < K) ∧ D.length ≤ D0.length + sum coSz (L.take j)) _ T (by decide) (by decide) (by decide) (by decide) (by decide) (by decide) (by decide) (by omega) (by unfold BB at hBB; omega) ?_ ?_ ?_ fi fn
  · rintro j τ' σ' hj ⟨hK, hF, v, D, gl, hP, hD, hDl⟩ gi gn
    have ga := hF.get (by decide) fa
    obtain ⟨⟨nm, sels⟩, hs'⟩ : ∃ s', L[j]? = some s' := ⟨_, List.getElem?_eq_getElem hj⟩
    have hsz := sum_mem (f := coSz) hs'
    have htl : sum coSz (L.take (j + 1)) = sum coSz (L.take j) + coSz (nm, sels) + 1 := by rw [take_snoc hs', sum_snoc]
    have hle := sum_take coSz L (j + 1)
    simp only [coSz] at hsz htl
    have hsl := sum_len seSz sels
    obtain ⟨q, ce, q1, q2, a', rfl, q3⟩ := hA.elem hs'
    simp only at q3
    have lq := (q2.keep hwb hK).ldg (n := 2) rfl
    have hw' := hK.2.2 hwb
    obtain ⟨σ3, k1, k2, k3⟩ := var_new σ' 36 2 (zs := [.str [], .nils]) (c := [.str nm, a']) rfl rfl (by rw [List.all_cons, List.all_cons, q3.one]; rfl)
    have l0 := (At.var k3).ldv
    obtain ⟨v', σ4, k4, k5, k6, k7⟩ := hP.app (s := nm) hwb hK k2 (by omega)
    -- the box is read again
    have lb : ldv σ4 (.ptr σ'.nx 0 1) = some a' := by
      have hx : σ4.get σ'.nx = σ3.get σ'.nx := k7 σ'.nx (Nat.le_refl _) (k2.2.2 hw' _ _ k3)
      exact ldk (hx.trans k3) rfl
    simp only [y69_3, QA, Nat.reduceAdd, Nat.reduceLeDiff, Nat.reduceEqDiff, QZ, gl, ga, gi, q1, lq, k1, l0, bs9, k4, lb, q3.len]
    refine NR_blk ((fnm1 (L := sels) (K := K) (D0 := D ++ [nm]) hwb k6 q3 (by omega) (by omega) (by omega) k5 (snoc_all hD (by omega)) (by rw [List.length_append, List.length_singleton]; omega) (by simp only [QA, Nat.reduceEqDiff]) (by simp only [QA, Nat.reduceEqDiff]) (by simp only [QA, Nat.reduceEqDiff]) (by simp only [QA, Nat.reduceEqDiff])).mono ?_ (fun _ _ h => h))
    rintro τ2 σ5 ⟨hK5, hF2, v2, D2, r1, r2, r3, r4⟩
    rw [List.length_append, List.length_singleton] at r4
    refine ⟨hF2.get (by decide) (by simp only [QA, Nat.reduceEqDiff, gi]), hF2.get (by decide) (by simp only [QA, Nat.reduceEqDiff, gn]), hK5, ?_, v2, D2, by simp only [r1], r2, r3, by omega⟩
    have hF3 := hF2.low (W' := Wfnmb) (by decide)
    refine Fr.set (Fr.set (Fr.trans ?_ hF3) (by decide)) (by decide)
    repeat refine Fr.set ?_ (by decide)
    exact hF
  · rintro τ' σ' ⟨hK, hF, v, D, gl, hP, hD, hDl⟩
    rw [List.take_of_length_le (Nat.le_refl _)] at hDl
    exact ⟨hK, hF.set (by decide), v, D, by simp only [QA, Nat.reduceEqDiff, gl], hP, hD, hDl⟩
  · exact ⟨hKb, Fr.refl _ _, v0, D0, fl, hP, hD, by simp⟩

/-- .. the functions -/
theorem fnm4 {lf : Nat} {cf : CallF} {b σ : H} {o : Bool} {Q : Nat → Prop} {a A : V} {L : List Fu} {K : Nat} {D0 M : List (List Nat)} {v0 : V} (hwb : WfH b) (hKb : Keep b σ) (hA : SP Efu 44 o b Q a L) (hlf : sum fuSz L < lf) (hBB : sum fuSz L < BB) (hK' : sum fuSz L ≤ K)
    (hP : P2 b σ v0 D0 A M) (hD : ∀ s ∈ D0, s.length < K) (hn : D0.length + sum fuSz L < BB)
    {T : Tr V → H → Prop} {τ : Tr V} {v4 : Option V} (f4 : τ.get (pk 4) = v4) (fl : τ.get (pk 3) = some v0) (fa : τ.get (pk 47) = some a) (fn : τ.get (pk 48) = some (.int .i64 L.length)) (fi : τ.get (pk 49) = some (.int .i64 0)) :
    NR (kBlk 6 (exec cf lf 60 (.loop b69_7) τ σ [])) (fun τ' σ' => Keep b σ' ∧ τ'.get (pk 4) = v4 ∧ ∃ v D, τ'.get (pk 3) = some v ∧ P2 b σ' v D A M ∧ (∀ s ∈ D, s.length < K) ∧ D.length ≤ D0.length + sum fuSz L) T := by
  have hlen := sum_len fuSz L
  refine range_rule (l := 50) (i := 49) (nn := 48) (k := 58) (id := 6) (id' := 7) (B := y69_7) (N := L.length)
    (fun j τ' σ' => Keep b σ' ∧ τ'.get (pk 4) = v4 ∧ τ'.get (pk 47) = some a ∧ ∃ v D, τ'.get (pk 3) = some v ∧ P2 b σ' v D A M ∧ (∀ s ∈ D, s.length < K) ∧ D.length ≤ D0.length + j) _ T (by decide) (by decide) (by decide) (by decide) (by decide) (by decide) (by decide) (by omega) (by unfold BB at hBB; omega) ?_ ?_ ?_ fi fn
  · rintro j τ' σ' hj ⟨hK, g4, ga, v, D, gl, hP, hD, hDl⟩ gi gn
    obtain ⟨⟨nm, args, rt⟩, hs'⟩ : ∃ s', L[j]? = some s' := ⟨_, List.getElem?_eq_getElem hj⟩
    have hsz := sum_mem (f := fuSz) hs'
    simp only [fuSz] at hsz
    obtain ⟨q, ce, q1, q2, q3⟩ := (hA.keep hK).elem hs'
    have ql := Efu.len q3
    have qo := Efu.one q3
    have lq := q2.ldg ql
    obtain ⟨σ3, k1, k2, k3⟩ := var_new σ' 44 6 (zs := [.str [], .nils, .int .i64 0, .int .i64 0, .str [], .nils]) rfl ql qo
    obtain ⟨a', d, rfl, q4, q5⟩ := q3
    have l0 := (At.var k3).ldv
    obtain ⟨v', σ4, k4, k5, k6, k7⟩ := hP.app (s := nm) hwb hK k2 (by omega)
    simp only [y69_7, QA, Nat.reduceAdd, Nat.reduceLeDiff, Nat.reduceEqDiff, QZ, g4, gl, ga, gi, gn, q1, lq, k1, l0, bs9, k4]
    exact ⟨k6, _, _, rfl, k5, snoc_all hD (by omega), by rw [List.length_append, List.length_singleton]; omega⟩
  · rintro τ' σ' ⟨hK, g4, ga, v, D, gl, hP, hD, hDl⟩
    exact ⟨hK, by simp only [QA, Nat.reduceEqDiff, g4], v, D, by simp only [QA, Nat.reduceEqDiff, gl], hP, hD, by omega⟩
  · exact ⟨hKb, f4, fa, v0, D0, fl, hP, hD, Nat.le_refl _⟩
end Go.Proofs.YtfgghbikbaopjaaGreatDoorEng

namespace Go.Proofs.YtfgghbikbaopjaaGreatDoorEng
open Go
set_option maxRecDepth 100000
set_option linter.unusedSimpArgs false

/-- how large a signature is -/
def sgSz (g : Sg) : Nat := sum List.length g.us + sum daSz g.ds + sum fuSz g.fs + 1
theorem c29_at : T1.code 29 = some (cloneF 9 1 16) := by kernel_rfl
theorem c72_at : T1.code 72 = some c72 := by kernel_rfl
/-- names -/
theorem names_call {lf m : Nat} {σ : H} {Q : Nat → Prop} {u d f : V} {g : Sg} (hw : WfH σ) (hu : SP Est 9 true σ Q u g.us) (hd : SP Eda 33 true σ Q d g.ds) (hf : SP Efu 44 true σ Q f g.fs) (hlf : sgSz g < lf) (hBB : 2 * sgSz g < BB) :
    ∃ v w σ', call T1 lf (m + 2) 72 [.agg [u, d, f]] σ = .ret (.tup [v, w]) σ' ∧ Keep σ σ' ∧ ∃ D E, SP Est 9 true σ' (fun _ => True) v D ∧ SP Est 9 true σ' (fun _ => True) w E ∧ (∀ s ∈ D, s.length < sgSz g) ∧ (∀ s ∈ E, s.length < sgSz g) ∧ D.length ≤ sgSz g ∧ E.length ≤ sgSz g := by
  have hlu := sum_len List.length g.us
  have hld := sum_len daSz g.ds
  have hlfs := sum_len fuSz g.fs
  have hsg : sgSz g = sum List.length g.us + sum daSz g.ds + sum fuSz g.fs + 1 := rfl
  refine call_rt2 (p := pk 2) (q := pk 3) (Post := fun v w σ' => Keep σ σ' ∧ ∃ D E, SP Est 9 true σ' (fun _ => True) v D ∧ SP Est 9 true σ' (fun _ => True) w E ∧ (∀ s ∈ D, s.length < sgSz g) ∧ (∀ s ∈ E, s.length < sgSz g) ∧ D.length ≤ sgSz g ∧ E.length ≤ sgSz g) rfl c72_at (by simp [c72]) rfl fun cf hcf => ?_
  generalize hτ : bindArgs [.agg [u, d, f]] .h .lf = τ0
  have h0 : τ0.get (pk 0) = some (.agg [u, d, f]) := by rw [← hτ]; rfl
  clear hτ
  have hKa := Keep.new σ (.cells 26 [u, d, f] 0 0 (some 0) [])
  have ga := (Keep.refl (σ.new (.cells 26 [u, d, f] 0 0 (some 0) []))).at
  have hw1 := hKa.2.2 hw
  generalize hσ1 : σ.new (.cells 26 [u, d, f] 0 0 (some 0) []) = σ1 at *
  have l0 : ldv σ1 (.ptr σ.nx 0 0) = some u := ldk ga rfl
  have hd1 := hd.keep hKa
  have hf1 := hf.keep hKa
  obtain ⟨v4, σ2, t1, t2, t3, t4⟩ := clone_call (E := Est) (f := 29) (lf := lf) (m := m) rfl c29_at hw1 (hu.keep hKa) (by decide) (by simp [mostBytes]; unfold BB at hBB; omega) (by simp [mostBytes]; unfold BB at hBB; omega)
  have hP0 : P2 σ1 σ2 .nils [] v4 g.us := ⟨.nils, gl_low t3 fun x ver o l c k e => ⟨t4 x ver o l c k e, fun _ _ _ _ _ _ h => by cases h⟩⟩
  have l1 : ldv σ2 (.ptr σ.nx 0 1) = some d := ldk (t2.get_some hw1 ga) rfl
  have hus : ∀ s ∈ g.us, s.length < sgSz g := fun s hs => by
    obtain ⟨i, hi⟩ := List.getElem?_of_mem hs
    have := sum_mem (f := List.length) hi
    omega
  rw [← hcf] at t1
  simp only [c72, QA, Nat.reduceAdd, Nat.reduceLeDiff, Nat.reduceEqDiff, QZ, e_box, h0, hσ1, l0, t1, l1, hd.len]
  refine Rt_seqNR (range_rule (l := 21) (i := 20) (nn := 19) (k := 55) (id := 0) (id' := 1) (B := y72_5) (N := g.ds.length)
    (fun j τ σ' => Keep σ1 σ' ∧ τ.get (pk 1) = some (.ptr σ.nx 0 0) ∧ τ.get (pk 18) = some d ∧ ∃ v4 D4 v5 D5, τ.get (pk 4) = some v4 ∧ τ.get (pk 5) = some v5 ∧ P2 σ1 σ' v5 D5 v4 D4 ∧ (∀ s ∈ D4, s.length < sgSz g) ∧ (∀ s ∈ D5, s.length < sgSz g) ∧ D4.length ≤ g.us.length + j ∧ D5.length ≤ sum daSz (g.ds.take j))
    (fun τ σ' => Keep σ1 σ' ∧ τ.get (pk 1) = some (.ptr σ.nx 0 0) ∧ ∃ v4 D4 v5 D5, τ.get (pk 4) = some v4 ∧ τ.get (pk 5) = some v5 ∧ P2 σ1 σ' v5 D5 v4 D4 ∧ (∀ s ∈ D4, s.length < sgSz g) ∧ (∀ s ∈ D5, s.length < sgSz g) ∧ D4.length ≤ g.us.length + g.ds.length ∧ D5.length ≤ sum daSz g.ds) _ (by decide) (by decide) (by decide) (by decide) (by decide) (by decide) (by decide) (by omega) (by unfold BB at hBB; omega) ?_ ?_ ?_ ?_ ?_) ?_
  · rintro j τ' σ' hj ⟨hK, g1, g18, v4, D4, v5, D5, g4, g5, hP, hD4, hD5, hl4, hl5⟩ g20 g19
    obtain ⟨⟨nm, cons⟩, hs'⟩ : ∃ s', g.ds[j]? = some s' := ⟨_, List.getElem?_eq_getElem hj⟩
    have hsz := sum_mem (f := daSz) hs'
    have htl : sum daSz (g.ds.take (j + 1)) = sum daSz (g.ds.take j) + daSz (nm, cons) + 1 := by rw [take_snoc hs', sum_snoc]
    have hle := sum_take daSz g.ds (j + 1)
    simp only [daSz] at hsz htl
    obtain ⟨q, ce, q1, q2, a', rfl, q3⟩ := hd1.elem hs'
    simp only at q3
    have lq := (q2.keep hw1 hK).ldg (n := 2) rfl
    have hw' := hK.2.2 hw1
    obtain ⟨σ3, k1, k2, k3⟩ := var_new σ' 33 2 (zs := [.str [], .nils]) (c := [.str nm, a']) rfl rfl (by rw [List.all_cons, List.all_cons, q3.one]; rfl)
    have lc := (At.var k3).ldv
    obtain ⟨v4', σ4, k4, k5, k6, k7⟩ := hP.symm.app (s := nm) hw1 hK k2 (by omega)
    have lb : ldv σ4 (.ptr σ'.nx 0 1) = some a' := ldk ((k7 σ'.nx (Nat.le_refl _) (k2.2.2 hw' _ _ k3)).trans k3) rfl
    simp only [y72_5, QA, Nat.reduceAdd, Nat.reduceLeDiff, Nat.reduceEqDiff, QZ, g4, g18, g20, q1, lq, k1, lc, bs9, k4, lb, q3.len]
    refine NR_blk ((nam2 (L := cons) (K := sgSz g) hw1 k6 q3 (by omega) (by omega) (by omega) k5.symm hD5 (by omega) (by simp only [QA, Nat.reduceEqDiff, g5]) (by simp only [QA, Nat.reduceEqDiff]) (by simp only [QA, Nat.reduceEqDiff]) (by simp only [QA, Nat.reduceEqDiff])).mono ?_ (fun _ _ h => h))
    rintro τ2 σ5 ⟨hK5, hF, v6, D6, r6, r7, r8, r9⟩
    have r1 := hF.get (s := 1) (v := .ptr σ.nx 0 0) (by decide) (by simp only [QA, Nat.reduceEqDiff, g1])
    have r4 := hF.get (s := 4) (v := v4') (by decide) (by simp only [QA, Nat.reduceEqDiff])
    have r18 := hF.get (s := 18) (v := d) (by decide) (by simp only [QA, Nat.reduceEqDiff, g18])
    have r19 := hF.get (s := 19) (v := .int .i64 g.ds.length) (by decide) (by simp only [QA, Nat.reduceEqDiff, g19])
    have r20 := hF.get (s := 20) (v := .int .i64 j) (by decide) (by simp only [QA, Nat.reduceEqDiff, g20])
    exact ⟨r20, r19, hK5, by simp only [r1], by simp only [r18], v4', D4 ++ [nm], v6, D6, by simp only [r4], by simp only [r6], r7, snoc_all hD4 (by omega), r8, by rw [List.length_append, List.length_singleton]; omega, by omega⟩
  · rintro τ σ' ⟨hK, g1, g18, v4, D4, v5, D5, g4, g5, hP, hD4, hD5, hl4, hl5⟩
    rw [List.take_of_length_le (Nat.le_refl _)] at hl5
    exact ⟨hK, by simp only [QA, Nat.reduceEqDiff, g1], v4, D4, v5, D5, by simp only [QA, Nat.reduceEqDiff, g4], by simp only [QA, Nat.reduceEqDiff, g5], hP, hD4, hD5, hl4, hl5⟩
  · exact ⟨t2, by simp only [QA, Nat.reduceEqDiff], by simp only [QA, Nat.reduceEqDiff], v4, g.us, .nils, [], by simp only [QA, Nat.reduceEqDiff], by simp only [QA, Nat.reduceEqDiff], hP0, hus, fun s h => (by cases h), Nat.le_refl _, Nat.zero_le _⟩
  · simp only [QA, Nat.reduceEqDiff]
  · simp only [QA, Nat.reduceEqDiff]
  · rintro τ σ' ⟨hK, g1, v4, D4, v5, D5, g4, g5, hP, hD4, hD5, hl4, hl5⟩
    have l2 : ldv σ' (.ptr σ.nx 0 2) = some f := ldk (hK.get_some hw1 ga) rfl
    simp only [QA, Nat.reduceAdd, Nat.reduceLeDiff, QZ, g1, l2, hf.len]
    refine Rt_seqNR (nam4 (L := g.fs) (K := sgSz g) hw1 hK hf1 (by omega) (by omega) (by omega) hP hD5 (by omega) (v4 := some v4) (by simp only [QA, Nat.reduceEqDiff, g4]) (by simp only [QA, Nat.reduceEqDiff, g5]) (by simp only [QA, Nat.reduceEqDiff]) (by simp only [QA, Nat.reduceEqDiff]) (by simp only [QA, Nat.reduceEqDiff])) ?_
    rintro τ2 σ5 ⟨hK5, r4, v6, D6, r6, r7, r8, r9⟩
    simp only [QA, Nat.reduceAdd, Nat.reduceLeDiff, Nat.reduceEqDiff, r4, r6]
    exact ⟨_, _, rfl, rfl, hKa.trans hK5, D4, D6, r7.2.sp.low fun _ _ => trivial, r7.1.sp.low fun _ _ => trivial, hD4, r8, by omega, by omega⟩

theorem c69_at : T1.code 69 = some c69 := by kernel_rfl
/-- funNames -/
theorem funNames_call {lf m : Nat} {σ : H} {o : Bool} {Q : Nat → Prop} {u d f : V} {g : Sg} (hw : WfH σ) (hd : SP Eda 33 o σ Q d g.ds) (hf : SP Efu 44 o σ Q f g.fs) (hlf : sgSz g < lf) (hBB : 2 * sgSz g < BB) :
    ∃ v σ', call T1 lf (m + 1) 69 [.agg [u, d, f]] σ = .ret v σ' ∧ Keep σ σ' ∧ ∃ D, SP Est 9 true σ' (fun _ => True) v D ∧ (∀ s ∈ D, s.length < sgSz g) ∧ D.length ≤ sgSz g := by
  have hld := sum_len daSz g.ds
  have hlfs := sum_len fuSz g.fs
  have hsg : sgSz g = sum List.length g.us + sum daSz g.ds + sum fuSz g.fs + 1 := rfl
  refine call_rt1 (p := pk 2) rfl c69_at (by simp [c69]) rfl fun cf hcf => ?_
  clear hcf
  generalize hτ : bindArgs [.agg [u, d, f]] .h .lf = τ0
  have h0 : τ0.get (pk 0) = some (.agg [u, d, f]) := by rw [← hτ]; rfl
  have hn4 : τ0.get (pk 4) = none := by rw [← hτ]; rfl
  clear hτ
  have hKa := Keep.new σ (.cells 26 [u, d, f] 0 0 (some 0) [])
  have ga := (Keep.refl (σ.new (.cells 26 [u, d, f] 0 0 (some 0) []))).at
  have hw1 := hKa.2.2 hw
  generalize hσ1 : σ.new (.cells 26 [u, d, f] 0 0 (some 0) []) = σ1 at *
  have l1 : ldv σ1 (.ptr σ.nx 0 1) = some d := ldk ga rfl
  have hd1 := hd.keep hKa
  have hf1 := hf.keep hKa
  simp only [c69, QA, Nat.reduceAdd, Nat.reduceLeDiff, Nat.reduceEqDiff, QZ, e_box, h0, hσ1, l1, hd.len]
  refine Rt_seqNR (range_rule (l := 16) (i := 15) (nn := 14) (k := 45) (id := 0) (id' := 1) (B := y69_5) (N := g.ds.length)
    (fun j τ σ' => Keep σ1 σ' ∧ τ.get (pk 1) = some (.ptr σ.nx 0 0) ∧ τ.get (pk 13) = some d ∧ ∃ v5 D5, τ.get (pk 3) = some v5 ∧ P2 σ1 σ' v5 D5 .nils [] ∧ (∀ s ∈ D5, s.length < sgSz g) ∧ D5.length ≤ sum daSz (g.ds.take j))
    (fun τ σ' => Keep σ1 σ' ∧ τ.get (pk 1) = some (.ptr σ.nx 0 0) ∧ ∃ v5 D5, τ.get (pk 3) = some v5 ∧ P2 σ1 σ' v5 D5 .nils [] ∧ (∀ s ∈ D5, s.length < sgSz g) ∧ D5.length ≤ sum daSz g.ds) _ (by decide) (by decide) (by decide) (by decide) (by decide) (by decide) (by decide) (by omega) (by unfold BB at hBB; omega) ?_ ?_ ?_ ?_ ?_) ?_
  · rintro j τ' σ' hj ⟨hK, g1, g13, v5, D5, g3, hP, hD5, hl5⟩ g15 g14
    obtain ⟨⟨nm, cons⟩, hs'⟩ : ∃ s', g.ds[j]? = some s' := ⟨_, List.getElem?_eq_getElem hj⟩
    have hsz := sum_mem (f := daSz) hs'
    have htl : sum daSz (g.ds.take (j + 1)) = sum daSz (g.ds.take j) + daSz (nm, cons) + 1 := by rw [take_snoc hs', sum_snoc]
    have hle := sum_take daSz g.ds (j + 1)
    simp only [daSz] at hsz htl
    obtain ⟨q, ce, q1, q2, a', rfl, q3⟩ := hd1.elem hs'
    simp only at q3
    have lq := (q2.keep hw1 hK).ldg (n := 2) rfl
    obtain ⟨σ3, k1, k2, k3⟩ := var_new σ' 33 2 (zs := [.str [], .nils]) (c := [.str nm, a']) rfl rfl (by rw [List.all_cons, List.all_cons, q3.one]; rfl)
    have lb : ldv σ3 (.ptr σ'.nx 0 1) = some a' := ldk k3 rfl
    simp only [y69_5, QA, Nat.reduceAdd, Nat.reduceLeDiff, Nat.reduceEqDiff, QZ, g13, g15, q1, lq, k1, lb, q3.len]
    refine NR_blk ((fnm2 (L := cons) (K := sgSz g) hw1 (hK.trans k2) q3 (by omega) (by omega) (by omega) (hP.keep k2) hD5 (by omega) (by simp only [QA, Nat.reduceEqDiff, g3]) (by simp only [QA, Nat.reduceEqDiff]) (by simp only [QA, Nat.reduceEqDiff]) (by simp only [QA, Nat.reduceEqDiff])).mono ?_ (fun _ _ h => h))
    rintro τ2 σ5 ⟨hK5, hF, v6, D6, r6, r7, r8, r9⟩
    have r1 := hF.get (s := 1) (v := .ptr σ.nx 0 0) (by decide) (by simp only [QA, Nat.reduceEqDiff, g1])
    have r13 := hF.get (s := 13) (v := d) (by decide) (by simp only [QA, Nat.reduceEqDiff, g13])
    have r14 := hF.get (s := 14) (v := .int .i64 g.ds.length) (by decide) (by simp only [QA, Nat.reduceEqDiff, g14])
    have r15 := hF.get (s := 15) (v := .int .i64 j) (by decide) (by simp only [QA, Nat.reduceEqDiff, g15])
    exact ⟨r15, r14, hK5, by simp only [r1], by simp only [r13], v6, D6, by simp only [r6], r7, r8, by omega⟩
  · rintro τ σ' ⟨hK, g1, g13, v5, D5, g3, hP, hD5, hl5⟩
    rw [List.take_of_length_le (Nat.le_refl _)] at hl5
    exact ⟨hK, by simp only [QA, Nat.reduceEqDiff, g1], v5, D5, by simp only [QA, Nat.reduceEqDiff, g3], hP, hD5, hl5⟩
  · exact ⟨Keep.refl _, by simp only [QA, Nat.reduceEqDiff], by simp only [QA, Nat.reduceEqDiff], .nils, [], by simp only [QA, Nat.reduceEqDiff], P2.nils _ _, fun s h => (by cases h), Nat.zero_le _⟩
  · simp only [QA, Nat.reduceEqDiff]
  · simp only [QA, Nat.reduceEqDiff]
  · rintro τ σ' ⟨hK, g1, v5, D5, g3, hP, hD5, hl5⟩
    have l2 : ldv σ' (.ptr σ.nx 0 2) = some f := ldk (hK.get_some hw1 ga) rfl
    simp only [QA, Nat.reduceAdd, Nat.reduceLeDiff, QZ, g1, l2, hf.len]
    refine Rt_seqNR (fnm4 (L := g.fs) (K := sgSz g) hw1 hK hf1 (by omega) (by omega) (by omega) hP hD5 (by omega) (v4 := τ.get (pk 4)) (by simp only [QA, Nat.reduceEqDiff]) (by simp only [QA, Nat.reduceEqDiff, g3]) (by simp only [QA, Nat.reduceEqDiff]) (by simp only [QA, Nat.reduceEqDiff]) (by simp only [QA, Nat.reduceEqDiff])) ?_
    rintro τ2 σ5 ⟨hK5, r4, v6, D6, r6, r7, r8, r9⟩
    simp only [QA, Nat.reduceAdd, Nat.reduceLeDiff, Nat.reduceEqDiff, r6]
    exact ⟨hKa.trans hK5, D6, r7.1.sp.low fun _ _ => trivial, r8, by omega⟩

def WB : V → Prop := fun v => ∃ b, v = .bool b
theorem c74_at : T1.code 74 = some c74 := by kernel_rfl
/-- twice -/
theorem twice_call {lf m : Nat} {σ : H} {o : Bool} {Q : Nat → Prop} {a : V} {L : List (List Nat)} (_hw : WfH σ) (hA : SP Est 9 o σ Q a L) (hlf : L.length < lf) (hBB : L.length < BB) :
    ∃ v σ', call T1 lf (m + 1) 74 [a] σ = .ret v σ' ∧ Keep σ σ' ∧ ∃ b, v = .bool b := by
  refine call_rt1 (p := pk 2) rfl c74_at (by simp [c74]) rfl fun cf hcf => ?_
  clear hcf
  generalize hτ : bindArgs [a] .h .lf = τ0
  have h0 : τ0.get (pk 0) = some a := by rw [← hτ]; rfl
  clear hτ
  have hKa := Keep.new σ (.mp [])
  have ga := (Keep.refl (σ.new (.mp []))).at
  have hxn : σ.nx.toNat < (σ.new (.mp [])).nx.toNat := by rw [nx_new]; omega
  simp only [c74, QA, reduceCtorEq, Nat.reduceAdd, Nat.reduceLeDiff, Nat.reduceEqDiff, QZ, h0, hA.len]
  generalize hσ1 : σ.new (.mp []) = σ1 at *
  refine Rt_seqNR (range_rule (l := 10) (i := 9) (nn := 8) (k := 18) (id := 0) (id' := 1) (B := y74_1) (N := L.length)
    (fun j τ σ' => Keep σ σ' ∧ σ.nx.toNat < σ'.nx.toNat ∧ τ.get (pk 3) = some (.map σ.nx) ∧ τ.get (pk 7) = some a ∧ MapIs σ' σ.nx KS WB)
    (fun τ σ' => Keep σ σ') _ (by decide) (by decide) (by decide) (by decide) (by decide) (by decide) (by decide) hlf (by unfold BB at hBB; omega) ?_ ?_ ?_ ?_ ?_) ?_
  · rintro j τ' σ' hj ⟨hK, hn, g3, g7, hM⟩ g9 g8
    obtain ⟨s, hs⟩ : ∃ s', L[j]? = some s' := ⟨_, List.getElem?_eq_getElem hj⟩
    obtain ⟨q, ce, q1, q2, rfl⟩ := (hA.keep hK).elem hs
    have lq := q2.ldv
    obtain ⟨v, _, ⟨b, rfl⟩, lk, _⟩ := hM.look good_str (k := .str s) (z := .bool false) ⟨s, rfl⟩ ⟨false, rfl⟩
    obtain ⟨es', up, hM2⟩ := hM.upd good_str (k := .str s) (v := .bool true) ⟨s, rfl⟩ ⟨true, rfl⟩
    cases b with
    | true =>
      simp only [y74_1, QA, Nat.reduceAdd, Nat.reduceLeDiff, Nat.reduceEqDiff, QZ, g3, g7, g9, q1, lq, lk]
      exact ⟨hK, _, rfl⟩
    | false =>
      simp only [y74_1, QA, Nat.reduceAdd, Nat.reduceLeDiff, Nat.reduceEqDiff, QZ, g3, g7, g8, g9, q1, lq, lk, up]
      exact ⟨hK.put (Nat.le_refl _) hn _, by rw [nx_put]; exact hn, hM2⟩
  · rintro τ σ' ⟨hK, _⟩
    exact hK
  · exact ⟨hKa, hxn, by simp only [QA, Nat.reduceEqDiff], by simp only [QA, Nat.reduceEqDiff], [], ga, fun e h => by cases h⟩
  · simp only [QA, Nat.reduceEqDiff]
  · simp only [QA, Nat.reduceEqDiff]
  · rintro τ σ' hK
    simp only [QA, Nat.reduceAdd, Nat.reduceLeDiff]
    exact ⟨hK, _, rfl⟩
end Go.Proofs.YtfgghbikbaopjaaGreatDoorEng

namespace Go.Proofs.YtfgghbikbaopjaaGreatDoorEng
open Go
set_option maxRecDepth 100000
set_option linter.unusedSimpArgs false

/-- a book in the making -/
structure Bst (b σ : H) (xb xm : Pos) (u d f : V) (N : Nat) : Prop where
  keep : Keep b σ
  hb : σ.get xb = some (.cells 248 [u, d, f, .map xm] 0 0 (some 0) [])
  hm : MapIs σ xm KP (WI N)
  lo : b.nx.toNat ≤ xm.toNat
  hi : xm.toNat < σ.nx.toNat
theorem Bst.later {b σ σ' : H} {xb xm : Pos} {u d f : V} {N : Nat} (hwb : WfH b) (h : Bst b σ xb xm u d f N) (k : Keep σ σ') : Bst b σ' xb xm u d f N := by
  have hw := h.keep.2.2 hwb
  exact ⟨h.keep.trans k, k.get_some hw h.hb, h.hm.keep hw k, h.lo, Nat.lt_of_lt_of_le h.hi k.1⟩
theorem Bst.upd {b σ : H} {xb xm : Pos} {u d f : V} {N : Nat} (h : Bst b σ xb xm u d f N) {i : Int} {s : List Nat} {v : V} (hv : WI N v) : ∃ σ', muV σ (.flat 2 [(0, .int), (1, .str)]) (.agg [.int .i64 i, .str s]) v (.map xm) = .ok undefV σ' ∧ Bst b σ' xb xm u d f N := by
  obtain ⟨es', h1, h2⟩ := h.hm.upd good_pair (k := .agg [.int .i64 i, .str s]) ⟨i, s, rfl⟩ hv
  refine ⟨_, h1, h.keep.put h.lo h.hi _, ?_, h2, h.lo, h.hi⟩
  rw [H.get_put, if_neg]
  · exact h.hb
  · rintro rfl
    obtain ⟨es, h3, _⟩ := h.hm
    rw [h.hb] at h3; cases h3

theorem c75_at : T1.code 75 = some c75 := by kernel_rfl
/-- open -/
theorem open_call {lf m : Nat} {σ : H} {Q : Nat → Prop} {u d f : V} {g : Sg} (hw : WfH σ) (hu : SP Est 9 true σ Q u g.us) (hd : SP Eda 33 true σ Q d g.ds) (hf : SP Efu 44 true σ Q f g.fs) (hlf : sgSz g < lf) (hBB : sgSz g < BB) :
    ∃ v σ', call T1 lf (m + 1) 75 [.agg [u, d, f]] σ = .ret v σ' ∧ Keep σ σ' ∧ ∃ xb, v = .ptr xb 0 0 ∧ Book σ' xb g := by
  have hlu := sum_len List.length g.us
  have hld := sum_len daSz g.ds
  have hsg : sgSz g = sum List.length g.us + sum daSz g.ds + sum fuSz g.fs + 1 := rfl
  refine call_rt1 (p := pk 2) rfl c75_at (by simp [c75]) rfl fun cf hcf => ?_
  clear hcf
  generalize hτ : bindArgs [.agg [u, d, f]] .h .lf = τ0
  have h0 : τ0.get (pk 0) = some (.agg [u, d, f]) := by rw [← hτ]; rfl
  clear hτ
  have hKa := Keep.new σ (.cells 26 [u, d, f] 0 0 (some 0) [])
  have ga := (Keep.refl (σ.new (.cells 26 [u, d, f] 0 0 (some 0) []))).at
  have hw1 := hKa.2.2 hw
  generalize hσ1 : σ.new (.cells 26 [u, d, f] 0 0 (some 0) []) = σ1 at *
  have lg1 := (At.var ga).ldg (n := 3) rfl
  have hKm := Keep.new σ1 (.mp [])
  have gm := (Keep.refl (σ1.new (.mp []))).at
  have hmn : σ1.nx.toNat < (σ1.new (.mp [])).nx.toNat := by rw [nx_new]; omega
  have hw2 := hKm.2.2 hw1
  have bd : kBuild [.nils, .nils, .nils, .mapn] (some [(0, 3, .agg [u, d, f]), (3, 1, .map σ1.nx)]) = some (.agg [u, d, f, .map σ1.nx]) := rfl
  generalize hσ2 : σ1.new (.mp []) = σ2 at *
  have hKb := Keep.new σ2 (.cells 248 [u, d, f, .map σ1.nx] 0 0 (some 0) [])
  have gb := (Keep.refl (σ2.new (.cells 248 [u, d, f, .map σ1.nx] 0 0 (some 0) []))).at
  have hw3 := hKb.2.2 hw2
  generalize hσ3 : σ2.new (.cells 248 [u, d, f, .map σ1.nx] 0 0 (some 0) []) = σ3 at *
  have hKab := hKa.trans (hKm.trans hKb)
  have hB0 : Bst σ σ3 σ2.nx σ1.nx u d f g.ds.length := ⟨hKab, gb, MapIs.keep ⟨[], gm, fun e h => by cases h⟩ hw2 hKb, hKa.1, Nat.lt_of_lt_of_le hmn hKb.1⟩
  have gaa := (hKm.trans hKb).get_some hw1 ga
  have l0 : ldv σ3 (.ptr σ.nx 0 0) = some u := ldk gaa rfl
  simp only [c75, QA, Nat.reduceAdd, Nat.reduceLeDiff, Nat.reduceEqDiff, QZ, e_box, h0, hσ1, lg1, hσ2, bd, hσ3, l0, hu.len]
  refine Rt_seqNR (range_rule (l := 18) (i := 17) (nn := 16) (k := 27) (id := 0) (id' := 1) (B := y75_1) (N := g.us.length)
    (fun j τ σ' => (Bst σ σ' σ2.nx σ1.nx u d f g.ds.length ∧ σ'.get σ.nx = some (.cells 26 [u, d, f] 0 0 (some 0) [])) ∧ τ.get (pk 1) = some (.ptr σ.nx 0 0) ∧ τ.get (pk 3) = some (.ptr σ2.nx 0 0) ∧ τ.get (pk 15) = some u)
    (fun τ σ' => (Bst σ σ' σ2.nx σ1.nx u d f g.ds.length ∧ σ'.get σ.nx = some (.cells 26 [u, d, f] 0 0 (some 0) [])) ∧ τ.get (pk 1) = some (.ptr σ.nx 0 0) ∧ τ.get (pk 3) = some (.ptr σ2.nx 0 0)) _ (by decide) (by decide) (by decide) (by decide) (by decide) (by decide) (by decide) (by omega) (by unfold BB at hBB; omega) ?_ ?_ ?_ ?_ ?_) ?_
  · rintro j τ' σ' hj ⟨⟨hB, hg⟩, g1, g3, g15⟩ g17 g16
    obtain ⟨s, hs⟩ : ∃ s', g.us[j]? = some s' := ⟨_, List.getElem?_eq_getElem hj⟩
    obtain ⟨q, ce, q1, q2, rfl⟩ := (hu.keep hB.keep).elem hs
    have lq := q2.ldv
    have lm : ldv σ' (.ptr σ2.nx 0 3) = some (.map σ1.nx) := ldk hB.hb rfl
    have bp := pair_bd 5 s
    obtain ⟨σ4, up, hB4⟩ := hB.upd (i := 5) (s := s) (v := .int .i64 0) ⟨0, rfl, .inr rfl⟩
    have hg4 : σ4.get σ.nx = some (.cells 26 [u, d, f] 0 0 (some 0) []) := by
      obtain ⟨es', e1, _⟩ := hB.hm.upd good_pair (k := .agg [.int .i64 5, .str s]) (v := .int .i64 0) ⟨5, s, rfl⟩ ⟨0, rfl, .inr rfl⟩
      simp only [Q2] at e1
      rw [up] at e1
      cases e1
      rw [H.get_put, if_neg]
      · exact hg
      · rintro e
        obtain ⟨es, h3, _⟩ := hB.hm
        rw [← e, hg] at h3; cases h3
    simp only [y75_1, QA, Nat.reduceAdd, Nat.reduceLeDiff, Nat.reduceEqDiff, QZ, g3, g15, g16, g17, q1, lq, lm, bp, up]
    exact ⟨⟨hB4, hg4⟩, g1⟩
  · rintro τ σ' ⟨hB, g1, g3, g15⟩
    exact ⟨hB, by simp only [QA, Nat.reduceEqDiff, g1], by simp only [QA, Nat.reduceEqDiff, g3]⟩
  · exact ⟨⟨hB0, gaa⟩, by simp only [QA, Nat.reduceEqDiff], by simp only [QA, Nat.reduceEqDiff], by simp only [QA, Nat.reduceEqDiff]⟩
  · simp only [QA, Nat.reduceEqDiff]
  · simp only [QA, Nat.reduceEqDiff]
  · rintro τ σ' ⟨⟨hB, hg⟩, g1, g3⟩
    have l1 : ldv σ' (.ptr σ.nx 0 1) = some d := ldk hg rfl
    simp only [QA, Nat.reduceAdd, Nat.reduceLeDiff, QZ, g1, l1, hd.len]
    refine Rt_seqNR (range_rule (l := 32) (i := 31) (nn := 30) (k := 57) (id := 2) (id' := 3) (B := y75_3) (N := g.ds.length)
      (fun j τ σ' => Bst σ σ' σ2.nx σ1.nx u d f g.ds.length ∧ τ.get (pk 3) = some (.ptr σ2.nx 0 0) ∧ τ.get (pk 29) = some d)
      (fun τ σ' => Bst σ σ' σ2.nx σ1.nx u d f g.ds.length ∧ τ.get (pk 3) = some (.ptr σ2.nx 0 0)) _ (by decide) (by decide) (by decide) (by decide) (by decide) (by decide) (by decide) (by omega) (by unfold BB at hBB; omega) ?_ ?_ ?_ ?_ ?_) ?_
    · rintro j τ' σ' hj ⟨hB, g3, g29⟩ g31 g30
      obtain ⟨⟨nm, cons⟩, hs'⟩ : ∃ s', g.ds[j]? = some s' := ⟨_, List.getElem?_eq_getElem hj⟩
      obtain ⟨q, ce, q1, q2, a', rfl, q3⟩ := hd.elem hs'
      have lq := (q2.keep hw hB.keep).ldg (n := 2) rfl
      obtain ⟨σ4, k1, k2, k3⟩ := var_new σ' 33 2 (zs := [.str [], .nils]) (c := [.str nm, a']) rfl rfl (by rw [List.all_cons, List.all_cons, q3.one]; rfl)
      have hB4 := hB.later hw k2
      have lm : ldv σ4 (.ptr σ2.nx 0 3) = some (.map σ1.nx) := ldk hB4.hb rfl
      have ln : ldv σ4 (.ptr σ'.nx 0 0) = some (.str nm) := (At.var k3).ldv
      have bp := pair_bd 6 nm
      obtain ⟨v, bv, ⟨i, rfl, hi⟩, _, lk⟩ := hB4.hm.look good_pair (k := .agg [.int .i64 6, .str nm]) (z := .int .i64 0) ⟨6, nm, rfl⟩ ⟨0, rfl, .inr rfl⟩
      simp only [Q2, wi] at lk
      obtain ⟨σ5, up, hB5⟩ := hB4.upd (i := 6) (s := nm) (v := .int .i64 j) ⟨j, rfl, .inl hj⟩
      cases bv with
      | true =>
        simp only [y75_3, QA, Nat.reduceAdd, Nat.reduceLeDiff, Nat.reduceEqDiff, QD, QZ, g3, g29, g30, g31, q1, lq, k1, lm, ln, bp, lk, List.all_nil]
        exact hB4
      | false =>
        simp only [y75_3, QA, Nat.reduceAdd, Nat.reduceLeDiff, Nat.reduceEqDiff, QD, QZ, g3, g29, g30, g31, q1, lq, k1, lm, ln, bp, lk, up, List.all_nil]
        exact hB5
    · rintro τ σ' ⟨hB, g3, g29⟩
      exact ⟨hB, by simp only [QA, Nat.reduceEqDiff, g3]⟩
    · exact ⟨hB, by simp only [QA, Nat.reduceEqDiff, g3], by simp only [QA, Nat.reduceEqDiff]⟩
    · simp only [QA, Nat.reduceEqDiff]
    · simp only [QA, Nat.reduceEqDiff]
    · rintro τ σ' ⟨hB, g3⟩
      simp only [QA, Nat.reduceAdd, Nat.reduceLeDiff, Nat.reduceEqDiff, g3]
      exact ⟨hB.keep, σ2.nx, rfl, u, d, f, σ1.nx, hB.hb, ⟨u, d, f, rfl, (hu.keep hB.keep).low fun _ _ => trivial, (hd.keep hB.keep).low fun _ _ => trivial, (hf.keep hB.keep).low fun _ _ => trivial⟩, hB.hm⟩

theorem c143_at : T1.code 143 = some (indexF (.sc .bool)) := by kernel_rfl
theorem c79_at : T1.code 79 = some (containsF 143) := by kernel_rfl
theorem containsB_call {lf m : Nat} {σ : H} {a : V} {y : Pos} {L : List Bool} {b : Bool} (h : BL σ a y L) (hlf : L.length < lf) (hN : L.length < BB) :
    ∃ r σ', call T1 lf (m + 2) 79 [a, .bool b] σ = .ret r σ' ∧ σ' = σ ∧ ∃ b', r = .bool b' := by
  refine contains_call (f := 79) (g := 143) (Post := fun σ' => σ' = σ) rfl c79_at ?_
  refine index_call (f := 143) (q := .sc .bool) (N := L.length) rfl c143_at h.len (fun i hi => ?_) hlf (by unfold BB at hN; omega)
  obtain ⟨bv, hbv⟩ : ∃ bv, L[i]? = some bv := ⟨_, List.getElem?_eq_getElem hi⟩
  obtain ⟨r1, r2⟩ := h.elem hbv
  exact ⟨_, _, (b == bv), r1, r2, rfl⟩

theorem c34_at : T1.code 34 = some c34 := by kernel_rfl
set_option maxHeartbeats 1000000 in
/-- CheckSig -/
theorem checkSig_call {lf m : Nat} {σ : H} {Q : Nat → Prop} {u d f : V} {g : Sg} (hw : WfH σ) (hu : SP Est 9 true σ Q u g.us) (hd : SP Eda 33 true σ Q d g.ds) (hf : SP Efu 44 true σ Q f g.fs) (hlf : 2 * sgSz g < lf) (hBB : 2 * sgSz g < BB) (hm : sgSz g ≤ m) :
    ∃ i σ', call T1 lf (m + 6) 34 [.agg [u, d, f]] σ = .ret (.int .i64 i) σ' ∧ Keep σ σ' := by
  have hld := sum_len daSz g.ds
  have hsg : sgSz g = sum List.length g.us + sum daSz g.ds + sum fuSz g.fs + 1 := rfl
  have key : ∃ v σ', call T1 lf (m + 6) 34 [.agg [u, d, f]] σ = .ret v σ' ∧ (Keep σ σ' ∧ ∃ i : Int, v = .int .i64 i) := by
    refine call_rt1 (p := pk 2) rfl c34_at (by simp [c34]) rfl fun cf hcf => ?_
    generalize hτ : bindArgs [.agg [u, d, f]] .h .lf = τ0
    have h0 : τ0.get (pk 0) = some (.agg [u, d, f]) := by rw [← hτ]; rfl
    clear hτ
    have hKa := Keep.new σ (.cells 26 [u, d, f] 0 0 (some 0) [])
    have ga := (Keep.refl (σ.new (.cells 26 [u, d, f] 0 0 (some 0) []))).at
    have hw1 := hKa.2.2 hw
    generalize hσ1 : σ.new (.cells 26 [u, d, f] 0 0 (some 0) []) = σ1 at *
    have lg1 := (At.var ga).ldg (n := 3) rfl
    obtain ⟨r1, σ2, a1, a2, b1, rfl⟩ := many_call (lf := lf) (m := m + 4) hw1 (hu.keep hKa) (hd.keep hKa) (hf.keep hKa) (by omega) (by omega) (by omega) (by omega)
    have hw2 := a2.2.2 hw1
    have lg2 := (At.var (a2.get_some hw1 ga)).ldg (n := 3) rfl
    have hK2 := hKa.trans a2
    rw [← hcf] at a1
    cases b1 with
    | true =>
      simp only [c34, QA, Nat.reduceAdd, Nat.reduceLeDiff, Nat.reduceEqDiff, QZ, e_box, h0, hσ1, lg1, a1]
      exact ⟨hK2, _, rfl⟩
    | false =>
    obtain ⟨v3, v4, σ3, a3, a4, D, E, hD, hE, hDl, hEl, hDn, hEn⟩ := names_call (lf := lf) (m := m + 3) hw2 (hu.keep hK2) (hd.keep hK2) (hf.keep hK2) (by omega) hBB
    have hw3 := a4.2.2 hw2
    have hK3 := hK2.trans a4
    obtain ⟨v5, σ4, a5, a6, a7, a8⟩ := clone_call (E := Est) (f := 29) (lf := lf) (m := m + 4) rfl c29_at hw3 hD (by decide) (by simp [mostBytes]; unfold BB at hBB; omega) (by simp [mostBytes]; unfold BB at hBB; omega)
    have hw4 := a6.2.2 hw3
    have hE4 := hE.bd.keep a6
    obtain ⟨v6, σ5, a9, a10, a11⟩ := GL.appS (b := σ3) (eb := 16) a7 hE4 (by decide) (fun x ver o l c k h => ⟨a8 x ver o l c k h, fun hq => by have := a8 x ver o l c k h; have := hq.2; omega⟩) a6 (by simp [mostBytes]; unfold BB at hBB; omega) (by simp [mostBytes]; unfold BB at hBB; omega)
    have hw5 := a11.2.2 hw3
    rw [← hcf] at a3 a5
    simp only [c34, QA, Nat.reduceAdd, Nat.reduceLeDiff, Nat.reduceEqDiff, QZ, e_box, h0, hσ1, lg1, a1, lg2, a3, a5, a9, a10.len]
    refine Rt_seqNR (range_rule (l := 22) (i := 21) (nn := 20) (k := 28) (id := 0) (id' := 1) (B := y34_1) (N := (D ++ E).length)
      (fun j τ σ' => σ' = σ5 ∧ τ.get (pk 1) = some (.ptr σ.nx 0 0) ∧ τ.get (pk 3) = some v3 ∧ τ.get (pk 4) = some v4 ∧ τ.get (pk 19) = some v6)
      (fun τ σ' => σ' = σ5 ∧ τ.get (pk 1) = some (.ptr σ.nx 0 0) ∧ τ.get (pk 3) = some v3 ∧ τ.get (pk 4) = some v4) _ (by decide) (by decide) (by decide) (by decide) (by decide) (by decide) (by decide) (by rw [List.length_append]; omega) (by rw [List.length_append]; unfold BB at hBB; omega) ?_ ?_ ?_ ?_ ?_) ?_
    · rintro j τ' σ' hj ⟨hσ, g1, g3, g4, g19⟩ g21 g20
      subst hσ
      obtain ⟨s, hs⟩ : ∃ s', (D ++ E)[j]? = some s' := ⟨_, List.getElem?_eq_getElem hj⟩
      have hsl : s.length < sgSz g := by
        rcases List.mem_append.1 (List.mem_of_getElem? hs) with h | h
        · exact hDl s h
        · exact hEl s h
      obtain ⟨q, ce, q1, q2, rfl⟩ := a10.elem hs
      have lq := q2.ldv
      obtain ⟨bv, k1⟩ := name_call (lf := lf) (m := m + 4) (σ := σ') (s := s) (by omega) (by unfold BB at hBB; omega)
      rw [← hcf] at k1
      cases bv with
      | true => simp only [y34_1, QA, Nat.reduceAdd, Nat.reduceLeDiff, Nat.reduceEqDiff, g1, g3, g4, g19, g20, g21, q1, lq, k1]
      | false =>
        simp only [y34_1, QA, Nat.reduceAdd, Nat.reduceLeDiff, Nat.reduceEqDiff, g19, g21, q1, lq, k1]
        exact ⟨hK3.trans a11, _, rfl⟩
    · rintro τ σ' ⟨hσ, g1, g3, g4, g19⟩
      exact ⟨hσ, by simp only [QA, Nat.reduceEqDiff, g1], by simp only [QA, Nat.reduceEqDiff, g3], by simp only [QA, Nat.reduceEqDiff, g4]⟩
    · exact ⟨rfl, by simp only [QA, Nat.reduceEqDiff], by simp only [QA, Nat.reduceEqDiff], by simp only [QA, Nat.reduceEqDiff], by simp only [QA, Nat.reduceEqDiff]⟩
    · simp only [QA, Nat.reduceEqDiff]
    · simp only [QA, Nat.reduceEqDiff]
    · rintro τ σ' ⟨hσ, g1, g3, g4⟩
      subst hσ
      have hK5 := hK3.trans a11
      obtain ⟨r6, σ6, c1, c2, b6, rfl⟩ := twice_call (lf := lf) (m := m + 4) hw5 (hD.keep a11) (by omega) (by omega)
      have hw6 := c2.2.2 hw5
      rw [← hcf] at c1
      cases b6 with
      | true =>
        simp only [QA, Nat.reduceAdd, Nat.reduceLeDiff, Nat.reduceEqDiff, g3, g4, c1]
        exact ⟨hK5.trans c2, _, rfl⟩
      | false =>
      obtain ⟨r7, σ7, c3, c4, b7, rfl⟩ := twice_call (lf := lf) (m := m + 4) hw6 ((hE.keep a11).keep c2) (by omega) (by omega)
      have hw7 := c4.2.2 hw6
      have hK7 := hK5.trans (c2.trans c4)
      rw [← hcf] at c3
      cases b7 with
      | true =>
        simp only [QA, Nat.reduceAdd, Nat.reduceLeDiff, Nat.reduceEqDiff, g3, g4, c1, c3]
        exact ⟨hK7, _, rfl⟩
      | false =>
      have lg7 := (At.var ((a2.trans (a4.trans (a11.trans (c2.trans c4)))).get_some hw1 ga)).ldg (n := 3) rfl
      obtain ⟨_, σ8, c5, c6, xb, rfl, hB⟩ := open_call (lf := lf) (m := m + 4) hw7 (hu.keep hK7) (hd.keep hK7) (hf.keep hK7) (by omega) (by omega)
      have hw8 := c6.2.2 hw7
      have hK8 := hK7.trans c6
      obtain ⟨i, σ9, c7, c8, c9⟩ := allSorts_call (lf := lf) (m := m + 1) hw8 hB (by omega) (by omega) (by omega) (by omega) (by omega) (by omega)
      have hw9 := c8.2.2 hw8
      have hK9 := hK8.trans c8
      rw [← hcf] at c5 c7
      cases ei : (i != 0) with
      | true =>
        simp only [QA, Nat.reduceAdd, Nat.reduceLeDiff, Nat.reduceEqDiff, QZ, g1, g3, g4, c1, c3, lg7, c5, c7, ei]
        exact ⟨hK9, _, rfl⟩
      | false =>
      have hAll := c9 (by simpa using ei)
      have hB9 := hB.keep hw8 c8
      obtain ⟨lv, σ10, d1, d2, d3⟩ := leans_call (lf := lf) (m := m + 2) hw9 hB9 (by omega) (by omega) (by omega)
      have hw10 := d2.2.2 hw9
      have hB10 := hB9.keep hw9 d2
      obtain ⟨r11, σ11, d4, d5, b11, rfl⟩ := nested_call (lf := lf) (m := m + 3) hw10 hB10 d3 (by omega) (by omega) (by omega)
      have hw11 := d5.2.2 hw10
      have hK11 := hK9.trans (d2.trans d5)
      rw [← hcf] at d1 d4
      cases b11 with
      | true =>
        simp only [QA, Nat.reduceAdd, Nat.reduceLeDiff, Nat.reduceEqDiff, QZ, g1, g3, g4, c1, c3, lg7, c5, c7, ei, d1, d4]
        exact ⟨hK11, _, rfl⟩
      | false =>
      obtain ⟨gv, σ12, d6, d7, y, L, d8, d9⟩ := ground_call (lf := lf) (m := m) hw11 (hB10.keep hw10 d5) hAll (by omega) (by omega) (by omega)
      obtain ⟨r13, σ13, d10, d11, b13, rfl⟩ := containsB_call (lf := lf) (m := m + 3) (b := false) d8 (by omega) (by omega)
      subst d11
      rw [← hcf] at d6 d10
      cases b13 with
      | true =>
        simp only [QA, Nat.reduceAdd, Nat.reduceLeDiff, Nat.reduceEqDiff, QZ, g1, g3, g4, c1, c3, lg7, c5, c7, ei, d1, d4, d6, d10]
        exact ⟨hK11.trans d7, _, rfl⟩
      | false =>
        simp only [QA, Nat.reduceAdd, Nat.reduceLeDiff, Nat.reduceEqDiff, QZ, g1, g3, g4, c1, c3, lg7, c5, c7, ei, d1, d4, d6, d10]
        exact ⟨hK11.trans d7, _, rfl⟩
  obtain ⟨v, σ', h1, h2, i, rfl⟩ := key
  exact ⟨i, σ', h1, h2⟩
end Go.Proofs.YtfgghbikbaopjaaGreatDoorEng

