/- Symbolic runs: the environment: New, right, operator, sortUsed, funUsed. (Numbers of seat r3; the tables of operator are printed by tools/oper.py.) -/
/- Symbolic runs: New, right, sortUsed, funUsed. (Numbers of seat r3.) -/
/- Symbolic runs: declare, DeclareSort, DeclareFun. (Numbers of seat r3.) -/
/- Symbolic runs: DeclareDatas. (Numbers of seat r3.) -/
/- Symbolic runs: Sig. (Numbers of seat r3.) -/
import Derived.Test.YtfgghbikbaopjaaGreatDoorY3
namespace Go.Proofs.YtfgghbikbaopjaaGreatDoorEng
open Go
set_option maxRecDepth 100000
set_option linter.unusedSimpArgs false

def opN0 : List (List Nat) := [[110, 111, 116], [97, 110, 100], [111, 114], [120, 111, 114], [61, 62], [61], [100, 105, 115, 116, 105, 110, 99, 116], [105, 116, 101]]
theorem opB0 (τ : Tr V) : AOp.ev τ (.bslice 9 8 [(.str []), (.str []), (.str []), (.str []), (.str []), (.str []), (.str []), (.str [])] [(0, 1, (.k (.str [110, 111, 116]))), (1, 1, (.k (.str [97, 110, 100]))), (2, 1, (.k (.str [111, 114]))), (3, 1, (.k (.str [120, 111, 114]))), (4, 1, (.k (.str [61, 62]))), (5, 1, (.k (.str [61]))), (6, 1, (.k (.str [100, 105, 115, 116, 105, 110, 99, 116]))), (7, 1, (.k (.str [105, 116, 101])))]) = some (.sl 8 8, .cells 9 (opN0.map V.str) 0 0 (some 0) []) := by kernel_rfl
def opN1 : List (List Nat) := [[43], [45], [42], [100, 105, 118], [109, 111, 100], [97, 98, 115], [60, 61], [60], [62, 61], [62], [115, 101, 108, 101, 99, 116], [115, 116, 111, 114, 101], [99, 111, 110, 115, 116]]
theorem opB1 (τ : Tr V) : AOp.ev τ (.bslice 9 13 [(.str []), (.str []), (.str []), (.str []), (.str []), (.str []), (.str []), (.str []), (.str []), (.str []), (.str []), (.str []), (.str [])] [(0, 1, (.k (.str [43]))), (1, 1, (.k (.str [45]))), (2, 1, (.k (.str [42]))), (3, 1, (.k (.str [100, 105, 118]))), (4, 1, (.k (.str [109, 111, 100]))), (5, 1, (.k (.str [97, 98, 115]))), (6, 1, (.k (.str [60, 61]))), (7, 1, (.k (.str [60]))), (8, 1, (.k (.str [62, 61]))), (9, 1, (.k (.str [62]))), (10, 1, (.k (.str [115, 101, 108, 101, 99, 116]))), (11, 1, (.k (.str [115, 116, 111, 114, 101]))), (12, 1, (.k (.str [99, 111, 110, 115, 116])))]) = some (.sl 13 13, .cells 9 (opN1.map V.str) 0 0 (some 0) []) := by kernel_rfl
def opN2 : List (List Nat) := [[99, 111, 110, 99, 97, 116], [101, 120, 116, 114, 97, 99, 116], [98, 118, 110, 111, 116], [98, 118, 110, 101, 103], [98, 118, 97, 110, 100], [98, 118, 111, 114], [98, 118, 120, 111, 114], [98, 118, 110, 97, 110, 100], [98, 118, 110, 111, 114], [98, 118, 120, 110, 111, 114], [98, 118, 99, 111, 109, 112], [98, 118, 97, 100, 100], [98, 118, 115, 117, 98], [98, 118, 109, 117, 108], [98, 118, 117, 100, 105, 118], [98, 118, 117, 114, 101, 109], [98, 118, 115, 100, 105, 118], [98, 118, 115, 114, 101, 109], [98, 118, 115, 109, 111, 100], [98, 118, 115, 104, 108], [98, 118, 108, 115, 104, 114], [98, 118, 97, 115, 104, 114], [114, 101, 112, 101, 97, 116], [122, 101, 114, 111, 95, 101, 120, 116, 101, 110, 100], [115, 105, 103, 110, 95, 101, 120, 116, 101, 110, 100], [114, 111, 116, 97, 116, 101, 95, 108, 101, 102, 116], [114, 111, 116, 97, 116, 101, 95, 114, 105, 103, 104, 116], [98, 118, 117, 108, 116], [98, 118, 117, 108, 101], [98, 118, 117, 103, 116], [98, 118, 117, 103, 101], [98, 118, 115, 108, 116], [98, 118, 115, 108, 101], [98, 118, 115, 103, 116], [98, 118, 115, 103, 101]]
theorem opB2 (τ : Tr V) : AOp.ev τ (.bslice 9 35 [(.str []), (.str []), (.str []), (.str []), (.str []), (.str []), (.str []), (.str []), (.str []), (.str []), (.str []), (.str []), (.str []), (.str []), (.str []), (.str []), (.str []), (.str []), (.str []), (.str []), (.str []), (.str []), (.str []), (.str []), (.str []), (.str []), (.str []), (.str []), (.str []), (.str []), (.str []), (.str []), (.str []), (.str []), (.str [])] [(0, 1, (.k (.str [99, 111, 110, 99, 97, 116]))), (1, 1, (.k (.str [101, 120, 116, 114, 97, 99, 116]))), (2, 1, (.k (.str [98, 118, 110, 111, 116]))), (3, 1, (.k (.str [98, 118, 110, 101, 103]))), (4, 1, (.k (.str [98, 118, 97, 110, 100]))), (5, 1, (.k (.str [98, 118, 111, 114]))), (6, 1, (.k (.str [98, 118, 120, 111, 114]))), (7, 1, (.k (.str [98, 118, 110, 97, 110, 100]))), (8, 1, (.k (.str [98, 118, 110, 111, 114]))), (9, 1, (.k (.str [98, 118, 120, 110, 111, 114]))), (10, 1, (.k (.str [98, 118, 99, 111, 109, 112]))), (11, 1, (.k (.str [98, 118, 97, 100, 100]))), (12, 1, (.k (.str [98, 118, 115, 117, 98]))), (13, 1, (.k (.str [98, 118, 109, 117, 108]))), (14, 1, (.k (.str [98, 118, 117, 100, 105, 118]))), (15, 1, (.k (.str [98, 118, 117, 114, 101, 109]))), (16, 1, (.k (.str [98, 118, 115, 100, 105, 118]))), (17, 1, (.k (.str [98, 118, 115, 114, 101, 109]))), (18, 1, (.k (.str [98, 118, 115, 109, 111, 100]))), (19, 1, (.k (.str [98, 118, 115, 104, 108]))), (20, 1, (.k (.str [98, 118, 108, 115, 104, 114]))), (21, 1, (.k (.str [98, 118, 97, 115, 104, 114]))), (22, 1, (.k (.str [114, 101, 112, 101, 97, 116]))), (23, 1, (.k (.str [122, 101, 114, 111, 95, 101, 120, 116, 101, 110, 100]))), (24, 1, (.k (.str [115, 105, 103, 110, 95, 101, 120, 116, 101, 110, 100]))), (25, 1, (.k (.str [114, 111, 116, 97, 116, 101, 95, 108, 101, 102, 116]))), (26, 1, (.k (.str [114, 111, 116, 97, 116, 101, 95, 114, 105, 103, 104, 116]))), (27, 1, (.k (.str [98, 118, 117, 108, 116]))), (28, 1, (.k (.str [98, 118, 117, 108, 101]))), (29, 1, (.k (.str [98, 118, 117, 103, 116]))), (30, 1, (.k (.str [98, 118, 117, 103, 101]))), (31, 1, (.k (.str [98, 118, 115, 108, 116]))), (32, 1, (.k (.str [98, 118, 115, 108, 101]))), (33, 1, (.k (.str [98, 118, 115, 103, 116]))), (34, 1, (.k (.str [98, 118, 115, 103, 101])))]) = some (.sl 35 35, .cells 9 (opN2.map V.str) 0 0 (some 0) []) := by kernel_rfl

/-- strings in a row made at once -/
def SB (σ : H) (a : V) (x : Pos) (L : List (List Nat)) : Prop := a = .sl x 0 0 L.length (some L.length) 0 ∧ σ.get x = some (.cells 9 (L.map V.str) 0 0 (some 0) [])
theorem c192_at : T1.code 192 = some (indexF (.sc .str)) := by kernel_rfl
theorem indexS_call {lf m : Nat} {σ : H} {a : V} {x : Pos} {L : List (List Nat)} {s : List Nat} (h : SB σ a x L) (hlf : L.length < lf) (hN : L.length < BB) : ∃ i : Int, call T1 lf (m + 1) 192 [a, .str s] σ = .ret (.int .i64 i) σ := by
  obtain ⟨rfl, hg⟩ := h
  obtain ⟨r, σ', h1, rfl, i, rfl⟩ := index_call (f := 192) (q := .sc .str) (N := L.length) (lf := lf) (m := m) (σ := σ) (a := .sl x 0 0 L.length (some L.length) 0) (v := .str s) rfl c192_at rfl (fun i hi => by
    obtain ⟨t, ht⟩ : ∃ t, L[i]? = some t := ⟨_, List.getElem?_eq_getElem hi⟩
    refine ⟨.ptr x 0 i, .str t, natEq s t, ?_, ldk hg (by rw [List.getElem?_map, ht]; rfl), rfl⟩
    simp only [elemAt]
    rw [if_pos ⟨Int.natCast_nonneg i, by omega⟩]
    simp) hlf (by unfold BB at hN; omega)
  exact ⟨i, h1⟩
/-- Index in a slice of strings -/
theorem indexP_call {lf m : Nat} {σ : H} {o : Bool} {Q : Nat → Prop} {a : V} {L : List (List Nat)} {s : List Nat} (h : SP Est 9 o σ Q a L) (hlf : L.length < lf) (hN : L.length < BB) : ∃ i : Int, call T1 lf (m + 1) 192 [a, .str s] σ = .ret (.int .i64 i) σ := by
  obtain ⟨r, σ', h1, rfl, i, rfl⟩ := index_call (f := 192) (q := .sc .str) (N := L.length) (lf := lf) (m := m) (σ := σ) (a := a) (v := .str s) rfl c192_at h.len (fun i hi => by
    obtain ⟨t, ht⟩ : ∃ t, L[i]? = some t := ⟨_, List.getElem?_eq_getElem hi⟩
    obtain ⟨q, c, q1, q2, rfl⟩ := h.elem ht
    exact ⟨q, .str t, natEq s t, q1, q2.ldv, rfl⟩) hlf (by unfold BB at hN; omega)
  exact ⟨i, h1⟩
theorem c124_at : T1.code 124 = some (containsF 192) := by kernel_rfl
theorem containsP_call {lf m : Nat} {σ : H} {o : Bool} {Q : Nat → Prop} {a : V} {L : List (List Nat)} {s : List Nat} (h : SP Est 9 o σ Q a L) (hlf : L.length < lf) (hN : L.length < BB) : ∃ b, call T1 lf (m + 2) 124 [a, .str s] σ = .ret (.bool b) σ := by
  obtain ⟨i, hi⟩ := indexP_call (m := m) (s := s) h hlf hN
  obtain ⟨r, σ', h1, rfl, b, rfl⟩ := contains_call (f := 124) (g := 192) (Post := fun σ' => σ' = σ) rfl c124_at ⟨_, _, hi, rfl, i, rfl⟩
  exact ⟨b, h1⟩

def kIdxa (len esz : Nat) (ag : Bool) : Option V → Option V → Option V
  | some (.agg c), some (.int _ n) => if 0 ≤ n ∧ n < len then pick1 (if ag then some esz else none) c (n.toNat * esz) else none
  | _, _ => none
theorem e_idxa (τ : Tr V) (len esz : Nat) (ag : Bool) (a i : Arg) : POp.ev τ (.idxa len esz ag a i) = kIdxa len esz ag (a.ev τ) (i.ev τ) := by
  simp only [POp.ev]
  cases a.ev τ with
  | none => rfl
  | some v => cases v <;> try rfl
              cases i.ev τ with
              | none => rfl
              | some u => cases u <;> rfl
def kIarr (len esz : Nat) : Option V → Option V → Option V
  | some p, some (.int _ n) => if 0 ≤ n ∧ n < len then
      match p with
      | .ptr x v o => some (.ptr x v (o + n.toNat * esz))
      | .rop c o => some (.rop c (o + n.toNat * esz))
      | _ => none
    else none
  | _, _ => none
theorem e_iarr (τ : Tr V) (len esz : Nat) (a i : Arg) : POp.ev τ (.iarr len esz a i) = kIarr len esz (a.ev τ) (i.ev τ) := by
  simp only [POp.ev]
  cases a.ev τ with
  | none => rfl
  | some v => cases i.ev τ with
    | none => rfl
    | some u => cases u <;> rfl
theorem c133_at : T1.code 133 = some c133 := by kernel_rfl
/-- operator -/
theorem oper_call {lf m : Nat} {σ : H} {s : List Nat} (hw : WfH σ) (hlf : 35 < lf) : ∃ i σ', call T1 lf (m + 2) 133 [.str s] σ = .ret (.int .i64 i) σ' ∧ Keep σ σ' := by
  have key : ∃ v σ', call T1 lf (m + 2) 133 [.str s] σ = .ret v σ' ∧ (Keep σ σ' ∧ ∃ i : Int, v = .int .i64 i) := by
    refine call_rt1 (p := pk 2) rfl c133_at (by simp [c133]) rfl fun cf hcf => ?_
    generalize hτ : bindArgs [.str s] .h .lf = τ0
    have h0 : τ0.get (pk 0) = some (.str s) := by rw [← hτ]; rfl
    clear hτ
    have b1 : kBuild [.int .i64 0, .int .i64 0, .int .i64 0] (some [(0, 1, .int .i64 3), (1, 1, .int .i64 22), (2, 1, .int .i64 41)]) = some (.agg [.int .i64 3, .int .i64 22, .int .i64 41]) := rfl
    obtain ⟨σ1, k1, k2, k3⟩ := var_new σ 300 3 (zs := [.int .i64 0, .int .i64 0, .int .i64 0]) (c := [.int .i64 3, .int .i64 22, .int .i64 41]) rfl rfl rfl
    have hw1 := k2.2.2 hw
    have n1 := Keep.new σ1 (.cells 9 (opN0.map V.str) 0 0 (some 0) [])
    have g1 := (Keep.refl (σ1.new (.cells 9 (opN0.map V.str) 0 0 (some 0) []))).at
    have hw2 := n1.2.2 hw1
    generalize hσ2 : σ1.new (.cells 9 (opN0.map V.str) 0 0 (some 0) []) = σ2 at *
    have n2 := Keep.new σ2 (.cells 9 (opN1.map V.str) 0 0 (some 0) [])
    have g2 := (Keep.refl (σ2.new (.cells 9 (opN1.map V.str) 0 0 (some 0) []))).at
    have hw3 := n2.2.2 hw2
    generalize hσ3 : σ2.new (.cells 9 (opN1.map V.str) 0 0 (some 0) []) = σ3 at *
    have n3 := Keep.new σ3 (.cells 9 (opN2.map V.str) 0 0 (some 0) [])
    have g3 := (Keep.refl (σ3.new (.cells 9 (opN2.map V.str) 0 0 (some 0) []))).at
    have hw4 := n3.2.2 hw3
    generalize hσ4 : σ3.new (.cells 9 (opN2.map V.str) 0 0 (some 0) []) = σ4 at *
    have b2 : kBuild [.nils, .nils, .nils] (some [(0, 1, .sl σ1.nx 0 0 8 (some 8) 0), (1, 1, .sl σ2.nx 0 0 13 (some 13) 0), (2, 1, .sl σ3.nx 0 0 35 (some 35) 0)]) = some (.agg [.sl σ1.nx 0 0 8 (some 8) 0, .sl σ2.nx 0 0 13 (some 13) 0, .sl σ3.nx 0 0 35 (some 35) 0]) := rfl
    obtain ⟨σ5, k4, k5, k6⟩ := var_new σ4 301 3 (zs := [.nils, .nils, .nils]) (c := [.sl σ1.nx 0 0 8 (some 8) 0, .sl σ2.nx 0 0 13 (some 13) 0, .sl σ3.nx 0 0 35 (some 35) 0]) rfl rfl rfl
    have lg5 := (At.var k6).ldg (n := 3) rfl
    have s0 : SB σ5 (.sl σ1.nx 0 0 8 (some 8) 0) σ1.nx opN0 := ⟨rfl, (n2.trans (n3.trans k5)).get_some hw2 g1⟩
    have s1 : SB σ5 (.sl σ2.nx 0 0 13 (some 13) 0) σ2.nx opN1 := ⟨rfl, (n3.trans k5).get_some hw3 g2⟩
    have s2 : SB σ5 (.sl σ3.nx 0 0 35 (some 35) 0) σ3.nx opN2 := ⟨rfl, k5.get_some hw4 g3⟩
    obtain ⟨i0, q0⟩ := indexS_call (lf := lf) (m := m) (s := s) s0 (by simp [opN0]; omega) (by simp [opN0, BB])
    obtain ⟨i1, q1⟩ := indexS_call (lf := lf) (m := m) (s := s) s1 (by simp [opN1]; omega) (by simp [opN1, BB])
    obtain ⟨i2, q2⟩ := indexS_call (lf := lf) (m := m) (s := s) s2 (by simp [opN2]; omega) (by simp [opN2, BB])
    have kk : Keep σ σ5 := k2.trans (n1.trans (n2.trans (n3.trans k5)))
    have g300 : σ5.get σ.nx = some (.cells 300 [.int .i64 3, .int .i64 22, .int .i64 41] 0 0 (some 0) []) := (n1.trans (n2.trans (n3.trans k5))).get_some hw1 k3
    rw [← hcf] at q0 q1 q2
    simp only [c133, QA, Nat.reduceAdd, Nat.reduceLeDiff, Nat.reduceEqDiff, QZ, opB0, opB1, opB2, b1, k1, hσ2, hσ3, hσ4, b2, k4, lg5]
    refine Rt_seqNR (loop_rule (fun kk τ σ' => σ' = σ5 ∧ τ.get (pk 0) = some (.str s) ∧ τ.get (pk 3) = some (.ptr σ.nx 0 0) ∧ τ.get (pk 13) = some (.agg [.sl σ1.nx 0 0 8 (some 8) 0, .sl σ2.nx 0 0 13 (some 13) 0, .sl σ3.nx 0 0 35 (some 35) 0]) ∧
        ((τ.get (pk 14) = some (.int .i64 0) ∧ kk = 3) ∨ (τ.get (pk 14) = some (.int .i64 1) ∧ kk = 2) ∨ (τ.get (pk 14) = some (.int .i64 2) ∧ kk = 1) ∨ (τ.get (pk 14) = some (.int .i64 3) ∧ kk = 0)))
      (fun τ σ' => σ' = σ5 ∧ τ.get (pk 0) = some (.str s)) _ ?_ (k := 3) (by omega) ?_) ?_
    · rintro k τ σ' ⟨hσ, f0, f3, f13, hj⟩
      subst hσ
      rcases hj with ⟨f14, rfl⟩ | ⟨f14, rfl⟩ | ⟨f14, rfl⟩ | ⟨f14, rfl⟩
      · have x1 : kIdxa 3 1 false (some (.agg [.sl σ1.nx 0 0 8 (some 8) 0, .sl σ2.nx 0 0 13 (some 13) 0, .sl σ3.nx 0 0 35 (some 35) 0])) (some (.int .i64 0)) = some (.sl σ1.nx 0 0 8 (some 8) 0) := rfl
        have x2 : kIarr 3 1 (some (.ptr σ.nx 0 0)) (some (.int .i64 0)) = some (.ptr σ.nx 0 0) := rfl
        have x3 : ldv σ' (.ptr σ.nx 0 0) = some (.int .i64 3) := ldk g300 rfl
        cases e : decide (0 ≤ i0) with
        | true =>
          simp only [b133_0, x133_0, QA, reduceCtorEq, Nat.reduceAdd, Nat.reduceLeDiff, Nat.reduceEqDiff, Int.reduceLT, e_idxa, e_iarr, f0, f3, f13, f14, x1, x2, x3, q0, e]
          exact ⟨kk, _, rfl⟩
        | false =>
          simp only [b133_0, x133_0, QA, reduceCtorEq, Nat.reduceAdd, Nat.reduceLeDiff, Nat.reduceEqDiff, Int.reduceLT, e_idxa, f0, f3, f13, f14, x1, q0, e]
          exact ⟨2, by omega, .inr (.inl ⟨rfl, rfl⟩)⟩
      · have x1 : kIdxa 3 1 false (some (.agg [.sl σ1.nx 0 0 8 (some 8) 0, .sl σ2.nx 0 0 13 (some 13) 0, .sl σ3.nx 0 0 35 (some 35) 0])) (some (.int .i64 1)) = some (.sl σ2.nx 0 0 13 (some 13) 0) := rfl
        have x2 : kIarr 3 1 (some (.ptr σ.nx 0 0)) (some (.int .i64 1)) = some (.ptr σ.nx 0 1) := rfl
        have x3 : ldv σ' (.ptr σ.nx 0 1) = some (.int .i64 22) := ldk g300 rfl
        cases e : decide (0 ≤ i1) with
        | true =>
          simp only [b133_0, x133_0, QA, reduceCtorEq, Nat.reduceAdd, Nat.reduceLeDiff, Nat.reduceEqDiff, Int.reduceLT, e_idxa, e_iarr, f0, f3, f13, f14, x1, x2, x3, q1, e]
          exact ⟨kk, _, rfl⟩
        | false =>
          simp only [b133_0, x133_0, QA, reduceCtorEq, Nat.reduceAdd, Nat.reduceLeDiff, Nat.reduceEqDiff, Int.reduceLT, e_idxa, f0, f3, f13, f14, x1, q1, e]
          exact ⟨1, by omega, .inr (.inr (.inl ⟨rfl, rfl⟩))⟩
      · have x1 : kIdxa 3 1 false (some (.agg [.sl σ1.nx 0 0 8 (some 8) 0, .sl σ2.nx 0 0 13 (some 13) 0, .sl σ3.nx 0 0 35 (some 35) 0])) (some (.int .i64 2)) = some (.sl σ3.nx 0 0 35 (some 35) 0) := rfl
        have x2 : kIarr 3 1 (some (.ptr σ.nx 0 0)) (some (.int .i64 2)) = some (.ptr σ.nx 0 2) := rfl
        have x3 : ldv σ' (.ptr σ.nx 0 2) = some (.int .i64 41) := ldk g300 rfl
        cases e : decide (0 ≤ i2) with
        | true =>
          simp only [b133_0, x133_0, QA, reduceCtorEq, Nat.reduceAdd, Nat.reduceLeDiff, Nat.reduceEqDiff, Int.reduceLT, e_idxa, e_iarr, f0, f3, f13, f14, x1, x2, x3, q2, e]
          exact ⟨kk, _, rfl⟩
        | false =>
          simp only [b133_0, x133_0, QA, reduceCtorEq, Nat.reduceAdd, Nat.reduceLeDiff, Nat.reduceEqDiff, Int.reduceLT, e_idxa, f0, f3, f13, f14, x1, q2, e]
          exact ⟨0, by omega, .inr (.inr (.inr ⟨rfl, rfl⟩))⟩
      · simp only [b133_0, QA, reduceCtorEq, Nat.reduceAdd, Nat.reduceLeDiff, Int.reduceLT, f0, f14]
    · exact ⟨rfl, by simp only [QA, reduceCtorEq, h0], by simp only [QA, Nat.reduceEqDiff], by simp only [QA, Nat.reduceEqDiff], .inl ⟨by simp only [QA, Nat.reduceEqDiff], rfl⟩⟩
    · rintro τ σ' ⟨hσ, f0⟩
      subst hσ
      cases e : natEq s [105, 115] with
      | true =>
        simp only [QA, Nat.reduceAdd, Nat.reduceLeDiff, Nat.reduceEqDiff, f0, e]
        exact ⟨kk, _, rfl⟩
      | false =>
        simp only [QA, Nat.reduceAdd, Nat.reduceLeDiff, Nat.reduceEqDiff, f0, e]
        exact ⟨kk, _, rfl⟩
  obtain ⟨v, σ', h1, h2, i, rfl⟩ := key
  exact ⟨i, σ', h1, h2⟩
end Go.Proofs.YtfgghbikbaopjaaGreatDoorEng

namespace Go.Proofs.YtfgghbikbaopjaaGreatDoorEng
open Go
set_option maxRecDepth 100000
set_option linter.unusedSimpArgs false

/-- An environment in which a signature is declared; nothing else in it. -/
def EnvIs (σ : H) (xe : Pos) (g : Sg) : Prop := ∃ u d f, σ.get xe = some (.cells 94 [u, d, f, .nils, .nils, .nils, .bool true] 0 0 (some 0) []) ∧ SP Est 9 true σ (fun z => z ≠ xe.toNat) u g.us ∧ SP Eda 33 true σ (fun z => z ≠ xe.toNat) d g.ds ∧ SP Efu 44 true σ (fun z => z ≠ xe.toNat) f g.fs
theorem EnvIs.keep {σ σ' : H} {xe : Pos} {g : Sg} (h : EnvIs σ xe g) (hw : WfH σ) (k : Keep σ σ') : EnvIs σ' xe g := by
  obtain ⟨u, d, f, h1, h2, h3, h4⟩ := h
  exact ⟨u, d, f, k.get_some hw h1, h2.keep k, h3.keep k, h4.keep k⟩

theorem c26_at : T1.code 26 = some c26 := by kernel_rfl
/-- New -/
theorem new_call {lf m : Nat} {σ : H} : ∃ v σ', call T1 lf (m + 1) 26 [] σ = .ret v σ' ∧ v = .ptr σ.nx 0 0 ∧ Keep σ σ' ∧ EnvIs σ' σ.nx ⟨[], [], []⟩ := by
  refine call_rt1 (p := pk 0) rfl c26_at (by simp [c26]) rfl fun cf hcf => ?_
  clear hcf
  have bd : kBuild [.nils, .nils, .nils, .nils, .nils, .nils, .bool false] (some [(6, 1, .bool true)]) = some (.agg [.nils, .nils, .nils, .nils, .nils, .nils, .bool true]) := rfl
  simp only [c26, QA, reduceCtorEq, Nat.reduceAdd, Nat.reduceLeDiff, QZ, e_box, bd]
  exact ⟨Keep.new _ _, .nils, .nils, .nils, (Keep.refl _).at, SP.nils, SP.nils, SP.nils⟩

theorem c28_at : T1.code 28 = some c28 := by kernel_rfl
/-- right -/
theorem right_call {lf m : Nat} {σ : H} {xe : Pos} {g : Sg} (h : EnvIs σ xe g) : call T1 lf (m + 1) 28 [.ptr xe 0 0] σ = .ret (.bool true) σ := by
  have key : ∃ v σ', call T1 lf (m + 1) 28 [.ptr xe 0 0] σ = .ret v σ' ∧ (v = .bool true ∧ σ' = σ) := by
    refine call_rt1 (p := pk 2) rfl c28_at (by simp [c28]) rfl fun cf hcf => ?_
    clear hcf
    generalize hτ : bindArgs [.ptr xe 0 0] .h .lf = τ0
    have h0 : τ0.get (pk 0) = some (.ptr xe 0 0) := by rw [← hτ]; rfl
    clear hτ
    obtain ⟨u, d, f, h1, _⟩ := h
    have e1 : kBin .neq (.sc .ptr) (some (.ptr xe 0 0)) (some .nilp) = some (.bool true) := rfl
    have l6 : ldv σ (.ptr xe 0 6) = some (.bool true) := ldk h1 rfl
    simp only [c28, QA, reduceCtorEq, Nat.reduceAdd, Nat.reduceLeDiff, Nat.reduceEqDiff, QZ, h0, e1, l6]
  obtain ⟨v, σ', h1, rfl, rfl⟩ := key
  exact h1

theorem c126_at : T1.code 126 = some c126 := by kernel_rfl
theorem c125_at : T1.code 125 = some (containsF 193) := by kernel_rfl
theorem c193_at : T1.code 193 = some (indexFF (fun n => lg n t14) 2) := by kernel_rfl
theorem c127_at : T1.code 127 = some (containsF 194) := by kernel_rfl
theorem c194_at : T1.code 194 = some (indexFF (fun n => lg n t14) 4) := by kernel_rfl
theorem c134_at : T1.code 134 = some (containsF 198) := by kernel_rfl
theorem c198_at : T1.code 198 = some (indexFF (fun n => lg n t14) 8) := by kernel_rfl
/-- is a datatype so named? -/
theorem dname_call {lf m : Nat} {σ : H} {nm s : List Nat} {a : V} {x3 : Pos} (hw : WfH σ) (h3 : σ.get x3 = some (.cells 9 [.str s] 0 0 (some 0) [])) : ∃ b σ', call T1 lf (m + 1) 126 [.agg [.str nm, a], .ptr x3 0 0] σ = .ret (.bool b) σ' ∧ Keep σ σ' := by
  have key : ∃ v σ', call T1 lf (m + 1) 126 [.agg [.str nm, a], .ptr x3 0 0] σ = .ret v σ' ∧ (Keep σ σ' ∧ ∃ b, v = .bool b) := by
    refine call_rt1 (p := pk 3) rfl c126_at (by simp [c126]) rfl fun cf hcf => ?_
    clear hcf
    generalize hτ : bindArgs [.agg [.str nm, a], .ptr x3 0 0] .h .lf = τ0
    have h0 : τ0.get (pk 0) = some (.agg [.str nm, a]) := by rw [← hτ]; rfl
    have h1 : τ0.get (pk 1) = some (.ptr x3 0 0) := by rw [← hτ]; rfl
    clear hτ
    have hKa := Keep.new σ (.cells 33 [.str nm, a] 0 0 (some 0) [])
    have ga := (Keep.refl (σ.new (.cells 33 [.str nm, a] 0 0 (some 0) []))).at
    generalize hσ1 : σ.new (.cells 33 [.str nm, a] 0 0 (some 0) []) = σ1 at *
    have l0 : ldv σ1 (.ptr σ.nx 0 0) = some (.str nm) := ldk ga rfl
    have l3 : ldv σ1 (.ptr x3 0 0) = some (.str s) := ldk (hKa.get_some hw h3) rfl
    simp only [c126, QA, Nat.reduceAdd, Nat.reduceLeDiff, Nat.reduceEqDiff, QZ, e_box, h0, h1, hσ1, l0, l3]
    exact ⟨hKa, _, rfl⟩
  obtain ⟨v, σ', h1, h2, b, rfl⟩ := key
  exact ⟨b, σ', h1, h2⟩
/-- ContainsFunc over datatypes, by name -/
theorem dnames_call {lf m : Nat} {σ : H} {o : Bool} {Q : Nat → Prop} {a : V} {L : List Da} {s : List Nat} {x3 : Pos} (hw : WfH σ) (hA : SP Eda 33 o σ Q a L) (h3 : σ.get x3 = some (.cells 9 [.str s] 0 0 (some 0) [])) (hlf : L.length < lf) (hBB : L.length < BB) :
    ∃ b σ', call T1 lf (m + 3) 125 [a, .fn 126 [] [.ptr x3 0 0]] σ = .ret (.bool b) σ' ∧ Keep σ σ' := by
  obtain ⟨r, σ', k1, k2, b, rfl⟩ := contains_call (f := 125) (g := 193) (lf := lf) (m := m + 2) (σ := σ) (a := a) (v := .fn 126 [] [.ptr x3 0 0]) (Post := fun σ' => Keep σ σ') rfl c125_at (by
    refine indexf_call (f := 193) (N := L.length) rfl c193_at hA.len (fun σ' i hK hi => ?_) hlf (by unfold BB at hBB; omega)
    obtain ⟨x, hx⟩ : ∃ x, L[i]? = some x := ⟨_, List.getElem?_eq_getElem hi⟩
    obtain ⟨q, c, q1, q2, a', rfl, q3⟩ := (hA.keep hK).elem hx
    obtain ⟨b, σ2, t1, t2⟩ := dname_call (lf := lf) (m := m) (nm := x.1) (a := a') (hK.2.2 hw) (hK.get_some hw h3)
    refine ⟨q, .agg [.str x.1, a'], b, σ2, q1, fun τ hτ => ?_, t1, hK.trans t2⟩
    have lq := q2.ldg (n := 2) rfl
    simp only [QA, QZ, hτ, lq])
  exact ⟨b, σ', k1, k2⟩
/-- .. over nothing -/
theorem none_call {f g n lf m : Nat} {σ : H} {h : Nat} {A B : List V} (hi : T1.intr f = none) (hc : T1.code f = some (containsF g)) (hi' : T1.intr g = none) (hc' : T1.code g = some (indexFF (fun n => lg n t14) n)) (hlf : 0 < lf) : ∃ b σ', call T1 lf (m + 2) f [.nils, .fn h A B] σ = .ret (.bool b) σ' ∧ Keep σ σ' := by
  obtain ⟨r, σ', k1, k2, b, rfl⟩ := contains_call (f := f) (g := g) (lf := lf) (m := m + 1) (σ := σ) (a := .nils) (v := .fn h A B) (Post := fun σ' => Keep σ σ') hi hc (by
    exact indexf_call (f := g) (N := 0) hi' hc' rfl (fun σ' i hK hi => absurd hi (Nat.not_lt_zero _)) hlf (by decide))
  exact ⟨b, σ', k1, k2⟩

theorem c56_at : T1.code 56 = some c56 := by kernel_rfl
/-- sortUsed -/
theorem sortUsed_call {lf m : Nat} {σ : H} {xe : Pos} {g : Sg} {s : List Nat} (hw : WfH σ) (hE : EnvIs σ xe g) (hlf : sgSz g < lf) (hBB : sgSz g < BB) :
    ∃ b σ', call T1 lf (m + 4) 56 [.ptr xe 0 0, .str s] σ = .ret (.bool b) σ' ∧ Keep σ σ' := by
  have hlu := sum_len List.length g.us
  have hld := sum_len daSz g.ds
  have hsg : sgSz g = sum List.length g.us + sum daSz g.ds + sum fuSz g.fs + 1 := rfl
  have key : ∃ v σ', call T1 lf (m + 4) 56 [.ptr xe 0 0, .str s] σ = .ret v σ' ∧ (Keep σ σ' ∧ ∃ b, v = .bool b) := by
    refine call_rt1 (p := pk 4) rfl c56_at (by simp [c56]) rfl fun cf hcf => ?_
    generalize hτ : bindArgs [.ptr xe 0 0, .str s] .h .lf = τ0
    have h0 : τ0.get (pk 0) = some (.ptr xe 0 0) := by rw [← hτ]; rfl
    have h1 : τ0.get (pk 1) = some (.str s) := by rw [← hτ]; rfl
    clear hτ
    have bx : kBox 9 (some (.str s)) = some (.ptr, .cells 9 [.str s] 0 0 (some 0) []) := rfl
    have hKa := Keep.new σ (.cells 9 [.str s] 0 0 (some 0) [])
    have ga := (Keep.refl (σ.new (.cells 9 [.str s] 0 0 (some 0) []))).at
    have hw1 := hKa.2.2 hw
    generalize hσ1 : σ.new (.cells 9 [.str s] 0 0 (some 0) []) = σ1 at *
    obtain ⟨u, d, f, e1, e2, e3, e4⟩ := hE.keep hw hKa
    have ls : ldv σ1 (.ptr σ.nx 0 0) = some (.str s) := ldk ga rfl
    have lu : ldv σ1 (.ptr xe 0 0) = some u := ldk e1 rfl
    have ld1 : ldv σ1 (.ptr xe 0 1) = some d := ldk e1 rfl
    cases n1 : natEq s [66, 111, 111, 108] with
    | true =>
      simp only [c56, x56_0, QA, Nat.reduceAdd, Nat.reduceLeDiff, Nat.reduceEqDiff, e_box, h1, bx, hσ1, ls, n1]
      exact ⟨hKa, _, rfl⟩
    | false =>
    cases n2 : natEq s [73, 110, 116] with
    | true =>
      simp only [c56, x56_0, QA, Nat.reduceAdd, Nat.reduceLeDiff, Nat.reduceEqDiff, e_box, h1, bx, hσ1, ls, n1, n2]
      exact ⟨hKa, _, rfl⟩
    | false =>
    cases n3 : natEq s [66, 105, 116, 86, 101, 99] with
    | true =>
      simp only [c56, x56_0, QA, Nat.reduceAdd, Nat.reduceLeDiff, Nat.reduceEqDiff, e_box, h1, bx, hσ1, ls, n1, n2, n3]
      exact ⟨hKa, _, rfl⟩
    | false =>
    cases n4 : natEq s [65, 114, 114, 97, 121] with
    | true =>
      simp only [c56, x56_0, QA, Nat.reduceAdd, Nat.reduceLeDiff, Nat.reduceEqDiff, e_box, h1, bx, hσ1, ls, n1, n2, n3, n4]
      exact ⟨hKa, _, rfl⟩
    | false =>
    obtain ⟨b1, t1⟩ := containsP_call (lf := lf) (m := m + 1) (s := s) e2 (by omega) (by omega)
    rw [← hcf] at t1
    cases b1 with
    | true =>
      simp only [c56, x56_0, QA, reduceCtorEq, Nat.reduceAdd, Nat.reduceLeDiff, Nat.reduceEqDiff, QD, QZ, e_box, h0, h1, bx, hσ1, ls, lu, n1, n2, n3, n4, t1, List.all_nil]
      exact ⟨hKa, _, rfl⟩
    | false =>
    obtain ⟨b2, σ2, t2, t3⟩ := dnames_call (lf := lf) (m := m) (s := s) (x3 := σ.nx) hw1 e3 ga (by omega) (by omega)
    have hw2 := t3.2.2 hw1
    have l3 : ldv σ2 (.ptr xe 0 3) = some .nils := ldk (t3.get_some hw1 e1) rfl
    rw [← hcf] at t2
    cases b2 with
    | true =>
      simp only [c56, x56_0, QA, reduceCtorEq, Nat.reduceAdd, Nat.reduceLeDiff, Nat.reduceEqDiff, QD, QZ, e_box, e_mkfn, e_mkfk, h0, h1, bx, hσ1, ls, lu, ld1, n1, n2, n3, n4, t1, t2, List.all_nil]
      exact ⟨hKa.trans t3, _, rfl⟩
    | false =>
    obtain ⟨b3, σ3, t4, t5⟩ := none_call (f := 127) (g := 194) (n := 4) (lf := lf) (m := m + 1) (σ := σ2) (h := 128) (A := []) (B := [.ptr σ.nx 0 0]) rfl c127_at rfl c194_at (by omega)
    rw [← hcf] at t4
    simp only [c56, x56_0, QA, reduceCtorEq, Nat.reduceAdd, Nat.reduceLeDiff, Nat.reduceEqDiff, QD, QZ, e_box, e_mkfn, e_mkfk, h0, h1, bx, hσ1, ls, lu, ld1, l3, n1, n2, n3, n4, t1, t2, t4, List.all_nil]
    exact ⟨hKa.trans (t3.trans t5), _, rfl⟩
  obtain ⟨v, σ', h1, h2, b, rfl⟩ := key
  exact ⟨b, σ', h1, h2⟩

/- a read under a guard whose order is open -/
def kWG (w : Bool) (X Y : R) : Option V → R
  | some (.bool b) => if b == w then X else Y
  | some (.tup []) => Y
  | _ => .bad
theorem w_1lgd (cf : CallF) (n : Nat) (p q : Pos) (w : Bool) (a : Arg) (k lo hi : Nat) (hl : lo ≠ hi) (tl : Bool) (r : List DO) (τ : Tr V) (σ : H) (d : List Df) (es : List H) (os : List Owe) :
    runDrw cf n (⟨⟨some p, .r (.load none a), some (q, w)⟩, k, 1, lo, hi, tl⟩ :: r) τ σ d es os =
      kWG w (runDrw cf n (⟨⟨some p, .r (.load none a), none⟩, k, 1, lo, hi, tl⟩ :: r) τ σ d es os) (kD1 cf n r σ d es os (kPut n p τ σ d (some undefV))) (τ.get q) := by
  simp only [runDrw, s_gd, if_neg hl, guardV]
  cases hq : τ.get q with
  | none => rfl
  | some v =>
    cases v with
    | bool b =>
      simp only [kGd, kWG]
      cases hb : b == w with
      | true =>
        simp only [if_true]
      | false =>
        simp only [Bool.false_eq_true, if_false]
        by_cases hp : p.toNat ≤ n <;> simp [kPut, hp, kD1]
    | tup c =>
      cases c with
      | nil =>
        simp only [kGd, kWG]
        by_cases hp : p.toNat ≤ n <;> simp [kPut, hp, kD1]
      | cons _ _ => rfl
    | _ => rfl
theorem w_1lgb (w b : Bool) (X Y : R) : kWG w X Y (some (.bool b)) = if b == w then X else Y := rfl

theorem one_ne_two : (1 = 2) = False := by simp
theorem c61_at : T1.code 61 = some c61 := by kernel_rfl
/-- funUsed -/
theorem funUsed_call {lf m : Nat} {σ : H} {xe : Pos} {g : Sg} {s : List Nat} (hw : WfH σ) (hE : EnvIs σ xe g) (hlf : sgSz g < lf) (hlf2 : 35 < lf) (hBB : 2 * sgSz g < BB) :
    ∃ b σ', call T1 lf (m + 4) 61 [.ptr xe 0 0, .str s] σ = .ret (.bool b) σ' ∧ Keep σ σ' := by
  have hsg : sgSz g = sum List.length g.us + sum daSz g.ds + sum fuSz g.fs + 1 := rfl
  have key : ∃ v σ', call T1 lf (m + 4) 61 [.ptr xe 0 0, .str s] σ = .ret v σ' ∧ (Keep σ σ' ∧ ∃ b, v = .bool b) := by
    refine call_rt1 (p := pk 4) rfl c61_at (by simp [c61]) rfl fun cf hcf => ?_
    generalize hτ : bindArgs [.ptr xe 0 0, .str s] .h .lf = τ0
    have h0 : τ0.get (pk 0) = some (.ptr xe 0 0) := by rw [← hτ]; rfl
    have h1 : τ0.get (pk 1) = some (.str s) := by rw [← hτ]; rfl
    clear hτ
    have bx : kBox 9 (some (.str s)) = some (.ptr, .cells 9 [.str s] 0 0 (some 0) []) := rfl
    have hKa := Keep.new σ (.cells 9 [.str s] 0 0 (some 0) [])
    have ga := (Keep.refl (σ.new (.cells 9 [.str s] 0 0 (some 0) []))).at
    have hw1 := hKa.2.2 hw
    generalize hσ1 : σ.new (.cells 9 [.str s] 0 0 (some 0) []) = σ1 at *
    have hE1 := hE.keep hw hKa
    have ls : ldv σ1 (.ptr σ.nx 0 0) = some (.str s) := ldk ga rfl
    cases n1 : natEq s [116, 114, 117, 101] with
    | true =>
      simp only [c61, QA, reduceCtorEq, Nat.reduceAdd, Nat.reduceLeDiff, Nat.reduceEqDiff, QD, QZ, w_1lgd, w_1lgb, e_box, h0, h1, bx, hσ1, ls, n1, List.all_nil, ne_eq, not_false_eq_true, one_ne_two]
      exact ⟨hKa, _, rfl⟩
    | false =>
    cases n2 : natEq s [102, 97, 108, 115, 101] with
    | true =>
      simp only [c61, QA, reduceCtorEq, Nat.reduceAdd, Nat.reduceLeDiff, Nat.reduceEqDiff, QD, QZ, w_1lgd, w_1lgb, e_box, h0, h1, bx, hσ1, ls, n1, n2, List.all_nil, ne_eq, not_false_eq_true, one_ne_two]
      exact ⟨hKa, _, rfl⟩
    | false =>
    obtain ⟨i, σ2, t1, t2⟩ := oper_call (lf := lf) (m := m + 1) (s := s) hw1 hlf2
    have hw2 := t2.2.2 hw1
    have hE2 := hE1.keep hw1 t2
    rw [← hcf] at t1
    cases n3 : (i != 0) with
    | true =>
      simp only [c61, QA, reduceCtorEq, Nat.reduceAdd, Nat.reduceLeDiff, Nat.reduceEqDiff, QD, QZ, w_1lgd, w_1lgb, e_box, h0, h1, bx, hσ1, ls, n1, n2, t1, n3, List.all_nil, ne_eq, not_false_eq_true, one_ne_two]
      exact ⟨hKa.trans t2, _, rfl⟩
    | false =>
    obtain ⟨u, d, f, e1, e2, e3, e4⟩ := hE2
    obtain ⟨q', e5, hq'⟩ : ∃ q', fadV 0 (.ptr xe 0 0) = some q' ∧ At σ2 q' [u, d, f] := ⟨_, rfl, (At.var e1).pre (c := [u, d, f]) (d := [.nils, .nils, .nils, .bool true])⟩
    have e5' : q' = .ptr xe 0 0 := by simpa [fadV] using e5.symm
    subst e5'
    have lg2 := hq'.ldg (n := 3) rfl
    have ls2 : ldv σ2 (.ptr σ.nx 0 0) = some (.str s) := ldk (t2.get_some hw1 ga) rfl
    obtain ⟨v, σ3, t3, t4, D, hD, hDl, hDn⟩ := funNames_call (lf := lf) (m := m + 2) hw2 (u := u) e3 e4 hlf hBB
    have hw3 := t4.2.2 hw2
    obtain ⟨b1, t5⟩ := containsP_call (lf := lf) (m := m + 1) (s := s) hD (by omega) (by omega)
    have e13 := t4.get_some hw2 e1
    have l4 : ldv σ3 (.ptr xe 0 4) = some .nils := ldk e13 rfl
    obtain ⟨b3, σ4, t6, t7⟩ := none_call (f := 134) (g := 198) (n := 8) (lf := lf) (m := m + 1) (σ := σ3) (h := 135) (A := []) (B := [.ptr σ.nx 0 0]) rfl c134_at rfl c198_at (by omega)
    rw [← hcf] at t3 t5 t6
    have kk := hKa.trans (t2.trans t4)
    cases b1 with
    | true =>
      simp only [c61, QA, reduceCtorEq, Nat.reduceAdd, Nat.reduceLeDiff, Nat.reduceEqDiff, QD, QZ, w_1lgd, w_1lgb, w_1l, e_box, h0, h1, bx, hσ1, ls, n1, n2, t1, n3, lg2, ls2, t3, t5, ne_eq, not_false_eq_true, one_ne_two]
      rw [if_pos]
      · simp only [QA, Nat.reduceEqDiff]
        exact ⟨kk, _, rfl⟩
      · rw [owe_at (At.var (t2.get_some hw1 ga)) hw2]
        · rfl
        · intro s' h
          simp only [List.reverse_cons, List.reverse_nil, List.nil_append, List.cons_append, List.drop_succ_cons, List.drop_zero, List.take_succ_cons, List.take_zero, List.mem_cons, List.not_mem_nil, or_false] at h
          rcases h with rfl | rfl
          · exact Keep.refl _
          · exact t4
    | false =>
      simp only [c61, QA, reduceCtorEq, Nat.reduceAdd, Nat.reduceLeDiff, Nat.reduceEqDiff, QD, QZ, w_1lgd, w_1lgb, w_1l, e_box, e_mkfn, e_mkfk, h0, h1, bx, hσ1, ls, n1, n2, t1, n3, lg2, ls2, t3, t5, l4, t6, ne_eq, not_false_eq_true, one_ne_two]
      rw [if_pos]
      · simp only [QA, Nat.reduceEqDiff]
        exact ⟨kk.trans t7, _, rfl⟩
      · rw [owe_at (At.var (t2.get_some hw1 ga)) hw2]
        · rfl
        · intro s' h
          simp only [List.reverse_cons, List.reverse_nil, List.nil_append, List.cons_append, List.drop_succ_cons, List.drop_zero, List.take_succ_cons, List.take_zero, List.mem_cons, List.not_mem_nil, or_false] at h
          rcases h with rfl | rfl
          · exact Keep.refl _
          · exact t4
  obtain ⟨v, σ', h1, h2, b, rfl⟩ := key
  exact ⟨b, σ', h1, h2⟩
end Go.Proofs.YtfgghbikbaopjaaGreatDoorEng

namespace Go.Proofs.YtfgghbikbaopjaaGreatDoorEng
open Go
set_option maxRecDepth 100000
set_option linter.unusedSimpArgs false

theorem st3 {σ : H} {x : Pos} {a b c a' b' c' : V} {r : List V} {ty : Nat} {ver minv : Nat} {ex : List Nat} (hg : σ.get x = some (.cells ty (a :: b :: c :: r) ver minv (some 0) ex)) (ha : a'.one = true) (hb : b'.one = true) (hc : c'.one = true) :
    stV σ 3 (.ptr x ver 0) (.agg [a', b', c']) = .ok undefV (σ.put x (.cells ty (a' :: b' :: c' :: r) ver ver (some 0) ex)) := by
  have h1 : [a', b', c'].all V.one = true := by simp only [List.all_cons, List.all_nil, ha, hb, hc]; rfl
  simp only [stV, V.cells, List.length_cons, List.length_nil, if_true, putCells, hg]
  rw [if_pos ⟨trivial, Nat.zero_le _, by omega, h1⟩]
  simp

theorem c67_at : T1.code 67 = some c67 := by kernel_rfl
/-- declare -/
theorem declare_call {lf m : Nat} {b σ : H} {xe : Pos} {u d f u0 d0 f0 : V} {g : Sg} (hwb : WfH b) (hKb : Keep b σ) (hxe : b.nx.toNat ≤ xe.toNat) (he : σ.get xe = some (.cells 94 [u0, d0, f0, .nils, .nils, .nils, .bool true] 0 0 (some 0) []))
    (hu : SP Est 9 true σ (fun z => z ≠ xe.toNat) u g.us) (hd : SP Eda 33 true σ (fun z => z ≠ xe.toNat) d g.ds) (hf : SP Efu 44 true σ (fun z => z ≠ xe.toNat) f g.fs) (hlf : 2 * sgSz g < lf) (hBB : 2 * sgSz g < BB) (hm : sgSz g ≤ m) :
    ∃ i σ', call T1 lf (m + 7) 67 [.ptr xe 0 0, .agg [u, d, f]] σ = .ret (.int .i64 i) σ' ∧ Keep b σ' ∧ (i = 0 → EnvIs σ' xe g) := by
  have key : ∃ v σ', call T1 lf (m + 7) 67 [.ptr xe 0 0, .agg [u, d, f]] σ = .ret v σ' ∧ (Keep b σ' ∧ ∃ i, v = .int .i64 i ∧ (i = 0 → EnvIs σ' xe g)) := by
    refine call_rt1 (p := pk 4) rfl c67_at (by simp [c67]) rfl fun cf hcf => ?_
    generalize hτ : bindArgs [.ptr xe 0 0, .agg [u, d, f]] .h .lf = τ0
    have h0 : τ0.get (pk 0) = some (.ptr xe 0 0) := by rw [← hτ]; rfl
    have h1 : τ0.get (pk 1) = some (.agg [u, d, f]) := by rw [← hτ]; rfl
    clear hτ
    have hw := hKb.2.2 hwb
    have hKa := Keep.new σ (.cells 26 [u, d, f] 0 0 (some 0) [])
    have ga := (Keep.refl (σ.new (.cells 26 [u, d, f] 0 0 (some 0) []))).at
    have hw1 := hKa.2.2 hw
    generalize hσ1 : σ.new (.cells 26 [u, d, f] 0 0 (some 0) []) = σ1 at *
    have lg1 := (At.var ga).ldg (n := 3) rfl
    obtain ⟨i, σ2, t1, t2⟩ := checkSig_call (lf := lf) (m := m) hw1 (hu.keep hKa) (hd.keep hKa) (hf.keep hKa) hlf hBB hm
    have lg2 := (At.var (t2.get_some hw1 ga)).ldg (n := 3) rfl
    have he2 := (hKa.trans t2).get_some hw he
    have hK2 := hKb.trans (hKa.trans t2)
    have hxn := hK2.2.2 hwb _ _ he2
    have st := st3 he2 hu.one hd.one hf.one
    rw [← hcf] at t1
    cases e : (i == 0) with
    | false =>
      simp only [c67, QA, Nat.reduceAdd, Nat.reduceLeDiff, Nat.reduceEqDiff, QZ, e_box, h1, hσ1, lg1, t1, e]
      exact ⟨hK2, i, rfl, fun h => by rw [h] at e; cases e⟩
    | true =>
      simp only [c67, QA, reduceCtorEq, Nat.reduceAdd, Nat.reduceLeDiff, Nat.reduceEqDiff, QZ, e_box, h0, h1, hσ1, lg1, t1, e, lg2, st]
      have kk := hKa.trans t2
      have up : Up (fun z => z ≠ xe.toNat) σ (σ2.put xe (.cells 94 [u, d, f, .nils, .nils, .nils, .bool true] 0 0 (some 0) [])) := (kk.up _).trans (Up.put _ (fun h => h rfl) _)
      exact ⟨hK2.put hxe hxn _, i, rfl, fun _ => ⟨u, d, f, by rw [H.get_put, if_pos rfl], hu.up up, hd.up up, hf.up up⟩⟩
  obtain ⟨v, σ', h1, h2, i, rfl, h3⟩ := key
  exact ⟨i, σ', h1, h2, h3⟩

/-- a clone to which one element is appended; b: the heap ahead of the clone -/
theorem GL.app_from {α : Type} {n : Nat} {E : EK α n} {ty : Nat} {b σ0 σ : H} {Q : Nat → Prop} {a : V} {L : List α} {eb : Nat} {c : List V} {y : α} (hwb : WfH b) (hn : 0 < n) (h : GL E ty σ0 Q a L) (hx : ∀ (x : Pos) ver o l c k, a = .sl x ver o l c k → b.nx.toNat ≤ x.toNat) (hKb : Keep b σ0) (hK : Keep σ0 σ) (hQ : ∀ z, σ0.nx.toNat ≤ z → Q z)
    (hy : E.P true σ (fun z => σ0.nx.toNat ≤ z) c y) (hb : (L.length + 1) * eb ≤ mostBytes) (hb2 : L.length + 1 ≤ mostBytes) :
    ∃ v' σ', appV (σ.new (.cells ty c 0 0 (some 0) [])) ty n eb a (.sl σ.nx 0 0 1 (some 1) 0) = .ok v' σ' ∧ GL E ty σ' Q v' (L ++ [y]) ∧ Keep b σ' := by
  have hKbs := hKb.trans hK
  obtain ⟨v', σ', h1, h2, h3, h4, h5, _⟩ := GL.app (eb := eb) hn h hK hQ hy hb hb2 (hKbs.2.2 hwb)
  refine ⟨v', σ', h1, h2, Nat.le_trans hKbs.1 h4, fun z hz => ?_, fun _ => h3⟩
  rw [h5 z (Nat.lt_of_lt_of_le hz hKbs.1), hKbs.2.1 z hz]
  intro ver l e
  have := hx z ver 0 l none n e
  omega

theorem c23_at : T1.code 23 = some c23 := by kernel_rfl
/-- DeclareSort -/
theorem declareSort_call {lf m : Nat} {b σ : H} {xe : Pos} {g : Sg} {s : List Nat} (hwb : WfH b) (hKb : Keep b σ) (hxe : b.nx.toNat ≤ xe.toNat) (hE : EnvIs σ xe g) (hlf : 2 * sgSz ⟨g.us ++ [s], g.ds, g.fs⟩ < lf) (hBB : 2 * sgSz ⟨g.us ++ [s], g.ds, g.fs⟩ < BB) (hm : sgSz ⟨g.us ++ [s], g.ds, g.fs⟩ ≤ m) :
    ∃ i σ', call T1 lf (m + 8) 23 [.ptr xe 0 0, .str s] σ = .ret (.int .i64 i) σ' ∧ Keep b σ' ∧ (i = 0 → EnvIs σ' xe ⟨g.us ++ [s], g.ds, g.fs⟩) := by
  have hsg : sgSz ⟨g.us ++ [s], g.ds, g.fs⟩ = sum List.length (g.us ++ [s]) + sum daSz g.ds + sum fuSz g.fs + 1 := rfl
  have hsg0 : sgSz g = sum List.length g.us + sum daSz g.ds + sum fuSz g.fs + 1 := rfl
  have hsn := sum_snoc List.length g.us s
  have hlu := sum_len List.length g.us
  have key : ∃ v σ', call T1 lf (m + 8) 23 [.ptr xe 0 0, .str s] σ = .ret v σ' ∧ (Keep b σ' ∧ ∃ i, v = .int .i64 i ∧ (i = 0 → EnvIs σ' xe ⟨g.us ++ [s], g.ds, g.fs⟩)) := by
    refine call_rt1 (p := pk 4) rfl c23_at (by simp [c23]) rfl fun cf hcf => ?_
    generalize hτ : bindArgs [.ptr xe 0 0, .str s] .h .lf = τ0
    have h0 : τ0.get (pk 0) = some (.ptr xe 0 0) := by rw [← hτ]; rfl
    have h1 : τ0.get (pk 1) = some (.str s) := by rw [← hτ]; rfl
    clear hτ
    have hw := hKb.2.2 hwb
    have r1 := right_call (lf := lf) (m := m + 6) hE
    obtain ⟨bv, σ1, t1, t2⟩ := sortUsed_call (lf := lf) (m := m + 3) (s := s) hw hE (by omega) (by omega)
    have hw1 := t2.2.2 hw
    rw [← hcf] at r1 t1
    cases bv with
    | true =>
      simp only [c23, QA, reduceCtorEq, Nat.reduceAdd, Nat.reduceLeDiff, Nat.reduceEqDiff, QZ, h0, h1, r1, t1]
      exact ⟨hKb.trans t2, 242, rfl, fun h => by cases h⟩
    | false =>
    obtain ⟨u, d, f, e1, e2, e3, e4⟩ := hE.keep hw t2
    have e2 := e2.bd
    have e3 := e3.bd
    have e4 := e4.bd
    have hxn := hw1 _ _ e1
    have lgE := ((At.var e1).pre (c := [u, d, f]) (d := [.nils, .nils, .nils, .bool true])).ldg (n := 3) rfl
    obtain ⟨σ2, k1, k2, k3⟩ := var_new σ1 26 3 (zs := [.nils, .nils, .nils]) (c := [u, d, f]) rfl rfl (by rw [List.all_cons, List.all_cons, List.all_cons, e2.one, e3.one, e4.one]; rfl)
    have hw2 := k2.2.2 hw1
    have hx2 := hw2 _ _ k3
    have lu : ldv σ2 (.ptr σ1.nx 0 0) = some u := ldk k3 rfl
    obtain ⟨v, σ3, t3, t4, t5, t6⟩ := clone_call (E := Est) (f := 29) (lf := lf) (m := m + 6) rfl c29_at hw2 (e2.keep k2) (by decide) (by simp [mostBytes]; unfold BB at hBB; omega) (by simp [mostBytes]; unfold BB at hBB; omega)
    obtain ⟨v', σ4, t7, t8, t9⟩ := GL.app_from (eb := 16) (c := [.str s]) (y := s) hw2 (by decide) t5 t6 t4 (Keep.refl _) (fun z hz => .inr (Nat.le_trans t4.1 hz)) rfl (by simp [mostBytes]; unfold BB at hBB; omega) (by simp [mostBytes]; unfold BB at hBB; omega)
    have hw4 := t9.2.2 hw2
    have gbx := t9.get_some hw2 k3
    have st := st_one (σ := σ4) (o := 0) (v := v') gbx (by simp) t8.sp.cells t8.one
    have gby : (σ4.put σ1.nx (.cells 26 ([u, d, f].set 0 v') 0 0 (some 0) [])).get σ1.nx = some (.cells 26 [v', d, f] 0 0 (some 0) []) := by rw [H.get_put, if_pos rfl]; rfl
    have hK5 : Keep b (σ4.put σ1.nx (.cells 26 ([u, d, f].set 0 v') 0 0 (some 0) [])) := ((hKb.trans t2).trans (k2.trans t9)).put (Nat.le_trans hKb.1 t2.1) (Nat.lt_of_lt_of_le hx2 t9.1) _
    have he5 : (σ4.put σ1.nx (.cells 26 ([u, d, f].set 0 v') 0 0 (some 0) [])).get xe = some (.cells 94 [u, d, f, .nils, .nils, .nils, .bool true] 0 0 (some 0) []) := by
      rw [H.get_put, if_neg (by rintro rfl; omega)]; exact (k2.trans t9).get_some hw1 e1
    have up : Up (fun z => z ≠ xe.toNat ∧ z < σ1.nx.toNat) σ1 (σ4.put σ1.nx (.cells 26 ([u, d, f].set 0 v') 0 0 (some 0) [])) := ((k2.trans t9).up _).trans (Up.put _ (fun h => by omega) _)
    have up2 : Up (fun z => (z ≠ xe.toNat ∧ z < σ1.nx.toNat) ∨ σ2.nx.toNat ≤ z) σ4 (σ4.put σ1.nx (.cells 26 ([u, d, f].set 0 v') 0 0 (some 0) [])) := Up.put _ (fun h => by omega) _
    generalize hσ5 : σ4.put σ1.nx (.cells 26 ([u, d, f].set 0 v') 0 0 (some 0) []) = σ5 at *
    have lg5 := (At.var gby).ldg (n := 3) rfl
    obtain ⟨i, σ6, t10, t11, t12⟩ := declare_call (lf := lf) (m := m) (g := ⟨g.us ++ [s], g.ds, g.fs⟩) hwb hK5 hxe he5 ((t8.sp.up up2).low fun z hz => by omega) ((e3.up up).low fun z hz => hz.1) ((e4.up up).low fun z hz => hz.1) hlf hBB hm
    rw [← hcf] at t3 t10
    simp only [c23, QA, reduceCtorEq, Nat.reduceAdd, Nat.reduceLeDiff, Nat.reduceEqDiff, QZ, h0, h1, r1, t1, lgE, k1, lu, t3, bs9, t7, st, lg5, t10]
    exact ⟨t11, i, rfl, t12⟩
  obtain ⟨v, σ', h1, h2, i, rfl, h3⟩ := key
  exact ⟨i, σ', h1, h2, h3⟩

theorem c70_at : T1.code 70 = some (cloneF 44 6 96) := by kernel_rfl
theorem c25_at : T1.code 25 = some c25 := by kernel_rfl
/-- DeclareFun -/
theorem declareFun_call {lf m : Nat} {b σ : H} {xe : Pos} {g : Sg} {o : Bool} {Q : Nat → Prop} {c : List V} {x : Fu} (hwb : WfH b) (hKb : Keep b σ) (hxe : b.nx.toNat ≤ xe.toNat) (hE : EnvIs σ xe g) (hc : Efu.P o σ Q c x) (hlf : 2 * sgSz ⟨g.us, g.ds, g.fs ++ [x]⟩ < lf) (hlf2 : 35 < lf) (hBB : 2 * sgSz ⟨g.us, g.ds, g.fs ++ [x]⟩ < BB) (hm : sgSz ⟨g.us, g.ds, g.fs ++ [x]⟩ ≤ m) :
    ∃ i σ', call T1 lf (m + 8) 25 [.ptr xe 0 0, .agg c] σ = .ret (.int .i64 i) σ' ∧ Keep b σ' ∧ (i = 0 → EnvIs σ' xe ⟨g.us, g.ds, g.fs ++ [x]⟩) := by
  have hsg : sgSz ⟨g.us, g.ds, g.fs ++ [x]⟩ = sum List.length g.us + sum daSz g.ds + sum fuSz (g.fs ++ [x]) + 1 := rfl
  have hsg0 : sgSz g = sum List.length g.us + sum daSz g.ds + sum fuSz g.fs + 1 := rfl
  have hsn := sum_snoc fuSz g.fs x
  have hlfs := sum_len fuSz g.fs
  have key : ∃ v σ', call T1 lf (m + 8) 25 [.ptr xe 0 0, .agg c] σ = .ret v σ' ∧ (Keep b σ' ∧ ∃ i, v = .int .i64 i ∧ (i = 0 → EnvIs σ' xe ⟨g.us, g.ds, g.fs ++ [x]⟩)) := by
    refine call_rt1 (p := pk 4) rfl c25_at (by simp [c25]) rfl fun cf hcf => ?_
    generalize hτ : bindArgs [.ptr xe 0 0, .agg c] .h .lf = τ0
    have h0 : τ0.get (pk 0) = some (.ptr xe 0 0) := by rw [← hτ]; rfl
    have h1 : τ0.get (pk 1) = some (.agg c) := by rw [← hτ]; rfl
    clear hτ
    have hw := hKb.2.2 hwb
    have hcl := Efu.len hc
    have hKa := Keep.new σ (.cells 44 c 0 0 (some 0) [])
    have ga := (Keep.refl (σ.new (.cells 44 c 0 0 (some 0) []))).at
    have hw0 := hKa.2.2 hw
    generalize hσ0 : σ.new (.cells 44 c 0 0 (some 0) []) = σ0 at *
    have hE0 := hE.keep hw hKa
    have r1 := right_call (lf := lf) (m := m + 6) hE0
    obtain ⟨a0, d0, hc0, _⟩ := id hc
    have ln : ldv σ0 (.ptr σ.nx 0 0) = some (.str x.1) := ldk ga (by rw [hc0]; rfl)
    obtain ⟨bv, σ1, t1, t2⟩ := funUsed_call (lf := lf) (m := m + 3) (s := x.1) hw0 hE0 (by omega) hlf2 (by omega)
    have hw1 := t2.2.2 hw0
    rw [← hcf] at r1 t1
    cases bv with
    | true =>
      simp only [c25, QA, reduceCtorEq, Nat.reduceAdd, Nat.reduceLeDiff, Nat.reduceEqDiff, QZ, e_box, h0, h1, hσ0, r1, ln, t1]
      exact ⟨hKb.trans (hKa.trans t2), 242, rfl, fun h => by cases h⟩
    | false =>
    obtain ⟨u, d, f, e1, e2, e3, e4⟩ := hE0.keep hw0 t2
    have e2 := e2.bd
    have e3 := e3.bd
    have e4 := e4.bd
    have hxn := hw1 _ _ e1
    have lgE := ((At.var e1).pre (c := [u, d, f]) (d := [.nils, .nils, .nils, .bool true])).ldg (n := 3) rfl
    obtain ⟨σ2, k1, k2, k3⟩ := var_new σ1 26 3 (zs := [.nils, .nils, .nils]) (c := [u, d, f]) rfl rfl (by rw [List.all_cons, List.all_cons, List.all_cons, e2.one, e3.one, e4.one]; rfl)
    have hw2 := k2.2.2 hw1
    have hx2 := hw2 _ _ k3
    have lf2 : ldv σ2 (.ptr σ1.nx 0 2) = some f := ldk k3 rfl
    have gc2 := (t2.trans k2).get_some hw0 ga
    have lgc := (At.var gc2).ldg (n := 6) hcl
    obtain ⟨v, σ3, t3, t4, t5, t6⟩ := clone_call (E := Efu) (f := 70) (lf := lf) (m := m + 6) rfl c70_at hw2 (e4.keep k2) (by decide) (by simp [mostBytes]; unfold BB at hBB; omega) (by simp [mostBytes]; unfold BB at hBB; omega)
    have hw3 := t4.2.2 hw2
    have hc3 : Efu.P o σ3 Q c x := Efu.up hc ((hKa.trans (t2.trans (k2.trans t4))).up _)
    obtain ⟨c', σ4, s1, s2, s3⟩ := copyFun_call (lf := lf) (m := m + 5) hw3 hc3 (by omega) (by omega) (by omega)
    have bs := kBsn_agg (ty := 44) (Efu.len s3)
    obtain ⟨v', σ5, t7, t8, t9⟩ := GL.app_from (eb := 96) (y := x) hw2 (by decide) t5 t6 t4 s2 (fun z hz => .inr (Nat.le_trans t4.1 hz)) s3 (by simp [mostBytes]; unfold BB at hBB; omega) (by simp [mostBytes]; unfold BB at hBB; omega)
    have hw5 := t9.2.2 hw2
    have gbx := t9.get_some hw2 k3
    have st := st_one (σ := σ5) (o := 2) (v := v') gbx (by simp) t8.sp.cells t8.one
    have gby : (σ5.put σ1.nx (.cells 26 ([u, d, f].set 2 v') 0 0 (some 0) [])).get σ1.nx = some (.cells 26 [u, d, v'] 0 0 (some 0) []) := by rw [H.get_put, if_pos rfl]; rfl
    have hK6 : Keep b (σ5.put σ1.nx (.cells 26 ([u, d, f].set 2 v') 0 0 (some 0) [])) := ((hKb.trans (hKa.trans t2)).trans (k2.trans t9)).put (Nat.le_trans hKb.1 (hKa.trans t2).1) (Nat.lt_of_lt_of_le hx2 t9.1) _
    have he6 : (σ5.put σ1.nx (.cells 26 ([u, d, f].set 2 v') 0 0 (some 0) [])).get xe = some (.cells 94 [u, d, f, .nils, .nils, .nils, .bool true] 0 0 (some 0) []) := by
      rw [H.get_put, if_neg (by rintro rfl; omega)]; exact (k2.trans t9).get_some hw1 e1
    have up : Up (fun z => z ≠ xe.toNat ∧ z < σ1.nx.toNat) σ1 (σ5.put σ1.nx (.cells 26 ([u, d, f].set 2 v') 0 0 (some 0) [])) := ((k2.trans t9).up _).trans (Up.put _ (fun h => by omega) _)
    have up2 : Up (fun z => (z ≠ xe.toNat ∧ z < σ1.nx.toNat) ∨ σ2.nx.toNat ≤ z) σ5 (σ5.put σ1.nx (.cells 26 ([u, d, f].set 2 v') 0 0 (some 0) [])) := Up.put _ (fun h => by omega) _
    generalize hσ6 : σ5.put σ1.nx (.cells 26 ([u, d, f].set 2 v') 0 0 (some 0) []) = σ6 at *
    have lg6 := (At.var gby).ldg (n := 3) rfl
    obtain ⟨i, σ7, t10, t11, t12⟩ := declare_call (lf := lf) (m := m) (g := ⟨g.us, g.ds, g.fs ++ [x]⟩) hwb hK6 hxe he6 ((e2.up up).low fun z hz => hz.1) ((e3.up up).low fun z hz => hz.1) ((t8.sp.up up2).low fun z hz => by omega) hlf hBB hm
    rw [← hcf] at t3 s1 t10
    simp only [c25, QA, reduceCtorEq, Nat.reduceAdd, Nat.reduceLeDiff, Nat.reduceEqDiff, QD, QZ, w_1g, w_1gk, e_box, h0, h1, hσ0, r1, ln, t1, lgE, k1, lf2, lgc, t3, s1, bs, t7, st, List.length_cons, List.length_nil, ne_eq, not_false_eq_true, Nat.zero_ne_one]
    rw [if_pos]
    · simp only [QA, reduceCtorEq, Nat.reduceAdd, Nat.reduceLeDiff, Nat.reduceEqDiff, QZ, h0, lg6, t10]
      exact ⟨t11, i, rfl, t12⟩
    · rw [owe_at (At.var gc2) hw2]
      · rfl
      · intro s h
        simp only [List.reverse_cons, List.reverse_nil, List.nil_append, List.cons_append, List.drop_zero, List.take_succ_cons, List.take_zero, List.mem_cons, List.not_mem_nil, or_false] at h
        rcases h with rfl | rfl
        · exact Keep.refl _
        · exact t4
  obtain ⟨v, σ', h1, h2, i, rfl, h3⟩ := key
  exact ⟨i, σ', h1, h2, h3⟩
end Go.Proofs.YtfgghbikbaopjaaGreatDoorEng

namespace Go.Proofs.YtfgghbikbaopjaaGreatDoorEng
open Go
set_option maxRecDepth 100000
set_option linter.unusedSimpArgs false

/-- a slice of one, made at once -/
theorem SP.box {α : Type} {n : Nat} {E : EK α n} {ty : Nat} {o : Bool} {σ : H} {Q : Nat → Prop} {c : List V} {y : α} {x : Pos} (h : E.P o σ Q c y) (hg : σ.get x = some (.cells ty c 0 0 (some 0) [])) (hx : x.toNat < σ.nx.toNat) : SP E ty false σ (fun _ => True) (.sl x 0 0 1 (some 1) 0) [y] := by
  refine ⟨[c], .box x c rfl (E.len h) (E.one h) hg trivial hx, rfl, fun i c' x' e1 e2 => ?_⟩
  cases i with
  | succ i => simp at e1
  | zero =>
    simp at e1 e2; subst e1; subst e2
    exact E.low (E.read h) fun _ _ => trivial

theorem c68_at : T1.code 68 = some (containsF 139) := by kernel_rfl
theorem c139_at : T1.code 139 = some (indexFF (fun _ => ld t14) 1) := by kernel_rfl
/-- ContainsFunc over names, of funUsed -/
theorem fused_call {lf m : Nat} {σ : H} {o : Bool} {Q : Nat → Prop} {a : V} {L : List (List Nat)} {xe : Pos} {g : Sg} (hw : WfH σ) (hE : EnvIs σ xe g) (hA : SP Est 9 o σ Q a L) (hlf : L.length < lf) (hBB : L.length < BB) (hlf1 : sgSz g < lf) (hlf2 : 35 < lf) (hBB1 : 2 * sgSz g < BB) :
    ∃ b σ', call T1 lf (m + 6) 68 [a, .fn 61 [.ptr xe 0 0] []] σ = .ret (.bool b) σ' ∧ Keep σ σ' := by
  obtain ⟨r, σ', k1, k2, b, rfl⟩ := contains_call (f := 68) (g := 139) (lf := lf) (m := m + 5) (σ := σ) (a := a) (v := .fn 61 [.ptr xe 0 0] []) (Post := fun σ' => Keep σ σ') rfl c68_at (by
    refine indexf_call (f := 139) (n := 1) (N := L.length) rfl c139_at hA.len (fun σ' i hK hi => ?_) hlf (by unfold BB at hBB; omega)
    obtain ⟨s, hs⟩ : ∃ x, L[i]? = some x := ⟨_, List.getElem?_eq_getElem hi⟩
    obtain ⟨q, c, q1, q2, rfl⟩ := (hA.keep hK).elem hs
    obtain ⟨b, σ2, t1, t2⟩ := funUsed_call (lf := lf) (m := m) (s := s) (hK.2.2 hw) (hE.keep hw hK) hlf1 hlf2 hBB1
    refine ⟨q, .str s, b, σ2, q1, fun τ hτ => ?_, t1, hK.trans t2⟩
    have lq := q2.ldv
    simp only [QA, hτ, lq])
  exact ⟨b, σ', k1, k2⟩

theorem sum_append {α : Type} (f : α → Nat) : ∀ l r : List α, sum f (l ++ r) = sum f l + sum f r
  | [], r => by simp [sum]
  | x :: l, r => by rw [List.cons_append, sum, sum, sum_append f l r]; omega
/-- the state of DeclareDatas; s: the heap ahead of its variable; c: behind it -/
structure Dst (b s c σ : H) (xe x5 : Pos) (g : Sg) (u f v : V) (L : List Da) : Prop where
  keep : Keep b σ
  grow : c.nx.toNat ≤ σ.nx.toNat
  old : Up (fun z => z ≠ x5.toNat ∧ z < c.nx.toNat) c σ
  box : σ.get x5 = some (.cells 26 [u, v, f] 0 0 (some 0) [])
  gl : GL Eda 33 σ (fun z => (z ≠ xe.toNat ∧ z < s.nx.toNat) ∨ c.nx.toNat ≤ z) v L
  vx : ∀ (x : Pos) ver o l cp k, v = .sl x ver o l cp k → c.nx.toNat ≤ x.toNat
theorem c65_at : T1.code 65 = some (cloneF 33 2 40) := by kernel_rfl
theorem c24_at : T1.code 24 = some c24 := by kernel_rfl
/-- DeclareDatas -/
theorem declareDatas_call {lf m : Nat} {b σ : H} {xe : Pos} {g : Sg} {o : Bool} {Q : Nat → Prop} {a : V} {L : List Da} (hwb : WfH b) (hKb : Keep b σ) (hxe : b.nx.toNat ≤ xe.toNat) (hE : EnvIs σ xe g) (hA : SP Eda 33 o b Q a L) (hlf : 2 * sgSz ⟨g.us, g.ds ++ L, g.fs⟩ + 4 < lf) (hlf2 : 35 < lf) (hBB : 2 * sgSz ⟨g.us, g.ds ++ L, g.fs⟩ + 4 < BB) (hm : sgSz ⟨g.us, g.ds ++ L, g.fs⟩ ≤ m) :
    ∃ i σ', call T1 lf (m + 8) 24 [.ptr xe 0 0, a] σ = .ret (.int .i64 i) σ' ∧ Keep b σ' ∧ (i = 0 → EnvIs σ' xe ⟨g.us, g.ds ++ L, g.fs⟩) := by
  have hsg : sgSz ⟨g.us, g.ds ++ L, g.fs⟩ = sum List.length g.us + sum daSz (g.ds ++ L) + sum fuSz g.fs + 1 := rfl
  have hsg0 : sgSz g = sum List.length g.us + sum daSz g.ds + sum fuSz g.fs + 1 := rfl
  have hap : sum daSz (g.ds ++ L) = sum daSz g.ds + sum daSz L := sum_append daSz g.ds L
  have hlL := sum_len daSz L
  have hlD := sum_len daSz g.ds
  have key : ∃ v σ', call T1 lf (m + 8) 24 [.ptr xe 0 0, a] σ = .ret v σ' ∧ (Keep b σ' ∧ ∃ i, v = .int .i64 i ∧ (i = 0 → EnvIs σ' xe ⟨g.us, g.ds ++ L, g.fs⟩)) := by
    refine call_rt1 (p := pk 4) rfl c24_at (by simp [c24]) rfl fun cf hcf => ?_
    generalize hτ : bindArgs [.ptr xe 0 0, a] .h .lf = τ0
    have h0 : τ0.get (pk 0) = some (.ptr xe 0 0) := by rw [← hτ]; rfl
    have h1 : τ0.get (pk 1) = some a := by rw [← hτ]; rfl
    clear hτ
    have hw := hKb.2.2 hwb
    have r1 := right_call (lf := lf) (m := m + 6) hE
    rw [← hcf] at r1
    obtain ⟨u, d, f, e1, e2, e3, e4⟩ := id hE
    have e2 := e2.bd
    have e3 := e3.bd
    have e4 := e4.bd
    have hxn := hw _ _ e1
    have lgE := ((At.var e1).pre (c := [u, d, f]) (d := [.nils, .nils, .nils, .bool true])).ldg (n := 3) rfl
    obtain ⟨σ2, k1, k2, k3⟩ := var_new σ 26 3 (zs := [.nils, .nils, .nils]) (c := [u, d, f]) rfl rfl (by rw [List.all_cons, List.all_cons, List.all_cons, e2.one, e3.one, e4.one]; rfl)
    have hw2 := k2.2.2 hw
    have hx2 := hw2 _ _ k3
    have ld1 : ldv σ2 (.ptr σ.nx 0 1) = some d := ldk k3 rfl
    obtain ⟨v, σ3, t3, t4, t5, t6⟩ := clone_call (E := Eda) (f := 65) (lf := lf) (m := m + 6) rfl c65_at hw2 (e3.keep k2) (by decide) (by simp [mostBytes]; unfold BB at hBB; omega) (by simp [mostBytes]; unfold BB at hBB; omega)
    have gbx := t4.get_some hw2 k3
    have st := st_one (σ := σ3) (o := 1) (v := v) gbx (by simp) t5.sp.cells t5.one
    have hxe5 : xe ≠ σ.nx := by rintro rfl; omega
    have hD0 : Dst b σ σ2 (σ3.put σ.nx (.cells 26 ([u, d, f].set 1 v) 0 0 (some 0) [])) xe σ.nx g u f v g.ds := by
      refine ⟨(hKb.trans (k2.trans t4)).put hKb.1 (Nat.lt_of_lt_of_le hx2 t4.1) _, t4.1, (t4.up _).trans (Up.put _ (fun h => h.1 rfl) _), by rw [H.get_put, if_pos rfl]; rfl, t5.up (Up.put _ (fun h => by omega) _), t6⟩
    rw [← hcf] at t3
    simp only [c24, QA, reduceCtorEq, Nat.reduceAdd, Nat.reduceLeDiff, Nat.reduceEqDiff, QZ, h0, h1, r1, lgE, k1, ld1, t3, st, hA.len]
    generalize hσ4 : σ3.put σ.nx (.cells 26 ([u, d, f].set 1 v) 0 0 (some 0) []) = σ4 at *
    refine Rt_seqNR (range_rule (l := 22) (i := 21) (nn := 20) (k := 45) (id := 0) (id' := 1) (B := y24_1) (N := L.length)
      (fun j τ σ' => (∃ v, Dst b σ σ2 σ' xe σ.nx g u f v (g.ds ++ L.take j)) ∧ τ.get (pk 0) = some (.ptr xe 0 0) ∧ τ.get (pk 5) = some (.ptr σ.nx 0 0) ∧ τ.get (pk 19) = some a)
      (fun τ σ' => (∃ v, Dst b σ σ2 σ' xe σ.nx g u f v (g.ds ++ L)) ∧ τ.get (pk 0) = some (.ptr xe 0 0) ∧ τ.get (pk 5) = some (.ptr σ.nx 0 0)) _ (by decide) (by decide) (by decide) (by decide) (by decide) (by decide) (by decide) (by omega) (by unfold BB at hBB; omega) ?_ ?_ ?_ ?_ ?_) ?_
    · rintro j τ' σ' hj ⟨⟨v, hD⟩, g0, g5, g19⟩ g21 g20
      have hwσ := hD.keep.2.2 hwb
      -- what was there
      have oldE : σ'.get xe = some (.cells 94 [u, d, f, .nils, .nils, .nils, .bool true] 0 0 (some 0) []) := by
        have h1 := k2.get_some hw e1
        have := hD.old.2 xe ⟨fun e => hxe5 (Pos.toNat_inj e), by have := k2.1; omega⟩ (by have := k2.1; omega)
        rw [this]; exact h1
      have upO : Up (fun z => z ≠ xe.toNat ∧ z < σ.nx.toNat) σ σ' := (k2.up _).trans (hD.old.low fun z hz => ⟨by omega, by have := k2.1; omega⟩)
      have hE' : EnvIs σ' xe g := ⟨u, d, f, oldE, (e2.up upO).low fun z hz => hz.1, (e3.up upO).low fun z hz => hz.1, (e4.up upO).low fun z hz => hz.1⟩
      obtain ⟨x, hs'⟩ : ∃ s', L[j]? = some s' := ⟨_, List.getElem?_eq_getElem hj⟩
      have hsz := sum_mem (f := daSz) hs'
      obtain ⟨q, ce, q1, q2, q3⟩ := (hA.keep hD.keep).elem hs'
      have ql := Eda.len q3
      have qo := Eda.one q3
      have lq := q2.ldg ql
      obtain ⟨a', hce, _⟩ := id q3
      obtain ⟨σ5, s1, s2, s3⟩ := var_new σ' 33 2 (zs := [.str [], .nils]) rfl ql qo
      have hw5 := s2.2.2 hwσ
      have ln : ldv σ5 (.ptr σ'.nx 0 0) = some (.str x.1) := ldk s3 (by rw [hce]; rfl)
      obtain ⟨bv, σ6, t1, t2⟩ := sortUsed_call (lf := lf) (m := m + 3) (s := x.1) hw5 (hE'.keep hwσ s2) (by omega) (by omega)
      have hw6 := t2.2.2 hw5
      rw [← hcf] at t1
      cases bv with
      | true =>
        simp only [y24_1, QA, reduceCtorEq, Nat.reduceAdd, Nat.reduceLeDiff, Nat.reduceEqDiff, QZ, g0, g19, g21, q1, lq, s1, ln, t1]
        exact ⟨hD.keep.trans (s2.trans t2), 242, rfl, fun h => by cases h⟩
      | false =>
      have g6 := t2.get_some hw5 s3
      have lgd := (At.var g6).ldg (n := 2) ql
      have bs := kBsn_agg (ty := 33) (n := 2) (c := ce) ql
      have bd : kBuild [.nils, .nils, .nils] (some [(1, 1, .sl σ6.nx 0 0 1 (some 1) 0)]) = some (.agg [.nils, .sl σ6.nx 0 0 1 (some 1) 0, .nils]) := rfl
      have hKn := Keep.new σ6 (.cells 33 ce 0 0 (some 0) [])
      have gn := (Keep.refl (σ6.new (.cells 33 ce 0 0 (some 0) []))).at
      have hnn : σ6.nx.toNat < (σ6.new (.cells 33 ce 0 0 (some 0) [])).nx.toNat := by rw [nx_new]; omega
      have hw7 := hKn.2.2 hw6
      generalize hσ7 : σ6.new (.cells 33 ce 0 0 (some 0) []) = σ7 at *
      have hbx := SP.box (E := Eda) (ty := 33) (Eda.up q3 ((s2.trans (t2.trans hKn)).up _)) gn hnn
      have hsz2 : sgSz ⟨[], [x], []⟩ = daSz x + 2 := by simp [sgSz, sum]
      obtain ⟨v8, σ8, t5, t6, D, hDs, hDl, hDn⟩ := funNames_call (lf := lf) (m := m + 6) (u := .nils) (g := ⟨[], [x], []⟩) hw7 hbx (SP.nils (E := Efu) (ty := 44) (o := false) (Q := fun _ => True)) (by omega) (by omega)
      have hw8 := t6.2.2 hw7
      have k68 := s2.trans (t2.trans (hKn.trans t6))
      obtain ⟨b9, σ9, t7, t8⟩ := fused_call (lf := lf) (m := m + 1) hw8 (hE'.keep hwσ k68) hDs (by omega) (by omega) (by omega) hlf2 (by omega)
      have hw9 := t8.2.2 hw8
      rw [← hcf] at t5 t7
      cases b9 with
      | true =>
        simp only [y24_1, QA, reduceCtorEq, Nat.reduceAdd, Nat.reduceLeDiff, Nat.reduceEqDiff, QZ, e_mkfn, e_mkfk, g0, g19, g21, q1, lq, s1, ln, t1, lgd, bs, bd, hσ7, t5, t7, List.length_cons, List.length_nil]
        exact ⟨hD.keep.trans (k68.trans t8), 242, rfl, fun h => by cases h⟩
      | false =>
      have k69 := k68.trans t8
      have kx : Keep σ5 σ9 := t2.trans (hKn.trans (t6.trans t8))
      have gb9 := k69.get_some hwσ hD.box
      have lv : ldv σ9 (.ptr σ.nx 0 1) = some v := ldk gb9 rfl
      have gd9 := kx.get_some hw5 s3
      have lgd9 := (At.var gd9).ldg (n := 2) ql
      obtain ⟨c', σ10, w1, w2, w3⟩ := copyData_call (lf := lf) (m := m + 5) hw9 (Eda.up q3 (k69.up _)) (by omega) (by omega) (by omega)
      have hw10 := w2.2.2 hw9
      rw [← hcf] at w1
      have bs2 := kBsn_agg (ty := 33) (Eda.len w3)
      have ge1 := hD.grow
      obtain ⟨v', σ11, w4, w5, w6, w7, w8, w9⟩ := GL.app (E := Eda) (eb := 40) (y := x) (by decide) hD.gl (k69.trans w2) (fun z hz => .inr (Nat.le_trans ge1 hz)) (Eda.low w3 fun z hz => Nat.le_trans k69.1 hz) (by rw [List.length_append, List.length_take]; simp [mostBytes]; unfold BB at hBB; omega) (by rw [List.length_append, List.length_take]; simp [mostBytes]; unfold BB at hBB; omega) hw10
      have same : ∀ z : Pos, z.toNat < σ2.nx.toNat → σ11.get z = σ10.get z := fun z hz => H.get_of_m (w8 z (by have := k69.1; have := w2.1; omega) fun ver l e => by have := hD.vx _ _ _ _ _ _ e; omega)
      have gb11 : σ11.get σ.nx = some (.cells 26 [u, v, f] 0 0 (some 0) []) := by rw [same _ hx2, w2.get (by have := k69.1; omega)]; exact gb9
      have st := st_one (σ := σ11) (o := 1) (v := v') gb11 (by simp) w5.sp.cells w5.one
      have hD' : Dst b σ σ2 (σ11.put σ.nx (.cells 26 ([u, v, f].set 1 v') 0 0 (some 0) [])) xe σ.nx g u f v' (g.ds ++ L.take (j + 1)) := by
        have hn11 : σ'.nx.toNat ≤ σ11.nx.toNat := Nat.le_trans (k69.trans w2).1 w7
        have kb11 : Keep b σ11 := by
          have kb10 := hD.keep.trans (k69.trans w2)
          refine ⟨Nat.le_trans kb10.1 w7, fun z hz => ?_, fun _ => w6⟩
          rw [w8 z (Nat.lt_of_lt_of_le hz kb10.1) fun ver l e => by have := hD.vx _ _ _ _ _ _ e; have := hKb.1; have := k2.1; omega, kb10.2.1 z hz]
        refine ⟨kb11.put hKb.1 (by omega) _, Nat.le_trans ge1 hn11, ?_, by rw [H.get_put, if_pos rfl]; rfl, ?_, ?_⟩
        · refine hD.old.trans (Up.trans (σ' := σ11) ⟨hn11, fun z hz1 hz2 => ?_⟩ (Up.put _ (fun h => h.1 rfl) _))
          rw [same z hz1.2, (k69.trans w2).get hz2]
        · rw [take_snoc hs', ← List.append_assoc]
          exact w5.up (Up.put _ (fun h => by omega) _)
        · intro z ver o l cp k e
          rcases w9 z ver o l cp k e with h3 | ⟨ver', l', h3⟩
          · have := (k69.trans w2).1
            omega
          · exact hD.vx _ _ _ _ _ _ h3
      simp only [y24_1, QA, reduceCtorEq, Nat.reduceAdd, Nat.reduceLeDiff, Nat.reduceEqDiff, QD, QZ, w_1l, e_mkfn, e_mkfk, g0, g5, g19, g21, q1, lq, s1, ln, t1, lgd, bs, bd, hσ7, t5, t7, lv, lgd9, w1, bs2, w4, st, List.length_cons, List.length_nil, ne_eq, not_false_eq_true, Nat.zero_ne_one]
      rw [if_pos]
      · exact ⟨rfl, by simp only [QA, Nat.reduceEqDiff, g21], by simp only [QA, Nat.reduceEqDiff, g20], ⟨v', hD'⟩, by simp only [QA, reduceCtorEq, g0], by simp only [QA, Nat.reduceEqDiff, g5], by simp only [QA, Nat.reduceEqDiff, g19]⟩
      · rw [owe_keepR gb9 hw9 (fun s h => by
          simp only [List.reverse_cons, List.reverse_nil, List.nil_append, List.cons_append, List.drop_zero, List.take_succ_cons, List.take_zero, List.mem_cons, List.not_mem_nil, or_false] at h
          rcases h with rfl | rfl
          · exact Keep.refl _
          · exact w2.trans (Keep.new _ _))]
        rfl
    · rintro τ σ' ⟨hD, g0, g5, g19⟩
      rw [List.take_of_length_le (Nat.le_refl _)] at hD
      exact ⟨hD, by simp only [QA, reduceCtorEq, g0], by simp only [QA, Nat.reduceEqDiff, g5]⟩
    · exact ⟨⟨v, by simpa using hD0⟩, by simp only [QA, reduceCtorEq, h0], by simp only [QA, Nat.reduceEqDiff], by simp only [QA, Nat.reduceEqDiff]⟩
    · simp only [QA, Nat.reduceEqDiff]
    · simp only [QA, Nat.reduceEqDiff]
    · rintro τ σ' ⟨⟨v, hD⟩, g0, g5⟩
      have oldE : σ'.get xe = some (.cells 94 [u, d, f, .nils, .nils, .nils, .bool true] 0 0 (some 0) []) := by
        have h1 := k2.get_some hw e1
        have := hD.old.2 xe ⟨fun e => hxe5 (Pos.toNat_inj e), by have := k2.1; omega⟩ (by have := k2.1; omega)
        rw [this]; exact h1
      have upO : Up (fun z => z ≠ xe.toNat ∧ z < σ.nx.toNat) σ σ' := (k2.up _).trans (hD.old.low fun z hz => ⟨by omega, by have := k2.1; omega⟩)
      have lg5 := (At.var hD.box).ldg (n := 3) rfl
      obtain ⟨i, σ7, t10, t11, t12⟩ := declare_call (lf := lf) (m := m) (g := ⟨g.us, g.ds ++ L, g.fs⟩) hwb hD.keep hxe oldE ((e2.up upO).low fun z hz => hz.1) (hD.gl.sp.low fun z hz => by have := k2.1; omega) ((e4.up upO).low fun z hz => hz.1) (by omega) (by omega) hm
      rw [← hcf] at t10
      simp only [QA, Nat.reduceAdd, Nat.reduceLeDiff, Nat.reduceEqDiff, QZ, g0, g5, lg5, t10]
      exact ⟨t11, i, rfl, t12⟩
  obtain ⟨v, σ', h1, h2, i, rfl, h3⟩ := key
  exact ⟨i, σ', h1, h2, h3⟩
end Go.Proofs.YtfgghbikbaopjaaGreatDoorEng

namespace Go.Proofs.YtfgghbikbaopjaaGreatDoorEng
open Go
set_option maxRecDepth 100000
set_option linter.unusedSimpArgs false

theorem GL.block {α : Type} {n : Nat} {E : EK α n} {ty : Nat} {σ : H} {Q : Nat → Prop} {a : V} {L : List α} (h : GL E ty σ Q a L) : ∀ (x : Pos) ver o l c k, a = .sl x ver o l c k → Q x.toNat ∧ x.toNat < σ.nx.toNat := by
  intro x ver o l c k e
  cases h with
  | nils => cases e
  | own x' ver' minv ex C L hg hq hx hne hl he => cases e; exact ⟨hq, hx⟩
/-- A list that grows in a cell of a variable; c: the heap when it began. -/
structure Gb {α : Type} {n : Nat} (E : EK α n) (ty : Nat) (b c σ : H) (x3 : Pos) (cs : List V) (v : V) (L : List α) : Prop where
  keep : Keep b σ
  grow : c.nx.toNat ≤ σ.nx.toNat
  old : Up (fun z => z ≠ x3.toNat ∧ z < c.nx.toNat) c σ
  box : σ.get x3 = some (.cells 26 cs 0 0 (some 0) [])
  gl : GL E ty σ (fun z => c.nx.toNat ≤ z) v L
theorem Gb.step {α : Type} {n : Nat} {E : EK α n} {ty eb : Nat} {b c σ σ1 : H} {x3 : Pos} {cs : List V} {v : V} {L : List α} {d : List V} {y : α} {i : Nat} (hwb : WfH b) (hn : 0 < n) (hbc : b.nx.toNat ≤ c.nx.toNat) (hxb : b.nx.toNat ≤ x3.toNat) (hxc : x3.toNat < c.nx.toNat) (h : Gb E ty b c σ x3 cs v L) (hK : Keep σ σ1) (hy : E.P true σ1 (fun z => σ.nx.toNat ≤ z) d y) (hi : i < cs.length) (hb : (L.length + 1) * eb ≤ mostBytes) (hb2 : L.length + 1 ≤ mostBytes) :
    ∃ v' σ2 σ3, appV (σ1.new (.cells ty d 0 0 (some 0) [])) ty n eb v (.sl σ1.nx 0 0 1 (some 1) 0) = .ok v' σ2 ∧ stV σ2 1 (.ptr x3 0 i) v' = .ok undefV σ3 ∧ Gb E ty b c σ3 x3 (cs.set i v') v' (L ++ [y]) := by
  have hw := h.keep.2.2 hwb
  have hw1 := hK.2.2 hw
  have ge := h.grow
  obtain ⟨v', σ2, k1, k2, k3, k4, k5, k6⟩ := GL.app (E := E) (eb := eb) (y := y) hn h.gl hK (fun z hz => Nat.le_trans ge hz) hy hb hb2 hw1
  have same : ∀ z : Pos, z.toNat < c.nx.toNat → σ2.get z = σ.get z := fun z hz => by
    rw [H.get_of_m (k5 z (by have := hK.1; omega) fun ver l e => by have := (h.gl.block _ _ _ _ _ _ e).1; omega), hK.get (by omega)]
  have gb : σ2.get x3 = some (.cells 26 cs 0 0 (some 0) []) := by rw [same x3 hxc]; exact h.box
  have hn2 : σ.nx.toNat ≤ σ2.nx.toNat := Nat.le_trans hK.1 k4
  have kb : Keep b σ2 := by
    refine ⟨by have := h.keep.1; omega, fun z hz => ?_, fun _ => k3⟩
    have kb1 := h.keep.trans hK
    rw [k5 z (by have := kb1.1; omega) fun ver l e => by have := (h.gl.block _ _ _ _ _ _ e).1; omega, kb1.2.1 z hz]
  refine ⟨v', σ2, _, k1, st_one gb hi k2.sp.cells k2.one, ⟨kb.put hxb (by omega) _, by rw [nx_put]; omega, ?_, by rw [H.get_put, if_pos rfl], k2.up (Up.put _ (fun h => by omega) _)⟩⟩
  exact h.old.trans (Up.trans (σ' := σ2) ⟨hn2, fun z hz1 _ => same z hz1.2⟩ (Up.put _ (fun h => h.1 rfl) _))

theorem c8_at : T1.code 8 = some c8 := by kernel_rfl
set_option maxHeartbeats 1000000 in
/-- Sig -/
theorem sig_call {lf m : Nat} {σ : H} {xe : Pos} {g : Sg} (hw : WfH σ) (hE : EnvIs σ xe g) (hlf : sgSz g < lf) (hBB : sgSz g < BB) (hm : sgSz g ≤ m) :
    ∃ l σ', call T1 lf (m + 3) 8 [.ptr xe 0 0] σ = .ret (.agg l) σ' ∧ Keep σ σ' ∧ ∃ u v w, l = [u, v, w] ∧ SP Est 9 true σ' (fun z => σ.nx.toNat ≤ z) u g.us ∧ SP Eda 33 true σ' (fun z => σ.nx.toNat ≤ z) v g.ds ∧ SP Efu 44 true σ' (fun z => σ.nx.toNat ≤ z) w g.fs := by
  have hsg : sgSz g = sum List.length g.us + sum daSz g.ds + sum fuSz g.fs + 1 := rfl
  have hlu := sum_len List.length g.us
  have hld := sum_len daSz g.ds
  have hlfs := sum_len fuSz g.fs
  refine call_rcn (p := pk 2) (n := 3) rfl c8_at (by simp [c8]) rfl fun cf hcf => ?_
  generalize hτ : bindArgs [.ptr xe 0 0] .h .lf = τ0
  have h0 : τ0.get (pk 0) = some (.ptr xe 0 0) := by rw [← hτ]; rfl
  clear hτ
  have hKa := Keep.new σ (.cells 26 [.nils, .nils, .nils] 0 0 (some 0) [])
  have ga := (Keep.refl (σ.new (.cells 26 [.nils, .nils, .nils] 0 0 (some 0) []))).at
  have xa : σ.nx.toNat < (σ.new (.cells 26 [.nils, .nils, .nils] 0 0 (some 0) [])).nx.toNat := by rw [nx_new]; omega
  have hw1 := hKa.2.2 hw
  generalize hσ1 : σ.new (.cells 26 [.nils, .nils, .nils] 0 0 (some 0) []) = σ1 at *
  have hKb := Keep.new σ1 (.cells 26 [.nils, .nils, .nils] 0 0 (some 0) [])
  have gb := (Keep.refl (σ1.new (.cells 26 [.nils, .nils, .nils] 0 0 (some 0) []))).at
  have xb : σ1.nx.toNat < (σ1.new (.cells 26 [.nils, .nils, .nils] 0 0 (some 0) [])).nx.toNat := by rw [nx_new]; omega
  have hw2 := hKb.2.2 hw1
  generalize hσ2 : σ1.new (.cells 26 [.nils, .nils, .nils] 0 0 (some 0) []) = σ2 at *
  have hK2 := hKa.trans hKb
  have hE2 := hE.keep hw hK2
  have r1 := right_call (lf := lf) (m := m + 1) hE2
  obtain ⟨u, d, f, e1, e2, e3, e4⟩ := id hE
  have e1' := hK2.get_some hw e1
  have lu : ldv σ2 (.ptr xe 0 0) = some u := ldk e1' rfl
  obtain ⟨u', σ3, t1, t2, t3, t4⟩ := clone_call (E := Est) (f := 29) (lf := lf) (m := m + 1) rfl c29_at hw2 (e2.keep hK2) (by decide) (by simp [mostBytes]; unfold BB at hBB; omega) (by simp [mostBytes]; unfold BB at hBB; omega)
  have gb3 := t2.get_some hw2 gb
  have st1 := st_one (σ := σ3) (o := 0) (v := u') gb3 (by simp) t3.sp.cells t3.one
  have hu3 : SP Est 9 true σ3 (fun z => σ2.nx.toNat ≤ z) u' g.us := (gl_low (Q' := fun z => σ2.nx.toNat ≤ z) t3 fun x ver o l c k e => t4 x ver o l c k e).sp
  have hx2 : σ1.nx.toNat < σ3.nx.toNat := Nat.lt_of_lt_of_le xb t2.1
  have hK3 := hK2.trans t2
  have hG0 : Gb Eda 33 σ (σ3.put σ1.nx (.cells 26 ([.nils, .nils, .nils].set 0 u') 0 0 (some 0) [])) (σ3.put σ1.nx (.cells 26 ([.nils, .nils, .nils].set 0 u') 0 0 (some 0) [])) σ1.nx [u', .nils, .nils] .nils [] :=
    ⟨hK3.put (Nat.le_of_lt xa) hx2 _, Nat.le_refl _, Up.refl _ _, by rw [H.get_put, if_pos rfl]; rfl, .nils⟩
  have hu4 : SP Est 9 true (σ3.put σ1.nx (.cells 26 ([.nils, .nils, .nils].set 0 u') 0 0 (some 0) [])) (fun z => σ2.nx.toNat ≤ z) u' g.us := hu3.up (Up.put _ (fun h => by omega) _)
  have g24 : (σ3.put σ1.nx (.cells 26 ([.nils, .nils, .nils].set 0 u') 0 0 (some 0) [])).get σ.nx = some (.cells 26 [.nils, .nils, .nils] 0 0 (some 0) []) := by
    rw [H.get_put, if_neg (by intro e; rw [e] at xa; omega)]; exact (hKb.trans t2).get_some hw1 ga
  generalize hσ4 : σ3.put σ1.nx (.cells 26 ([.nils, .nils, .nils].set 0 u') 0 0 (some 0) []) = σ4 at *
  have hn34 : σ4.nx.toNat = σ3.nx.toNat := by rw [← hσ4, nx_put]
  have ld4 : ldv σ4 (.ptr xe 0 1) = some d := ldk (hG0.keep.get_some hw e1) rfl
  rw [← hcf] at r1 t1
  simp only [c8, QA, reduceCtorEq, Nat.reduceAdd, Nat.reduceLeDiff, Nat.reduceEqDiff, QZ, h0, hσ1, hσ2, r1, lu, t1, st1, ld4, e3.len]
  refine Rt_seqNR (range_rule (l := 26) (i := 25) (nn := 24) (k := 36) (id := 0) (id' := 1) (B := y8_1) (N := g.ds.length)
    (fun j τ σ' => (∃ v, Gb Eda 33 σ σ4 σ' σ1.nx [u', v, .nils] v (g.ds.take j)) ∧ τ.get (pk 0) = some (.ptr xe 0 0) ∧ τ.get (pk 2) = some (.ptr σ.nx 0 0) ∧ τ.get (pk 3) = some (.ptr σ1.nx 0 0) ∧ τ.get (pk 23) = some d)
    (fun τ σ' => (∃ v, Gb Eda 33 σ σ4 σ' σ1.nx [u', v, .nils] v g.ds) ∧ τ.get (pk 0) = some (.ptr xe 0 0) ∧ τ.get (pk 2) = some (.ptr σ.nx 0 0) ∧ τ.get (pk 3) = some (.ptr σ1.nx 0 0)) _ (by decide) (by decide) (by decide) (by decide) (by decide) (by decide) (by decide) (by omega) (by unfold BB at hBB; omega) ?_ ?_ ?_ ?_ ?_) ?_
  · rintro j τ' σ' hj ⟨⟨v, hG⟩, g0, g2, g3, g23⟩ g25 g24
    have hw' := hG.keep.2.2 hw
    obtain ⟨x, hs'⟩ : ∃ s', g.ds[j]? = some s' := ⟨_, List.getElem?_eq_getElem hj⟩
    have hsz := sum_mem (f := daSz) hs'
    obtain ⟨q, ce, q1, q2, q3⟩ := (e3.keep hG.keep).elem hs'
    have ql := Eda.len q3
    have qo := Eda.one q3
    have lq := q2.ldg ql
    obtain ⟨σ5, s1, s2, s3⟩ := var_new σ' 33 2 (zs := [.str [], .nils]) rfl ql qo
    have hw5 := s2.2.2 hw'
    have gb5 := s2.get_some hw' hG.box
    have lv : ldv σ5 (.ptr σ1.nx 0 1) = some v := ldk gb5 rfl
    have lgd := (At.var s3).ldg (n := 2) ql
    obtain ⟨c', σ6, w1, w2, w3⟩ := copyData_call (lf := lf) (m := m) hw5 (Eda.up q3 (s2.up _)) (by omega) (by omega) (by omega)
    have bs := kBsn_agg (ty := 33) (Eda.len w3)
    obtain ⟨v', σ7, σ8, w4, w5, w6⟩ := Gb.step (eb := 40) (i := 1) hw (by decide) (by have := hG0.keep.1; omega) (Nat.le_of_lt xa) (by omega) hG (s2.trans w2) (Eda.low w3 fun z hz => Nat.le_trans s2.1 hz) (by simp) (by rw [List.length_take]; simp [mostBytes]; unfold BB at hBB; omega) (by rw [List.length_take]; simp [mostBytes]; unfold BB at hBB; omega)
    rw [← hcf] at w1
    simp only [y8_1, QA, reduceCtorEq, Nat.reduceAdd, Nat.reduceLeDiff, Nat.reduceEqDiff, QD, QZ, w_1l, g3, g23, g25, q1, lq, s1, lv, lgd, w1, bs, w4, w5, List.length_cons, List.length_nil, ne_eq, not_false_eq_true, Nat.zero_ne_one]
    rw [if_pos]
    · exact ⟨rfl, by simp only [QA, Nat.reduceEqDiff, g25], by simp only [QA, Nat.reduceEqDiff, g24], ⟨v', take_snoc hs' ▸ w6⟩, by simp only [QA, reduceCtorEq, g0], by simp only [QA, Nat.reduceEqDiff, g2], by simp only [QA, Nat.reduceEqDiff, g3], by simp only [QA, Nat.reduceEqDiff, g23]⟩
    · rw [owe_keepR gb5 hw5 (fun s h => by
        simp only [List.reverse_cons, List.reverse_nil, List.nil_append, List.cons_append, List.drop_zero, List.take_succ_cons, List.take_zero, List.mem_cons, List.not_mem_nil, or_false] at h
        rcases h with rfl | rfl
        · exact Keep.refl _
        · exact w2.trans (Keep.new _ _))]
      rfl
  · rintro τ σ' ⟨hG, g0, g2, g3, g23⟩
    rw [List.take_of_length_le (Nat.le_refl _)] at hG
    exact ⟨hG, by simp only [QA, reduceCtorEq, g0], by simp only [QA, Nat.reduceEqDiff, g2], by simp only [QA, Nat.reduceEqDiff, g3]⟩
  · exact ⟨⟨.nils, hG0⟩, by simp only [QA, reduceCtorEq, h0], by simp only [QA, Nat.reduceEqDiff], by simp only [QA, Nat.reduceEqDiff], by simp only [QA, Nat.reduceEqDiff]⟩
  · simp only [QA, Nat.reduceEqDiff]
  · simp only [QA, Nat.reduceEqDiff]
  · rintro τ σ5 ⟨⟨v, hG⟩, g0, g2, g3⟩
    have hw5 := hG.keep.2.2 hw
    have lf5 : ldv σ5 (.ptr xe 0 2) = some f := ldk (hG.keep.get_some hw e1) rfl
    have hv5 := hG.gl.sp.bd
    have hgr := hG.grow
    have hu5 : SP Est 9 true σ5 (fun z => σ2.nx.toNat ≤ z ∧ z < σ4.nx.toNat) u' g.us := (hu4.bd).up (hG.old.low fun z hz => ⟨by omega, hz.2⟩)
    have hx5 : σ1.nx.toNat < σ5.nx.toNat := by omega
    have hG1 : Gb Efu 44 σ σ5 σ5 σ1.nx [u', v, .nils] .nils [] := ⟨hG.keep, Nat.le_refl _, Up.refl _ _, hG.box, .nils⟩
    have g25 : σ5.get σ.nx = some (.cells 26 [.nils, .nils, .nils] 0 0 (some 0) []) := by
      rw [hG.old.2 σ.nx ⟨by omega, by omega⟩ (by omega)]; exact g24
    simp only [QA, Nat.reduceAdd, Nat.reduceLeDiff, Nat.reduceEqDiff, QZ, g0, lf5, e4.len]
    refine Rt_seqNR (range_rule (l := 44) (i := 43) (nn := 42) (k := 54) (id := 2) (id' := 3) (B := y8_3) (N := g.fs.length)
      (fun j τ σ' => (∃ w, Gb Efu 44 σ σ5 σ' σ1.nx [u', v, w] w (g.fs.take j)) ∧ τ.get (pk 2) = some (.ptr σ.nx 0 0) ∧ τ.get (pk 3) = some (.ptr σ1.nx 0 0) ∧ τ.get (pk 41) = some f)
      (fun τ σ' => (∃ w, Gb Efu 44 σ σ5 σ' σ1.nx [u', v, w] w g.fs) ∧ τ.get (pk 2) = some (.ptr σ.nx 0 0) ∧ τ.get (pk 3) = some (.ptr σ1.nx 0 0)) _ (by decide) (by decide) (by decide) (by decide) (by decide) (by decide) (by decide) (by omega) (by unfold BB at hBB; omega) ?_ ?_ ?_ ?_ ?_) ?_
    · rintro j τ' σ' hj ⟨⟨w, hG⟩, g2, g3, g41⟩ g43 g42
      have hw' := hG.keep.2.2 hw
      obtain ⟨x, hs'⟩ : ∃ s', g.fs[j]? = some s' := ⟨_, List.getElem?_eq_getElem hj⟩
      have hsz := sum_mem (f := fuSz) hs'
      obtain ⟨q, ce, q1, q2, q3⟩ := (e4.keep hG.keep).elem hs'
      have ql := Efu.len q3
      have qo := Efu.one q3
      have lq := q2.ldg ql
      obtain ⟨σ6, s1, s2, s3⟩ := var_new σ' 44 6 (zs := [.str [], .nils, .int .i64 0, .int .i64 0, .str [], .nils]) rfl ql qo
      have hw6 := s2.2.2 hw'
      have gb6 := s2.get_some hw' hG.box
      have lv : ldv σ6 (.ptr σ1.nx 0 2) = some w := ldk gb6 rfl
      have lgd := (At.var s3).ldg (n := 6) ql
      obtain ⟨c', σ7, w1, w2, w3⟩ := copyFun_call (lf := lf) (m := m) hw6 (Efu.up q3 (s2.up _)) (by omega) (by omega) (by omega)
      have bs := kBsn_agg (ty := 44) (Efu.len w3)
      obtain ⟨v', σ8, σ9, w4, w5, w6⟩ := Gb.step (eb := 96) (i := 2) hw (by decide) (hG1.keep.1) (Nat.le_of_lt xa) hx5 hG (s2.trans w2) (Efu.low w3 fun z hz => Nat.le_trans s2.1 hz) (by simp) (by rw [List.length_take]; simp [mostBytes]; unfold BB at hBB; omega) (by rw [List.length_take]; simp [mostBytes]; unfold BB at hBB; omega)
      rw [← hcf] at w1
      simp only [y8_3, QA, Nat.reduceAdd, Nat.reduceLeDiff, Nat.reduceEqDiff, QD, QZ, w_1l, g3, g41, g43, q1, lq, s1, lv, lgd, w1, bs, w4, w5, List.length_cons, List.length_nil, ne_eq, not_false_eq_true, Nat.zero_ne_one]
      rw [if_pos]
      · exact ⟨rfl, by simp only [QA, Nat.reduceEqDiff, g43], by simp only [QA, Nat.reduceEqDiff, g42], ⟨v', take_snoc hs' ▸ w6⟩, by simp only [QA, Nat.reduceEqDiff, g2], by simp only [QA, Nat.reduceEqDiff, g3], by simp only [QA, Nat.reduceEqDiff, g41]⟩
      · rw [owe_keepR gb6 hw6 (fun s h => by
          simp only [List.reverse_cons, List.reverse_nil, List.nil_append, List.cons_append, List.drop_zero, List.take_succ_cons, List.take_zero, List.mem_cons, List.not_mem_nil, or_false] at h
          rcases h with rfl | rfl
          · exact Keep.refl _
          · exact w2.trans (Keep.new _ _))]
        rfl
    · rintro τ σ' ⟨hG, g2, g3, g41⟩
      rw [List.take_of_length_le (Nat.le_refl _)] at hG
      exact ⟨hG, by simp only [QA, Nat.reduceEqDiff, g2], by simp only [QA, Nat.reduceEqDiff, g3]⟩
    · exact ⟨⟨.nils, hG1⟩, by simp only [QA, Nat.reduceEqDiff, g2], by simp only [QA, Nat.reduceEqDiff, g3], by simp only [QA, Nat.reduceEqDiff]⟩
    · simp only [QA, Nat.reduceEqDiff]
    · simp only [QA, Nat.reduceEqDiff]
    · rintro τ σ6 ⟨⟨w, hG6⟩, g2, g3⟩
      have lg3 := (At.var hG6.box).ldg (n := 3) rfl
      have hgr6 := hG6.grow
      have g26 : σ6.get σ.nx = some (.cells 26 [.nils, .nils, .nils] 0 0 (some 0) []) := by
        rw [hG6.old.2 σ.nx ⟨by omega, by omega⟩ (by omega)]; exact g25
      have hv6 : SP Eda 33 true σ6 (fun z => σ4.nx.toNat ≤ z ∧ z < σ5.nx.toNat) v g.ds := hv5.up (hG6.old.low fun z hz => ⟨by omega, hz.2⟩)
      have hu6 : SP Est 9 true σ6 (fun z => σ2.nx.toNat ≤ z ∧ z < σ4.nx.toNat) u' g.us := hu5.up (hG6.old.low fun z hz => ⟨by omega, by omega⟩)
      have hw6 := hG6.gl.sp
      have st := st3 g26 hu6.one hv6.one hw6.one
      simp only [QA, Nat.reduceAdd, Nat.reduceLeDiff, Nat.reduceEqDiff, QZ, g2, g3, lg3, st]
      refine ⟨_, _, rfl, blk_get (by rw [H.get_put, if_pos rfl]), rfl, hG6.keep.put (Nat.le_refl _) (by omega) _, u', v, w, rfl, ?_, ?_, ?_⟩
      · exact (hu6.up (Up.put _ (fun h => by omega) _)).low fun z hz => by omega
      · exact (hv6.up (Up.put _ (fun h => by omega) _)).low fun z hz => by omega
      · exact (hw6.up (Up.put _ (fun h => by omega) _)).low fun z hz => by omega
end Go.Proofs.YtfgghbikbaopjaaGreatDoorEng

