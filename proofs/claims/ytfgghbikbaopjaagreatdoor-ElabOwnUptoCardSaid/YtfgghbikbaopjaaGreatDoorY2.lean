/- Symbolic runs: Name, parts, shaped, wrong. (Numbers of seat r3.) -/
/- Symbolic runs: maps; known, check. (Numbers of seat r3.) -/
/- Symbolic runs: datas, grounded, standing. (Numbers of seat r3.) -/
/- Symbolic runs: standing, leans. (Numbers of seat r3.) -/
/- Symbolic runs: leans. (Numbers of seat r3.) -/
/- Symbolic runs: leans, nested. (Numbers of seat r3.) -/
import Derived.Test.YtfgghbikbaopjaaGreatDoorY1
namespace Go.Proofs.YtfgghbikbaopjaaGreatDoorEng
open Go
set_option maxRecDepth 100000
set_option linter.unusedSimpArgs false

theorem c73_at : T1.code 73 = some c73 := by kernel_rfl
/-- Name -/
theorem name_call {lf m : Nat} {σ : H} {s : List Nat} (hlf : s.length < lf) (hl : s.length < 4611686018427387904) : ∃ b, call T1 lf (m + 1) 73 [.str s] σ = .ret (.bool b) σ := by
  have key : ∃ v σ', call T1 lf (m + 1) 73 [.str s] σ = .ret v σ' ∧ (σ' = σ ∧ ∃ b, v = .bool b) := by
    refine call_rt1 (p := pk 2) rfl c73_at (by simp [c73]) rfl fun cf hcf => ?_
    clear hcf
    generalize hτ : bindArgs [.str s] .h .lf = τ0
    have h0 : τ0.get (pk 0) = some (.str s) := by rw [← hτ]; rfl
    clear hτ
    cases d1 : decide (((s.length : Nat) : Int) < 1) with
    | true =>
      simp only [c73, QA, reduceCtorEq, Nat.reduceAdd, Nat.reduceLeDiff, Nat.reduceEqDiff, h0, d1]
      exact ⟨_, rfl⟩
    | false =>
    have hpos : 0 < s.length := by simp at d1; omega
    cases d2 : decide ((200 : Int) < ((s.length : Nat) : Int)) with
    | true =>
      simp only [c73, QA, reduceCtorEq, Nat.reduceAdd, Nat.reduceLeDiff, Nat.reduceEqDiff, h0, d1, d2]
      exact ⟨_, rfl⟩
    | false =>
    have x0 := e_ixk .i64 hpos
    simp only [show ((0 : Nat) : Int) = 0 from rfl] at x0
    cases d3 : (((s.getD 0 0 : Nat) : Int) == 64) with
    | true =>
      simp only [c73, QA, reduceCtorEq, Nat.reduceAdd, Nat.reduceLeDiff, Nat.reduceEqDiff, h0, d1, d2, x0, d3]
      exact ⟨_, rfl⟩
    | false =>
    cases d4 : (((s.getD 0 0 : Nat) : Int) == 46) with
    | true =>
      simp only [c73, QA, reduceCtorEq, Nat.reduceAdd, Nat.reduceLeDiff, Nat.reduceEqDiff, h0, d1, d2, x0, d3, d4]
      exact ⟨_, rfl⟩
    | false =>
    simp only [c73, QA, reduceCtorEq, Nat.reduceAdd, Nat.reduceLeDiff, Nat.reduceEqDiff, h0, d1, d2, x0, d3, d4]
    refine Rt_seqNR (range_rule (l := 25) (i := 24) (nn := 23) (k := 49) (id := 0) (id' := 1) (B := y73_1) (N := s.length)
      (fun j τ σ' => σ' = σ ∧ τ.get (pk 0) = some (.str s)) (fun τ σ' => σ' = σ) (fun τ σ' => ∃ v, τ.get (pk 2) = some v ∧ σ' = σ ∧ ∃ b, v = .bool b)
      (by decide) (by decide) (by decide) (by decide) (by decide) (by decide) (by decide) hlf hl ?_ ?_ ?_ ?_ ?_) ?_
    · rintro j τ σ' hj ⟨rfl, g0⟩ g24 g23
      have x := e_ixk .i64 hj
      cases a1 : decide (((s.getD j 0 : Nat) : Int) < 32) with
      | true => simp only [y73_1, QA, reduceCtorEq, Nat.reduceAdd, Nat.reduceLeDiff, Nat.reduceEqDiff, g0, g24, x, a1]; exact ⟨_, rfl⟩
      | false =>
      cases a2 : decide ((126 : Int) < ((s.getD j 0 : Nat) : Int)) with
      | true => simp only [y73_1, QA, reduceCtorEq, Nat.reduceAdd, Nat.reduceLeDiff, Nat.reduceEqDiff, g0, g24, x, a1, a2]; exact ⟨_, rfl⟩
      | false =>
      cases a3 : (((s.getD j 0 : Nat) : Int) == 124) with
      | true => simp only [y73_1, QA, reduceCtorEq, Nat.reduceAdd, Nat.reduceLeDiff, Nat.reduceEqDiff, g0, g24, x, a1, a2, a3]; exact ⟨_, rfl⟩
      | false =>
      cases a4 : (((s.getD j 0 : Nat) : Int) == 92) with
      | true => simp only [y73_1, QA, reduceCtorEq, Nat.reduceAdd, Nat.reduceLeDiff, Nat.reduceEqDiff, g0, g24, x, a1, a2, a3, a4]; exact ⟨_, rfl⟩
      | false => simp only [y73_1, QA, reduceCtorEq, Nat.reduceAdd, Nat.reduceLeDiff, Nat.reduceEqDiff, g0, g24, g23, x, a1, a2, a3, a4]
    · rintro τ σ' ⟨rfl, g0⟩
      rfl
    · exact ⟨rfl, by simp only [QA, reduceCtorEq, h0]⟩
    · simp only [QA, Nat.reduceEqDiff]
    · simp only [QA, Nat.reduceEqDiff]
    · rintro τ σ' rfl
      simp only [QA, Nat.reduceAdd, Nat.reduceLeDiff]
      exact ⟨_, rfl⟩
  obtain ⟨v, σ', h1, rfl, b, rfl⟩ := key
  exact ⟨b, h1⟩

theorem c218_at : T1.code 218 = some c218 := by kernel_rfl
/-- parts -/
theorem parts_call : ∀ (n : Nat) (s : S), s.sz ≤ n → ∀ {lf m : Nat} {σ : H} {o : Bool} {Q : Nat → Prop} {c : List V} {dd : Int}, WfH σ → SortIs σ o Q c s → s.sz < lf → s.sz < BB → n ≤ m →
    ∃ v u σ', call T1 lf (m + 1) 218 [.agg c, .int .i64 dd] σ = .ret (.tup [v, u]) σ' ∧ Keep σ σ' ∧ (∃ i : Int, v = .int .i64 i) ∧ ∃ b, u = .bool b := by
  intro n
  induction n with
  | zero => intro s hs; cases s with | mk => simp [S.sz] at hs
  | succ n ih =>
    intro s hs lf m σ o Q c dd hw hS hlf hBB hm
    obtain ⟨m, rfl⟩ : ∃ m', m = m' + 1 := ⟨m - 1, by omega⟩
    obtain ⟨k, w, nm, a, args, rfl, rfl, hA⟩ := hS.inv
    simp only [S.sz] at hs hlf hBB
    have hlen := S.szL_len args
    refine call_rt2 (p := pk 4) (q := pk 5) (Post := fun v u σ' => Keep σ σ' ∧ (∃ i : Int, v = .int .i64 i) ∧ ∃ b, u = .bool b) rfl c218_at (by simp [c218]) rfl fun cf hcf => ?_
    generalize hτ : bindArgs [.agg [.int .i64 k, .int .i64 w, .str nm, a], .int .i64 dd] .h .lf = τ0
    have h0 : τ0.get (pk 0) = some (.agg [.int .i64 k, .int .i64 w, .str nm, a]) := by rw [← hτ]; rfl
    have h1 : τ0.get (pk 1) = some (.int .i64 dd) := by rw [← hτ]; rfl
    clear hτ
    have hKa := Keep.new σ (.cells 40 [.int .i64 k, .int .i64 w, .str nm, a] 0 0 (some 0) [])
    have ga := (Keep.refl (σ.new (.cells 40 [.int .i64 k, .int .i64 w, .str nm, a] 0 0 (some 0) []))).at
    have hw1 := hKa.2.2 hw
    generalize hσ1 : σ.new (.cells 40 [.int .i64 k, .int .i64 w, .str nm, a] 0 0 (some 0) []) = σ1 at *
    have hA1 := hA.keep hKa
    have l3 : ldv σ1 (.ptr σ.nx 0 3) = some a := ldk ga rfl
    have hal := hA1.len
    cases d1 : decide ((16 : Int) < dd) with
    | true =>
      simp only [c218, QA, Nat.reduceAdd, Nat.reduceLeDiff, Nat.reduceEqDiff, QY, e_box, h0, h1, hσ1, d1]
      exact ⟨_, _, rfl, rfl, hKa, ⟨_, rfl⟩, _, rfl⟩
    | false =>
    simp only [c218, QA, Nat.reduceAdd, Nat.reduceLeDiff, Nat.reduceEqDiff, QY, e_box, h0, h1, hσ1, d1, l3, hal]
    refine Rt_seqNR (range_rule (l := 17) (i := 16) (nn := 15) (k := 37) (id := 0) (id' := 1) (B := y218_1) (N := args.length)
      (fun j τ σ' => Keep σ1 σ' ∧ τ.get (pk 1) = some (.int .i64 dd) ∧ τ.get (pk 14) = some a ∧ ∃ i : Int, τ.get (pk 6) = some (.int .i64 i))
      (fun τ σ' => Keep σ1 σ' ∧ ∃ i : Int, τ.get (pk 6) = some (.int .i64 i))
      (fun τ σ' => ∃ v u, τ.get (pk 4) = some v ∧ τ.get (pk 5) = some u ∧ Keep σ σ' ∧ (∃ i : Int, v = .int .i64 i) ∧ ∃ b, u = .bool b) (by decide) (by decide) (by decide) (by decide) (by decide) (by decide) (by decide) (by omega) (by unfold BB at hBB; omega) ?_ ?_ ?_ ?_ ?_) ?_
    · rintro j τ σ' hj ⟨hK, g1, g14, i, g6⟩ g16 g15
      obtain ⟨s', hs'⟩ : ∃ s', args[j]? = some s' := ⟨_, List.getElem?_eq_getElem hj⟩
      have hsz := S.szL_mem hs'
      obtain ⟨q, ce, q1, q2, q3⟩ := (hA1.keep hK).elem hs'
      have q3 : SortIs σ' o Q ce s' := q3
      have lq := q2.ldg q3.len
      have hw' := hK.2.2 hw1
      obtain ⟨σ3, k1, k2, k3⟩ := var_new σ' 40 4 (zs := [.int .i64 0, .int .i64 0, .str [], .nils]) rfl q3.len q3.one
      have l5 := (At.var k3).ldg q3.len
      have hw3 := k2.2.2 hw'
      obtain ⟨v', u', σ4, k4, k5, ⟨i', rfl⟩, b, rfl⟩ := ih s' (by omega) (lf := lf) (m := m) (dd := IntKind.i64.wrap (dd + 1)) hw3 (q3.up (k2.up _)) (by omega) (by omega) (by omega)
      rw [← hcf] at k4
      have kk := hK.trans (k2.trans k5)
      cases b with
      | false =>
        simp only [y218_1, QA, Nat.reduceAdd, Nat.reduceLeDiff, Nat.reduceEqDiff, QY, g1, g6, g14, g16, q1, lq, k1, l5, k4]
        exact ⟨_, _, rfl, rfl, hKa.trans kk, ⟨_, rfl⟩, _, rfl⟩
      | true =>
        cases d2 : decide ((256 : Int) < IntKind.i64.wrap (i + i')) with
        | true =>
          simp only [y218_1, QA, Nat.reduceAdd, Nat.reduceLeDiff, Nat.reduceEqDiff, QY, g1, g6, g14, g16, q1, lq, k1, l5, k4, d2]
          exact ⟨_, _, rfl, rfl, hKa.trans kk, ⟨_, rfl⟩, _, rfl⟩
        | false =>
          simp only [y218_1, QA, Nat.reduceAdd, Nat.reduceLeDiff, Nat.reduceEqDiff, QY, g1, g6, g14, g15, g16, q1, lq, k1, l5, k4, d2]
          exact ⟨kk, _, rfl⟩
    · rintro τ σ' ⟨hK, g1, g14, i, g6⟩
      exact ⟨hK, i, by simp only [QA, Nat.reduceEqDiff, g6]⟩
    · exact ⟨Keep.refl _, by simp only [QA, Nat.reduceEqDiff, h1], by simp only [QA, Nat.reduceEqDiff], 1, by simp only [QA, Nat.reduceEqDiff]⟩
    · simp only [QA, Nat.reduceEqDiff]
    · simp only [QA, Nat.reduceEqDiff]
    · rintro τ σ' ⟨hK, i, g6⟩
      simp only [QA, Nat.reduceAdd, Nat.reduceLeDiff, Nat.reduceEqDiff, g6]
      exact ⟨_, _, rfl, rfl, hKa.trans hK, ⟨_, rfl⟩, _, rfl⟩

/-- arrays have two parts -/
inductive Shp : S → Prop
  | mk (k w : Int) (nm : List Nat) (args : List S) (h : k = 4 → args.length = 2) (ha : ∀ (i : Nat) (s : S), args[i]? = some s → Shp s) : Shp (.mk k w nm args)
theorem c219_at : T1.code 219 = some c219 := by kernel_rfl
/-- the cases of shaped -/
theorem shaped_sw {cf : CallF} {lf : Nat} {τ : Tr V} {σ : H} {x1 : Pos} {k w : Int} {nm : List Nat} {a : V} {N : Nat} (hname : ∃ b, cf 73 [.str nm] σ = .ret (.bool b) σ) (hg : σ.get x1 = some (.cells 40 [.int .i64 k, .int .i64 w, .str nm, a] 0 0 (some 0) []))
    (f1 : τ.get (pk 1) = some (.ptr x1 0 0)) (f7 : τ.get (pk 7) = some (.int .i64 k)) (f3 : τ.get (pk 3) = some (.bool false)) (hN : lenV a = some (.int .i64 N)) :
    Nx (kBlk 0 (exec cf lf 93 x219_0 τ σ [])) (fun τ' σ' => σ' = σ ∧ τ'.get (pk 1) = some (.ptr x1 0 0) ∧ ∃ b, τ'.get (pk 3) = some (.bool b) ∧ (b = true → k = 4 → N = 2)) := by
  obtain ⟨bn, hn⟩ := hname
  have l1 : ldv σ (.ptr x1 0 1) = some (.int .i64 w) := ldk hg rfl
  have l2 : ldv σ (.ptr x1 0 2) = some (.str nm) := ldk hg rfl
  have l3 : ldv σ (.ptr x1 0 3) = some a := ldk hg rfl
  cases e1 : (k == 1) with
  | true =>
    have hk : k = 1 := eq_of_beq e1
    cases ew : (w == 0) <;> cases en : natEq nm [] <;> simp only [x219_0, QA, Nat.reduceAdd, Nat.reduceLeDiff, Nat.reduceEqDiff, QY, f1, f3, f7, e1, ew, en, l1, l2, l3, hN] <;> exact ⟨_, rfl, fun _ h => by omega⟩
  | false =>
  cases e2 : (k == 2) with
  | true =>
    have hk : k = 2 := eq_of_beq e2
    cases ew : (w == 0) <;> cases en : natEq nm [] <;> simp only [x219_0, QA, Nat.reduceAdd, Nat.reduceLeDiff, Nat.reduceEqDiff, QY, f1, f3, f7, e1, e2, ew, en, l1, l2, l3, hN] <;> exact ⟨_, rfl, fun _ h => by omega⟩
  | false =>
  cases e3 : (k == 3) with
  | true =>
    have hk : k = 3 := eq_of_beq e3
    cases ew : decide (1 ≤ w) <;> cases ew2 : decide (w ≤ 4096) <;> cases en : natEq nm [] <;> simp only [x219_0, QA, Nat.reduceAdd, Nat.reduceLeDiff, Nat.reduceEqDiff, QY, f1, f3, f7, e1, e2, e3, ew, ew2, en, l1, l2, l3, hN] <;> exact ⟨_, rfl, fun _ h => by omega⟩
  | false =>
  cases e4 : (k == 4) with
  | true =>
    cases ew : (w == 0) <;> cases en : natEq nm [] <;> simp only [x219_0, QA, Nat.reduceAdd, Nat.reduceLeDiff, Nat.reduceEqDiff, QY, f1, f3, f7, e1, e2, e3, e4, ew, en, l1, l2, l3, hN]
    · exact ⟨_, rfl, fun h => by cases h⟩
    · exact ⟨_, rfl, fun h => by cases h⟩
    · exact ⟨_, rfl, fun h => by cases h⟩
    · exact ⟨_, rfl, fun h _ => by have := eq_of_beq h; omega⟩
  | false =>
  have h4 : k ≠ 4 := fun h => by rw [h] at e4; cases e4
  cases e5 : (k == 5) with
  | true =>
    cases ew : (w == 0) <;> cases bn <;> simp only [x219_0, QA, Nat.reduceAdd, Nat.reduceLeDiff, Nat.reduceEqDiff, QY, f1, f3, f7, e1, e2, e3, e4, e5, ew, hn, l1, l2, l3, hN] <;> exact ⟨_, rfl, fun _ h => absurd h h4⟩
  | false =>
  cases e6 : (k == 6) with
  | true =>
    cases ew : (w == 0) <;> cases bn <;> simp only [x219_0, QA, Nat.reduceAdd, Nat.reduceLeDiff, Nat.reduceEqDiff, QY, f1, f3, f7, e1, e2, e3, e4, e5, e6, ew, hn, l1, l2, l3, hN] <;> exact ⟨_, rfl, fun _ h => absurd h h4⟩
  | false =>
    simp only [x219_0, QA, Nat.reduceAdd, Nat.reduceLeDiff, Nat.reduceEqDiff, f1, f3, f7, e1, e2, e3, e4, e5, e6]
    exact ⟨_, rfl, fun _ h => absurd h h4⟩
/-- shaped -/
theorem shaped_call : ∀ (n : Nat) (s : S), s.sz ≤ n → ∀ {lf m : Nat} {σ : H} {o : Bool} {Q : Nat → Prop} {c : List V}, WfH σ → SortIs σ o Q c s → s.sz < lf → s.sz < BB → n ≤ m →
    ∃ b σ', call T1 lf (m + 1) 219 [.agg c] σ = .ret (.bool b) σ' ∧ Keep σ σ' ∧ (b = true → Shp s) := by
  intro n
  induction n with
  | zero => intro s hs; cases s with | mk => simp [S.sz] at hs
  | succ n ih =>
    intro s hs lf m σ o Q c hw hS hlf hBB hm
    obtain ⟨m, rfl⟩ : ∃ m', m = m' + 1 := ⟨m - 1, by omega⟩
    obtain ⟨k, w, nm, a, args, rfl, rfl, hA⟩ := hS.inv
    simp only [S.sz] at hs hlf hBB
    have hlen := S.szL_len args
    have key : ∃ v σ', call T1 lf (m + 2) 219 [.agg [.int .i64 k, .int .i64 w, .str nm, a]] σ = .ret v σ' ∧ (Keep σ σ' ∧ ∃ b, v = .bool b ∧ (b = true → Shp (.mk k w nm args))) := by
      refine call_rt1 (p := pk 2) rfl c219_at (by simp [c219]) rfl fun cf hcf => ?_
      generalize hτ : bindArgs [.agg [.int .i64 k, .int .i64 w, .str nm, a]] .h .lf = τ0
      have h0 : τ0.get (pk 0) = some (.agg [.int .i64 k, .int .i64 w, .str nm, a]) := by rw [← hτ]; rfl
      clear hτ
      have hKa := Keep.new σ (.cells 40 [.int .i64 k, .int .i64 w, .str nm, a] 0 0 (some 0) [])
      have ga := (Keep.refl (σ.new (.cells 40 [.int .i64 k, .int .i64 w, .str nm, a] 0 0 (some 0) []))).at
      have hw1 := hKa.2.2 hw
      generalize hσ1 : σ.new (.cells 40 [.int .i64 k, .int .i64 w, .str nm, a] 0 0 (some 0) []) = σ1 at *
      have hA1 := hA.keep hKa
      have l0 : ldv σ1 (.ptr σ.nx 0 0) = some (.int .i64 k) := ldk ga rfl
      have l3 : ldv σ1 (.ptr σ.nx 0 3) = some a := ldk ga rfl
      have hal := hA1.len
      have hname : ∃ b, cf 73 [.str nm] σ1 = .ret (.bool b) σ1 := by rw [hcf]; exact name_call (by omega) (by unfold BB at hBB; omega)
      simp only [c219, QA, Nat.reduceAdd, Nat.reduceLeDiff, Nat.reduceEqDiff, QY, e_box, h0, hσ1, l0]
      refine Rt_seq (shaped_sw (N := args.length) hname ga (by simp only [QA, Nat.reduceEqDiff]) (by simp only [QA, Nat.reduceEqDiff]) (by simp only [QA, Nat.reduceEqDiff]) hal) ?_
      rintro τ σ' ⟨hσ, g1, b0, g3, hb0⟩
      have hσ := hσ.symm
      subst hσ
      simp only [QA, Nat.reduceAdd, Nat.reduceLeDiff, QY, g1, l3, hal]
      refine Rt_seqNR (range_rule (l := 83) (i := 82) (nn := 81) (k := 91) (id := 1) (id' := 2) (B := y219_1) (N := args.length)
        (fun j τ σ' => Keep σ1 σ' ∧ τ.get (pk 80) = some a ∧ ∃ b, τ.get (pk 3) = some (.bool b) ∧ (b = true → k = 4 → args.length = 2) ∧ (b = true → ∀ (i : Nat) s, i < j → args[i]? = some s → Shp s))
        (fun τ σ' => Keep σ1 σ' ∧ ∃ b, τ.get (pk 3) = some (.bool b) ∧ (b = true → Shp (.mk k w nm args)))
        _ (by decide) (by decide) (by decide) (by decide) (by decide) (by decide) (by decide) (by omega) (by unfold BB at hBB; omega) ?_ ?_ ?_ ?_ ?_) ?_
      · rintro j τ σ' hj ⟨hK, g80, b, g3, hb1, hb2⟩ g82 g81
        obtain ⟨s', hs'⟩ : ∃ s', args[j]? = some s' := ⟨_, List.getElem?_eq_getElem hj⟩
        have hsz := S.szL_mem hs'
        obtain ⟨q, ce, q1, q2, q3⟩ := (hA1.keep hK).elem hs'
        have q3 : SortIs σ' o Q ce s' := q3
        have lq := q2.ldg q3.len
        have hw' := hK.2.2 hw1
        obtain ⟨σ3, k1, k2, k3⟩ := var_new σ' 40 4 (zs := [.int .i64 0, .int .i64 0, .str [], .nils]) rfl q3.len q3.one
        have l5 := (At.var k3).ldg q3.len
        have hw3 := k2.2.2 hw'
        cases b with
        | false =>
          simp only [y219_1, QA, Nat.reduceAdd, Nat.reduceLeDiff, Nat.reduceEqDiff, QY, g3, g80, g81, g82, q1, lq, k1, l5]
          exact ⟨hK.trans k2, false, rfl, fun h => (by cases h), fun h => by cases h⟩
        | true =>
          obtain ⟨b', σ4, k4, k5, k6⟩ := ih s' (by omega) (lf := lf) (m := m) hw3 (q3.up (k2.up _)) (by omega) (by omega) (by omega)
          rw [← hcf] at k4
          simp only [y219_1, QA, Nat.reduceAdd, Nat.reduceLeDiff, Nat.reduceEqDiff, QY, g3, g80, g81, g82, q1, lq, k1, l5, k4]
          refine ⟨hK.trans (k2.trans k5), b', rfl, fun _ => hb1 rfl, fun h i s hi he => ?_⟩
          rcases Nat.lt_or_ge i j with hlt | hge
          · exact hb2 rfl i s hlt he
          · obtain rfl : i = j := by omega
            rw [hs'] at he
            obtain rfl := Option.some.inj he
            exact k6 h
      · rintro τ σ' ⟨hK, g80, b, g3, hb1, hb2⟩
        refine ⟨hK, b, by simp only [QA, Nat.reduceEqDiff, g3], fun h => .mk k w nm args (hb1 h) fun i s he => hb2 h i s ?_ he⟩
        rcases Nat.lt_or_ge i args.length with h | h
        · exact h
        · rw [List.getElem?_eq_none h] at he; cases he
      · exact ⟨Keep.refl _, by simp only [QA, Nat.reduceEqDiff], b0, by simp only [QA, Nat.reduceEqDiff, g3], hb0, fun _ i s hi => by omega⟩
      · simp only [QA, Nat.reduceEqDiff]
      · simp only [QA, Nat.reduceEqDiff]
      · rintro τ σ' ⟨hK, b, g3, hb⟩
        simp only [QA, Nat.reduceAdd, Nat.reduceLeDiff, Nat.reduceEqDiff, g3]
        exact ⟨hKa.trans hK, b, rfl, hb⟩
    obtain ⟨v, σ', h1, h2, b, rfl, h3⟩ := key
    exact ⟨b, σ', h1, h2, h3⟩

theorem c162_at : T1.code 162 = some c162 := by kernel_rfl
/-- wrong -/
theorem wrong_call {s : S} {lf m : Nat} {σ : H} {o : Bool} {Q : Nat → Prop} {c : List V} (hw : WfH σ) (hS : SortIs σ o Q c s) (hlf : s.sz < lf) (hBB : s.sz < BB) (hm : s.sz ≤ m) :
    ∃ i σ', call T1 lf (m + 2) 162 [.agg c] σ = .ret (.int .i64 i) σ' ∧ Keep σ σ' ∧ (i = 0 → Shp s) := by
  have key : ∃ v σ', call T1 lf (m + 2) 162 [.agg c] σ = .ret v σ' ∧ (Keep σ σ' ∧ ∃ i, v = .int .i64 i ∧ (i = 0 → Shp s)) := by
    refine call_rt1 (p := pk 2) rfl c162_at (by simp [c162]) rfl fun cf hcf => ?_
    generalize hτ : bindArgs [.agg c] .h .lf = τ0
    have h0 : τ0.get (pk 0) = some (.agg c) := by rw [← hτ]; rfl
    clear hτ
    have hKa := Keep.new σ (.cells 40 c 0 0 (some 0) [])
    have ga := (Keep.refl (σ.new (.cells 40 c 0 0 (some 0) []))).at
    have hw1 := hKa.2.2 hw
    generalize hσ1 : σ.new (.cells 40 c 0 0 (some 0) []) = σ1 at *
    have lg0 := (At.var ga).ldg hS.len
    obtain ⟨v, u, σ2, k1, k2, ⟨i, rfl⟩, b, rfl⟩ := parts_call s.sz s (Nat.le_refl _) (lf := lf) (m := m) (dd := 1) hw1 (hS.up (hKa.up _)) hlf hBB hm
    have hw2 := k2.2.2 hw1
    have lg2 := (At.var (k2.get_some hw1 ga)).ldg hS.len
    obtain ⟨b', σ3, k3, k4, k5⟩ := shaped_call s.sz s (Nat.le_refl _) (lf := lf) (m := m) hw2 (hS.up ((hKa.trans k2).up _)) hlf hBB hm
    rw [← hcf] at k1 k3
    cases b with
    | false =>
      simp only [c162, QA, Nat.reduceAdd, Nat.reduceLeDiff, Nat.reduceEqDiff, QY, e_box, h0, hσ1, lg0, k1]
      exact ⟨hKa.trans k2, _, rfl, fun h => by cases h⟩
    | true =>
      cases b' with
      | false =>
        simp only [c162, QA, Nat.reduceAdd, Nat.reduceLeDiff, Nat.reduceEqDiff, QY, e_box, h0, hσ1, lg0, k1, lg2, k3]
        exact ⟨hKa.trans (k2.trans k4), _, rfl, fun h => by cases h⟩
      | true =>
        simp only [c162, QA, Nat.reduceAdd, Nat.reduceLeDiff, Nat.reduceEqDiff, QY, e_box, h0, hσ1, lg0, k1, lg2, k3]
        exact ⟨hKa.trans (k2.trans k4), _, rfl, fun _ => k5 rfl⟩
  obtain ⟨v, σ', h1, h2, i, rfl, h3⟩ := key
  exact ⟨i, σ', h1, h2, h3⟩
end Go.Proofs.YtfgghbikbaopjaaGreatDoorEng

namespace Go.Proofs.YtfgghbikbaopjaaGreatDoorEng
open Go
set_option maxRecDepth 100000
set_option linter.unusedSimpArgs false

/- maps -/
def kLk (σ : H) (z : V) (ok : Bool) (q : EqT) : Option V → Option V → Option V
  | some (.map x), some k => if keyOk q k then match σ.get x with
    | some (.mp es) => match findK q k es with
      | some (some v) => some (if ok then .tup [v, .bool true] else v)
      | some none => some (if ok then .tup [z, .bool false] else z)
      | none => none
    | _ => none
    else none
  | _, _ => none
theorem e_lookup (τ : Tr V) (σ : H) (z : V) (ok : Bool) (q : EqT) (m k : Arg) : ROp.ev τ σ (.lookup z ok q m k) = kLk σ z ok q (m.ev τ) (k.ev τ) := by
  simp only [ROp.ev]
  cases m.ev τ with
  | none => rfl
  | some v =>
    cases v <;> try rfl
    cases k.ev τ <;> rfl
def muV (σ : H) (q : EqT) (k v : V) : V → HR
  | .map x => match σ.get x with
    | some (.mp es) => if keyOk q k then
        match setK q k v es with
        | some es' => .ok undefV (σ.put x (.mp es'))
        | none => .bad
      else .bad
    | _ => .bad
  | _ => .bad
def kMu (σ : H) (q : EqT) : Option V → Option V → Option V → HR
  | some m, some k, some v => muV σ q k v m
  | _, _, _ => .bad
theorem e_mupd (τ : Tr V) (σ : H) (q : EqT) (m k v : Arg) : HOp.ev τ σ (.mupd q m k v) = kMu σ q (m.ev τ) (k.ev τ) (v.ev τ) := by
  simp only [HOp.ev]
  cases m.ev τ with
  | none => cases k.ev τ <;> cases v.ev τ <;> rfl
  | some x =>
    cases k.ev τ with
    | none => cases x <;> cases v.ev τ <;> rfl
    | some y =>
      cases v.ev τ with
      | none => cases x <;> rfl
      | some z => cases x <;> rfl
theorem e_mupdk (σ : H) (q : EqT) (m k v : V) : kMu σ q (some m) (some k) (some v) = muV σ q k v m := rfl
theorem e_mkmap (τ : Tr V) : AOp.ev τ .mkmap = some (.map, .mp []) := rfl
theorem e_AK_map (x : Pos) : AK.map.val x = .map x := rfl

def GoodKey (q : EqT) (K : V → Prop) : Prop := ∀ a b, K a → K b → keyOk q a = true ∧ ∃ r, veq q a b = some r ∧ (r = true → plainEq a b = true)
def MapIs (σ : H) (x : Pos) (K W : V → Prop) : Prop := ∃ es, σ.get x = some (.mp es) ∧ ∀ e ∈ es, K e.1 ∧ W e.2
theorem MapIs.keep {σ σ' : H} {x : Pos} {K W : V → Prop} (h : MapIs σ x K W) (hw : WfH σ) (k : Keep σ σ') : MapIs σ' x K W := by
  obtain ⟨es, h1, h2⟩ := h
  exact ⟨es, k.get_some hw h1, h2⟩
theorem findK_ok {q : EqT} {K W : V → Prop} (hq : GoodKey q K) {k : V} (hk : K k) : ∀ {es : List (V × V)}, (∀ e ∈ es, K e.1 ∧ W e.2) → findK q k es = some none ∨ ∃ v, W v ∧ findK q k es = some (some v)
  | [], _ => .inl rfl
  | (a, v) :: r, h => by
    obtain ⟨ha, hv⟩ := h (a, v) (by simp)
    obtain ⟨_, b, hb, _⟩ := hq k a hk ha
    simp only [findK, hb]
    cases b with
    | true => exact .inr ⟨v, hv, rfl⟩
    | false => exact findK_ok hq hk (es := r) fun e he => h e (by simp [he])
theorem setK_ok {q : EqT} {K W : V → Prop} (hq : GoodKey q K) {k v : V} (hk : K k) (hv : W v) : ∀ {es : List (V × V)}, (∀ e ∈ es, K e.1 ∧ W e.2) → ∃ es', setK q k v es = some es' ∧ ∀ e ∈ es', K e.1 ∧ W e.2
  | [], _ => ⟨_, rfl, fun e he => by simp at he; subst he; exact ⟨hk, hv⟩⟩
  | (a, w) :: r, h => by
    obtain ⟨ha, hwv⟩ := h (a, w) (by simp)
    obtain ⟨_, b, hb, hp⟩ := hq k a hk ha
    simp only [setK, hb]
    cases b with
    | true =>
      rw [hp rfl]
      refine ⟨_, rfl, fun e he => ?_⟩
      rcases List.mem_cons.1 he with rfl | he
      · exact ⟨ha, hv⟩
      · exact h e (by simp [he])
    | false =>
      obtain ⟨es', h1, h2⟩ := setK_ok hq hk hv (es := r) fun e he => h e (by simp [he])
      simp only [h1]
      refine ⟨_, rfl, fun e he => ?_⟩
      rcases List.mem_cons.1 he with rfl | he
      · exact ⟨ha, hwv⟩
      · exact h2 e he
theorem MapIs.look {σ : H} {x : Pos} {K W : V → Prop} {q : EqT} (h : MapIs σ x K W) (hq : GoodKey q K) {k z : V} (hk : K k) (hz : W z) : ∃ v b, W v ∧ kLk σ z false q (some (.map x)) (some k) = some v ∧ kLk σ z true q (some (.map x)) (some k) = some (.tup [v, .bool b]) := by
  obtain ⟨es, h1, h2⟩ := h
  have hko := (hq k k hk hk).1
  rcases findK_ok hq hk h2 with h3 | ⟨v, hv, h3⟩
  · refine ⟨z, false, hz, ?_, ?_⟩ <;> simp [kLk, hko, h1, h3]
  · refine ⟨v, true, hv, ?_, ?_⟩ <;> simp [kLk, hko, h1, h3]
theorem MapIs.upd {σ : H} {x : Pos} {K W : V → Prop} {q : EqT} (h : MapIs σ x K W) (hq : GoodKey q K) {k v : V} (hk : K k) (hv : W v) : ∃ es', muV σ q k v (.map x) = .ok undefV (σ.put x (.mp es')) ∧ MapIs (σ.put x (.mp es')) x K W := by
  obtain ⟨es, h1, h2⟩ := h
  have hko := (hq k k hk hk).1
  obtain ⟨es', h3, h4⟩ := setK_ok hq hk hv h2
  exact ⟨es', by simp only [muV, h1, hko, h3, if_true], es', by rw [H.get_put, if_pos rfl], h4⟩
theorem natEq_eq : ∀ {a b : List Nat}, natEq a b = true → a = b
  | [], [], _ => rfl
  | [], _ :: _, h => by cases h
  | _ :: _, [], h => by cases h
  | a :: x, b :: y, h => by
    simp only [natEq, Bool.and_eq_true] at h
    rw [Nat.eq_of_beq_eq_true h.1, natEq_eq h.2]
theorem natEq_self : ∀ a : List Nat, natEq a a = true
  | [] => rfl
  | a :: x => by simp [natEq, natEq_self x]
def KS : V → Prop := fun k => ∃ s, k = .str s
theorem good_str : GoodKey (.sc .str) KS := by
  rintro _ _ ⟨a, rfl⟩ ⟨b, rfl⟩
  exact ⟨rfl, _, rfl, fun h => h⟩
def KP : V → Prop := fun k => ∃ i s, k = .agg [.int .i64 i, .str s]
def Q2 : EqT := .flat 2 [(0, .int), (1, .str)]
theorem good_pair : GoodKey Q2 KP := by
  rintro _ _ ⟨i, s, rfl⟩ ⟨j, t, rfl⟩
  refine ⟨rfl, (i == j) && natEq s t, ?_, fun h => ?_⟩
  · cases h : (i == j) <;> cases h2 : natEq s t <;> simp [Q2, veq, vflat, vsc, h, h2]
  · simp only [Bool.and_eq_true] at h
    have := eq_of_beq h.1
    subst this
    simp [plainEq, plainAll, plainSame, h.2]

/-- a place of a datatype -/
def wi (n : Nat) : V := .int .i64 n
def WI (N : Nat) : V → Prop := fun v => ∃ i : Nat, v = wi i ∧ (i < N ∨ i = 0)
/-- a book: a signature and a map -/
def Book (σ : H) (x : Pos) (g : Sg) : Prop := ∃ u d f xm, σ.get x = some (.cells 248 [u, d, f, .map xm] 0 0 (some 0) []) ∧ SigIs σ true (fun _ => True) [u, d, f] g ∧ MapIs σ xm KP (WI g.ds.length)
theorem Book.keep {σ σ' : H} {x : Pos} {g : Sg} (h : Book σ x g) (hw : WfH σ) (k : Keep σ σ') : Book σ' x g := by
  obtain ⟨u, d, f, xm, h1, h2, h3⟩ := h
  exact ⟨u, d, f, xm, k.get_some hw h1, h2.up (k.up _), h3.keep hw k⟩
theorem pair_bd (i : Int) (s : List Nat) : kBuild [.int .i64 0, .str []] (some [(0, 1, .int .i64 i), (1, 1, .str s)]) = some (.agg [.int .i64 i, .str s]) := rfl

theorem c199_at : T1.code 199 = some c199 := by kernel_rfl
theorem QZ : type_of% (And.intro (@QY) <| And.intro (@e_lookup) <| And.intro (@e_mupd) <| And.intro (@e_mupdk) <| And.intro (@e_mkmap) <| (@e_AK_map)) := And.intro (@QY) <| And.intro (@e_lookup) <| And.intro (@e_mupd) <| And.intro (@e_mupdk) <| And.intro (@e_mkmap) <| (@e_AK_map)
/-- known -/
theorem known_call : ∀ (n : Nat) (s : S), s.sz ≤ n → ∀ {lf m : Nat} {σ : H} {o : Bool} {Q : Nat → Prop} {c : List V} {xb : Pos} {g : Sg}, WfH σ → Book σ xb g → SortIs σ o Q c s → s.sz < lf → s.sz < BB → n ≤ m →
    ∃ b σ', call T1 lf (m + 1) 199 [.ptr xb 0 0, .agg c] σ = .ret (.bool b) σ' ∧ Keep σ σ' := by
  intro n
  induction n with
  | zero => intro s hs; cases s with | mk => simp [S.sz] at hs
  | succ n ih =>
    intro s hs lf m σ o Q c xb g hw hB hS hlf hBB hm
    obtain ⟨m, rfl⟩ : ∃ m', m = m' + 1 := ⟨m - 1, by omega⟩
    obtain ⟨k, w, nm, a, args, rfl, rfl, hA⟩ := hS.inv
    simp only [S.sz] at hs hlf hBB
    have hlen := S.szL_len args
    have key : ∃ v σ', call T1 lf (m + 2) 199 [.ptr xb 0 0, .agg [.int .i64 k, .int .i64 w, .str nm, a]] σ = .ret v σ' ∧ (Keep σ σ' ∧ ∃ b, v = .bool b) := by
      refine call_rt1 (p := pk 4) rfl c199_at (by simp [c199]) rfl fun cf hcf => ?_
      generalize hτ : bindArgs [.ptr xb 0 0, .agg [.int .i64 k, .int .i64 w, .str nm, a]] .h .lf = τ0
      have h0 : τ0.get (pk 0) = some (.ptr xb 0 0) := by rw [← hτ]; rfl
      have h1 : τ0.get (pk 1) = some (.agg [.int .i64 k, .int .i64 w, .str nm, a]) := by rw [← hτ]; rfl
      clear hτ
      have hKa := Keep.new σ (.cells 40 [.int .i64 k, .int .i64 w, .str nm, a] 0 0 (some 0) [])
      have ga := (Keep.refl (σ.new (.cells 40 [.int .i64 k, .int .i64 w, .str nm, a] 0 0 (some 0) []))).at
      have hw1 := hKa.2.2 hw
      generalize hσ1 : σ.new (.cells 40 [.int .i64 k, .int .i64 w, .str nm, a] 0 0 (some 0) []) = σ1 at *
      have hA1 := hA.keep hKa
      have hB1 := hB.keep hw hKa
      obtain ⟨u, d, f, xm, hb1, _, hb3⟩ := id hB1
      have l0 : ldv σ1 (.ptr σ.nx 0 0) = some (.int .i64 k) := ldk ga rfl
      have l2 : ldv σ1 (.ptr σ.nx 0 2) = some (.str nm) := ldk ga rfl
      have l3 : ldv σ1 (.ptr σ.nx 0 3) = some a := ldk ga rfl
      have lm : ldv σ1 (.ptr xb 0 3) = some (.map xm) := ldk hb1 rfl
      have hal := hA1.len
      obtain ⟨v, b, _, _, lk⟩ := hb3.look good_pair (k := .agg [.int .i64 k, .str nm]) (z := .int .i64 0) ⟨k, nm, rfl⟩ ⟨0, rfl, .inr rfl⟩
      have bd := pair_bd k nm
      simp only [Q2] at lk
      cases e5 : (k == 5) with
      | true =>
        simp only [c199, QA, reduceCtorEq, Nat.reduceAdd, Nat.reduceLeDiff, Nat.reduceEqDiff, QD, QZ, e_box, h0, h1, hσ1, l0, l2, e5, lm, bd, lk, List.all_nil]
        exact ⟨hKa, _, rfl⟩
      | false =>
      cases e6 : (k == 6) with
      | true =>
        simp only [c199, QA, reduceCtorEq, Nat.reduceAdd, Nat.reduceLeDiff, Nat.reduceEqDiff, QD, QZ, e_box, h0, h1, hσ1, l0, l2, e5, e6, lm, bd, lk, List.all_nil]
        exact ⟨hKa, _, rfl⟩
      | false =>
      simp only [c199, QA, Nat.reduceAdd, Nat.reduceLeDiff, Nat.reduceEqDiff, QZ, e_box, h1, hσ1, l0, e5, e6, l3, hal]
      refine Rt_seqNR (range_rule (l := 35) (i := 34) (nn := 33) (k := 42) (id := 0) (id' := 1) (B := y199_1) (N := args.length)
        (fun j τ σ' => Keep σ1 σ' ∧ τ.get (pk 0) = some (.ptr xb 0 0) ∧ τ.get (pk 32) = some a)
        (fun τ σ' => Keep σ1 σ') _ (by decide) (by decide) (by decide) (by decide) (by decide) (by decide) (by decide) (by omega) (by unfold BB at hBB; omega) ?_ ?_ ?_ ?_ ?_) ?_
      · rintro j τ σ' hj ⟨hK, g0, g32⟩ g34 g33
        obtain ⟨s', hs'⟩ : ∃ s', args[j]? = some s' := ⟨_, List.getElem?_eq_getElem hj⟩
        have hsz := S.szL_mem hs'
        obtain ⟨q, ce, q1, q2, q3⟩ := (hA1.keep hK).elem hs'
        have q3 : SortIs σ' o Q ce s' := q3
        have lq := q2.ldg q3.len
        have hw' := hK.2.2 hw1
        obtain ⟨σ3, k1, k2, k3⟩ := var_new σ' 40 4 (zs := [.int .i64 0, .int .i64 0, .str [], .nils]) rfl q3.len q3.one
        have l5 := (At.var k3).ldg q3.len
        have hw3 := k2.2.2 hw'
        obtain ⟨b', σ4, k4, k5⟩ := ih s' (by omega) (lf := lf) (m := m) hw3 (hB1.keep hw1 (hK.trans k2)) (q3.up (k2.up _)) (by omega) (by omega) (by omega)
        rw [← hcf] at k4
        have kk := hK.trans (k2.trans k5)
        cases b' with
        | true =>
          simp only [y199_1, QA, reduceCtorEq, Nat.reduceAdd, Nat.reduceLeDiff, Nat.reduceEqDiff, QZ, g0, g32, g33, g34, q1, lq, k1, l5, k4]
          exact kk
        | false =>
          simp only [y199_1, QA, reduceCtorEq, Nat.reduceAdd, Nat.reduceLeDiff, Nat.reduceEqDiff, QZ, g0, g32, g34, q1, lq, k1, l5, k4]
          exact ⟨hKa.trans kk, _, rfl⟩
      · rintro τ σ' ⟨hK, g0, g32⟩
        exact hK
      · exact ⟨Keep.refl _, by simp only [QA, reduceCtorEq, h0], by simp only [QA, Nat.reduceEqDiff]⟩
      · simp only [QA, Nat.reduceEqDiff]
      · simp only [QA, Nat.reduceEqDiff]
      · rintro τ σ' hK
        simp only [QA, Nat.reduceAdd, Nat.reduceLeDiff]
        exact ⟨hKa.trans hK, _, rfl⟩
    obtain ⟨v, σ', h1, h2, b, rfl⟩ := key
    exact ⟨b, σ', h1, h2⟩

theorem c136_at : T1.code 136 = some c136 := by kernel_rfl
/-- check -/
theorem check_call {s : S} {lf m : Nat} {σ : H} {o : Bool} {Q : Nat → Prop} {c : List V} {xb : Pos} {g : Sg} (hw : WfH σ) (hB : Book σ xb g) (hS : SortIs σ o Q c s) (hlf : s.sz < lf) (hBB : s.sz < BB) (hm : s.sz ≤ m) :
    ∃ i σ', call T1 lf (m + 3) 136 [.ptr xb 0 0, .agg c] σ = .ret (.int .i64 i) σ' ∧ Keep σ σ' ∧ (i = 0 → Shp s) := by
  have key : ∃ v σ', call T1 lf (m + 3) 136 [.ptr xb 0 0, .agg c] σ = .ret v σ' ∧ (Keep σ σ' ∧ ∃ i, v = .int .i64 i ∧ (i = 0 → Shp s)) := by
    refine call_rt1 (p := pk 4) rfl c136_at (by simp [c136]) rfl fun cf hcf => ?_
    generalize hτ : bindArgs [.ptr xb 0 0, .agg c] .h .lf = τ0
    have h0 : τ0.get (pk 0) = some (.ptr xb 0 0) := by rw [← hτ]; rfl
    have h1 : τ0.get (pk 1) = some (.agg c) := by rw [← hτ]; rfl
    clear hτ
    have hKa := Keep.new σ (.cells 40 c 0 0 (some 0) [])
    have ga := (Keep.refl (σ.new (.cells 40 c 0 0 (some 0) []))).at
    have hw1 := hKa.2.2 hw
    generalize hσ1 : σ.new (.cells 40 c 0 0 (some 0) []) = σ1 at *
    have lg0 := (At.var ga).ldg hS.len
    obtain ⟨i, σ2, k1, k2, k3⟩ := wrong_call (lf := lf) (m := m) hw1 (hS.up (hKa.up _)) hlf hBB hm
    have hw2 := k2.2.2 hw1
    have lg2 := (At.var (k2.get_some hw1 ga)).ldg hS.len
    obtain ⟨b', σ3, k4, k5⟩ := known_call s.sz s (Nat.le_refl _) (lf := lf) (m := m + 1) hw2 (hB.keep hw (hKa.trans k2)) (hS.up ((hKa.trans k2).up _)) hlf hBB (by omega)
    rw [← hcf] at k1 k4
    cases e : (i != 0) with
    | true =>
      simp only [c136, QA, Nat.reduceAdd, Nat.reduceLeDiff, Nat.reduceEqDiff, QZ, e_box, h1, hσ1, lg0, k1, e]
      exact ⟨hKa.trans k2, _, rfl, k3⟩
    | false =>
      have hi : i = 0 := by simpa using e
      cases b' with
      | false =>
        simp only [c136, QA, reduceCtorEq, Nat.reduceAdd, Nat.reduceLeDiff, Nat.reduceEqDiff, QZ, e_box, h0, h1, hσ1, lg0, k1, e, lg2, k4]
        exact ⟨hKa.trans (k2.trans k5), _, rfl, fun h => by cases h⟩
      | true =>
        simp only [c136, QA, reduceCtorEq, Nat.reduceAdd, Nat.reduceLeDiff, Nat.reduceEqDiff, QZ, e_box, h0, h1, hσ1, lg0, k1, e, lg2, k4]
        exact ⟨hKa.trans (k2.trans k5), _, rfl, fun _ => k3 hi⟩
  obtain ⟨v, σ', h1, h2, i, rfl, h3⟩ := key
  exact ⟨i, σ', h1, h2, h3⟩
end Go.Proofs.YtfgghbikbaopjaaGreatDoorEng

namespace Go.Proofs.YtfgghbikbaopjaaGreatDoorEng
open Go
set_option maxRecDepth 100000
set_option linter.unusedSimpArgs false

/-- A list of one-cell things that grows: nothing yet, or a slice of new memory, to its end. -/
def Acc (f : Nat → V) (ty : Nat) (σ0 σ : H) (v : V) (D : List Nat) : Prop :=
  (D = [] ∧ v = .nils) ∨ ∃ x ver minv ex, v = .sl x ver 0 D.length none 1 ∧ σ.get x = some (.cells ty (D.map f) ver minv (some 0) ex) ∧ σ0.nx.toNat ≤ x.toNat ∧ x.toNat < σ.nx.toNat
theorem Acc.UG {f : Nat → V} {ty : Nat} {σ0 σ : H} {v : V} {D : List Nat} (h : Acc f ty σ0 σ v D) : UG f σ v D := by
  rcases h with ⟨rfl, rfl⟩ | ⟨x, ver, minv, ex, rfl, hg, _, _⟩
  · exact UG.nils f σ
  · refine ⟨rfl, rfl, ?_⟩
    simp only [slCells, blkCells, hg, visib, if_true, cut, Nat.zero_add, Nat.mul_one, List.length_map]
    rw [if_pos (Nat.le_refl _), List.drop_zero, List.take_of_length_le (by simp)]
theorem Acc.keep {f : Nat → V} {ty : Nat} {σ0 σ σ' : H} {v : V} {D : List Nat} (h : Acc f ty σ0 σ v D) (k : Keep σ σ') : Acc f ty σ0 σ' v D := by
  rcases h with h | ⟨x, ver, minv, ex, rfl, hg, h1, h2⟩
  · exact .inl h
  · exact .inr ⟨x, ver, minv, ex, rfl, by rw [k.get h2]; exact hg, h1, Nat.lt_of_lt_of_le h2 k.1⟩
theorem Acc.appL {f : Nat → V} (hf : ∀ n, (f n).one = true) {ty eb : Nat} {b σ0 σ : H} {v y : V} {D B : List Nat} (h : Acc f ty b σ0 v D) (hKb : Keep b σ0) (hK : Keep σ0 σ) (hy : Go.Proofs.YtfgghbikbaopjaaGreatDoorEng.UG f σ y B) (hb : (D.length + B.length) * eb ≤ mostBytes) (hb2 : D.length + B.length ≤ mostBytes) :
    ∃ v' σ', appV σ ty 1 eb v y = .ok v' σ' ∧ Acc f ty b σ' v' (D ++ B) ∧ Keep b σ' := by
  have h := h.keep hK
  have hKs := hKb.trans hK
  by_cases hB : B = []
  · subst hB
    have : appV σ ty 1 eb v y = .ok v σ := by
      unfold appV
      rw [if_pos hy.slice, hy.2.1]
      simp only [hy.2.2]
      rcases h with ⟨_, rfl⟩ | ⟨x, ver, minv, ex, rfl, _⟩ <;> simp [vapp, HR.of]
    exact ⟨v, σ, this, by rw [List.append_nil]; exact h, hKs⟩
  have hn : B.length ≠ 0 := fun e => hB (List.eq_nil_of_length_eq_zero e)
  rcases h with ⟨rfl, rfl⟩ | ⟨x, ver, minv, ex, rfl, hg, h1, h2⟩
  · refine ⟨_, _, app_nil hy hB (by simpa using hb) (by simpa using hb2), .inr ⟨σ.nx, 0, 0, [], rfl, by rw [H.get_new, if_pos rfl]; rfl, hKs.1, by rw [nx_new]; omega⟩, hKs.trans (Keep.new _ _)⟩
  · have hall : (B.map f).all V.one = true := by
      rw [List.all_eq_true]
      intro z hz
      obtain ⟨n, _, rfl⟩ := List.mem_map.1 hz
      exact hf n
    have : appV σ ty 1 eb (.sl x ver 0 D.length none 1) y = .ok (.sl x (ver + 1) 0 (D.length + B.length) none 1) (σ.put x (.cells ty ((D ++ B).map f) (ver + 1) minv (some 0) (D.length :: ex))) := by
      unfold appV
      rw [if_pos hy.slice, hy.2.1]
      simp only [hy.2.2, vapp, if_neg hn, hg, Nat.mul_one, Nat.zero_add, List.length_map]
      rw [if_pos ⟨trivial, trivial, trivial, Nat.one_pos, hb, hb2, Nat.zero_le _, Nat.le_refl _, hall⟩]
      simp [HR.of]
    refine ⟨_, _, this, .inr ⟨x, ver + 1, minv, _, by rw [List.length_append], by rw [H.get_put, if_pos rfl], h1, h2⟩, hKs.put h1 h2 _⟩
theorem wi_one (n : Nat) : (wi n).one = true := rfl

theorem szL_snoc : ∀ (l : List S) (s : S), S.szL (l ++ [s]) = S.szL l + s.sz + 1
  | [], s => by simp [S.szL]
  | t :: r, s => by
    rw [List.cons_append, S.szL, S.szL, szL_snoc r s]; omega
theorem szL_take : ∀ (l : List S) (j : Nat), S.szL (l.take j) ≤ S.szL l
  | [], j => by simp
  | t :: r, 0 => by simp [S.szL]
  | t :: r, j + 1 => by
    have := szL_take r j
    rw [List.take_succ_cons, S.szL, S.szL]; omega
theorem c141_at : T1.code 141 = some c141 := by kernel_rfl
/-- datas -/
theorem datas_call : ∀ (n : Nat) (s : S), s.sz ≤ n → ∀ {lf m : Nat} {σ : H} {o : Bool} {Q : Nat → Prop} {c : List V} {xb : Pos} {g : Sg} {ins : Bool}, WfH σ → Book σ xb g → 0 < g.ds.length → SortIs σ o Q c s → s.sz < lf → s.sz < BB → n ≤ m →
    ∃ v σ' D, call T1 lf (m + 1) 141 [.ptr xb 0 0, .agg c, .bool ins] σ = .ret v σ' ∧ Keep σ σ' ∧ UG wi σ' v D ∧ (∀ d ∈ D, d < g.ds.length) ∧ D.length ≤ s.sz := by
  intro n
  induction n with
  | zero => intro s hs; cases s with | mk => simp [S.sz] at hs
  | succ n ih =>
    intro s hs lf m σ o Q c xb g ins hw hB hpos hS hlf hBB hm
    obtain ⟨m, rfl⟩ : ∃ m', m = m' + 1 := ⟨m - 1, by omega⟩
    obtain ⟨k, w, nm, a, args, rfl, rfl, hA⟩ := hS.inv
    simp only [S.sz] at hs hlf hBB
    have hlen := S.szL_len args
    have key : ∃ v σ', call T1 lf (m + 2) 141 [.ptr xb 0 0, .agg [.int .i64 k, .int .i64 w, .str nm, a], .bool ins] σ = .ret v σ' ∧ (Keep σ σ' ∧ ∃ D, UG wi σ' v D ∧ (∀ d ∈ D, d < g.ds.length) ∧ D.length ≤ S.szL args + 1) := by
      refine call_rt1 (p := pk 6) rfl c141_at (by simp [c141]) rfl fun cf hcf => ?_
      generalize hτ : bindArgs [.ptr xb 0 0, .agg [.int .i64 k, .int .i64 w, .str nm, a], .bool ins] .h .lf = τ0
      have h0 : τ0.get (pk 0) = some (.ptr xb 0 0) := by rw [← hτ]; rfl
      have h1 : τ0.get (pk 1) = some (.agg [.int .i64 k, .int .i64 w, .str nm, a]) := by rw [← hτ]; rfl
      have h2 : τ0.get (pk 2) = some (.bool ins) := by rw [← hτ]; rfl
      clear hτ
      have hKa := Keep.new σ (.cells 40 [.int .i64 k, .int .i64 w, .str nm, a] 0 0 (some 0) [])
      have ga := (Keep.refl (σ.new (.cells 40 [.int .i64 k, .int .i64 w, .str nm, a] 0 0 (some 0) []))).at
      have hw1 := hKa.2.2 hw
      generalize hσ1 : σ.new (.cells 40 [.int .i64 k, .int .i64 w, .str nm, a] 0 0 (some 0) []) = σ1 at *
      have hA1 := hA.keep hKa
      have hB1 := hB.keep hw hKa
      obtain ⟨u, d, f, xm, hb1, _, hb3⟩ := id hB1
      have l0 : ldv σ1 (.ptr σ.nx 0 0) = some (.int .i64 k) := ldk ga rfl
      have l2 : ldv σ1 (.ptr σ.nx 0 2) = some (.str nm) := ldk ga rfl
      have l3 : ldv σ1 (.ptr σ.nx 0 3) = some a := ldk ga rfl
      have lm : ldv σ1 (.ptr xb 0 3) = some (.map xm) := ldk hb1 rfl
      have hal := hA1.len
      -- the loop
      have loop : ∀ τ : Tr V, τ.get (pk 4) = some (.ptr σ.nx 0 0) → τ.get (pk 0) = some (.ptr xb 0 0) → τ.get (pk 7) = some .nils → τ.get (pk 29) = some a → τ.get (pk 30) = some (.int .i64 args.length) → τ.get (pk 31) = some (.int .i64 0) → ∀ T,
          NR (kBlk 0 (exec cf lf 42 (.loop b141_1) τ σ1 [])) (fun τ σ' => Keep σ1 σ' ∧ ∃ v D, τ.get (pk 7) = some v ∧ Acc wi 3 σ1 σ' v D ∧ (∀ d ∈ D, d < g.ds.length) ∧ D.length ≤ S.szL args) T := by
        intro τ f4 f0 f7 f29 f30 f31 T
        refine range_rule (l := 32) (i := 31) (nn := 30) (k := 40) (id := 0) (id' := 1) (B := y141_1) (N := args.length)
          (fun j τ σ' => Keep σ1 σ' ∧ τ.get (pk 0) = some (.ptr xb 0 0) ∧ τ.get (pk 29) = some a ∧ ∃ v D, τ.get (pk 7) = some v ∧ Acc wi 3 σ1 σ' v D ∧ (∀ d ∈ D, d < g.ds.length) ∧ D.length ≤ S.szL (args.take j))
          _ T (by decide) (by decide) (by decide) (by decide) (by decide) (by decide) (by decide) (by omega) (by unfold BB at hBB; omega) ?_ ?_ ?_ f31 f30
        · rintro j τ σ' hj ⟨hK, g0, g29, v, D, g7, hAc, hD, hDl⟩ g31 g30
          obtain ⟨s', hs'⟩ : ∃ s', args[j]? = some s' := ⟨_, List.getElem?_eq_getElem hj⟩
          have hsz := S.szL_mem hs'
          obtain ⟨q, ce, q1, q2, q3⟩ := (hA1.keep hK).elem hs'
          have q3 : SortIs σ' o Q ce s' := q3
          have lq := q2.ldg q3.len
          have hw' := hK.2.2 hw1
          obtain ⟨σ3, k1, k2, k3⟩ := var_new σ' 40 4 (zs := [.int .i64 0, .int .i64 0, .str [], .nils]) rfl q3.len q3.one
          have l5 := (At.var k3).ldg q3.len
          have hw3 := k2.2.2 hw'
          obtain ⟨v', σ4, D', k4, k5, k6, k7, k8⟩ := ih s' (by omega) (lf := lf) (m := m) (ins := false) hw3 (hB1.keep hw1 (hK.trans k2)) hpos (q3.up (k2.up _)) (by omega) (by omega) (by omega)
          have htl : S.szL (args.take (j + 1)) = S.szL (args.take j) + s'.sz + 1 := by rw [take_snoc hs', szL_snoc]
          have hle := szL_take args (j + 1)
          have hb1 : D.length + D'.length ≤ S.szL args := by omega
          obtain ⟨v2, σ5, k9, k10, k11⟩ := hAc.appL wi_one (eb := 8) hK (k2.trans k5) k6 (by simp [mostBytes]; unfold BB at hBB; omega) (by simp [mostBytes]; unfold BB at hBB; omega)
          rw [← hcf] at k4
          simp only [y141_1, QA, reduceCtorEq, Nat.reduceAdd, Nat.reduceLeDiff, Nat.reduceEqDiff, QZ, g0, g7, g29, g30, g31, q1, lq, k1, l5, k4, k9]
          refine ⟨k11, _, _, rfl, k10, fun d hd => ?_, by rw [List.length_append]; omega⟩
          rcases List.mem_append.1 hd with h | h
          · exact hD d h
          · exact k7 d h
        · rintro τ σ' ⟨hK, g0, g29, v, D, g7, hAc, hD, hDl⟩
          rw [List.take_of_length_le (Nat.le_refl _)] at hDl
          exact ⟨hK, v, D, by simp only [QA, Nat.reduceEqDiff, g7], hAc, hD, hDl⟩
        · exact ⟨Keep.refl _, f0, f29, .nils, [], f7, .inl ⟨rfl, rfl⟩, fun d h => (by cases h), Nat.zero_le _⟩
      have tail : ∀ (τ : Tr V) (σ' : H), (Keep σ1 σ' ∧ ∃ v D, τ.get (pk 7) = some v ∧ Acc wi 3 σ1 σ' v D ∧ (∀ d ∈ D, d < g.ds.length) ∧ D.length ≤ S.szL args) → ∃ v, τ.get (pk 7) = some v ∧ (Keep σ σ' ∧ ∃ D, UG wi σ' v D ∧ (∀ d ∈ D, d < g.ds.length) ∧ D.length ≤ S.szL args + 1) := by
        rintro τ σ' ⟨hK, v, D, h1, h2, h3, h4⟩
        exact ⟨v, h1, hKa.trans hK, D, h2.UG, h3, by omega⟩
      obtain ⟨v, b, ⟨i, rfl, hi⟩, lk, _⟩ := hb3.look good_pair (k := .agg [.int .i64 k, .str nm]) (z := .int .i64 0) ⟨k, nm, rfl⟩ ⟨0, rfl, .inr rfl⟩
      have bd := pair_bd k nm
      simp only [Q2, wi] at lk
      have hin : i < g.ds.length := by omega
      cases e6 : (k == 6) with
      | false =>
        simp only [c141, QA, Nat.reduceAdd, Nat.reduceLeDiff, Nat.reduceEqDiff, QZ, e_box, h1, h2, hσ1, l0, e6, l3, hal]
        refine Rt_seqNR (loop _ (by simp only [QA, Nat.reduceEqDiff]) (by simp only [QA, reduceCtorEq, h0]) (by simp only [QA, Nat.reduceEqDiff]) (by simp only [QA, Nat.reduceEqDiff]) (by simp only [QA, Nat.reduceEqDiff]) (by simp only [QA, Nat.reduceEqDiff]) _) ?_
        intro τ σ' h
        obtain ⟨v, t1, t2⟩ := tail τ σ' h
        simp only [QA, Nat.reduceAdd, Nat.reduceLeDiff, Nat.reduceEqDiff, t1]
        exact t2
      | true =>
      cases ins with
      | true =>
        simp only [c141, QA, Nat.reduceAdd, Nat.reduceLeDiff, Nat.reduceEqDiff, QZ, e_box, h1, h2, hσ1, l0, e6, l3, hal]
        refine Rt_seqNR (loop _ (by simp only [QA, Nat.reduceEqDiff]) (by simp only [QA, reduceCtorEq, h0]) (by simp only [QA, Nat.reduceEqDiff]) (by simp only [QA, Nat.reduceEqDiff]) (by simp only [QA, Nat.reduceEqDiff]) (by simp only [QA, Nat.reduceEqDiff]) _) ?_
        intro τ σ' h
        obtain ⟨v, t1, t2⟩ := tail τ σ' h
        simp only [QA, Nat.reduceAdd, Nat.reduceLeDiff, Nat.reduceEqDiff, t1]
        exact t2
      | false =>
        simp only [c141, QA, reduceCtorEq, Nat.reduceAdd, Nat.reduceLeDiff, Nat.reduceEqDiff, QD, QZ, e_box, h0, h1, h2, hσ1, l0, l2, e6, lm, bd, lk, List.all_nil]
        exact ⟨hKa.trans (Keep.new _ _), [i], UG.one (f := wi) (by rw [H.get_new, if_pos rfl]; rfl), fun d hd => (by simp at hd; omega), by simp⟩
    obtain ⟨v, σ', h1, h2, D, h3, h4, h5⟩ := key
    exact ⟨v, σ', D, h1, h2, h3, h4, by simp only [S.sz]; omega⟩

/-- a slice of bools -/
def BL (σ : H) (a : V) (x : Pos) (L : List Bool) : Prop := a = .sl x 0 0 L.length (some L.length) 0 ∧ σ.get x = some (.cells 4 (L.map V.bool) 0 0 (some 0) [])
theorem BL.elem {σ : H} {a : V} {x : Pos} {L : List Bool} (h : BL σ a x L) {i : Nat} {b : Bool} (hi : L[i]? = some b) : elemAt 1 a i = some (.ptr x 0 i) ∧ ldv σ (.ptr x 0 i) = some (.bool b) := by
  obtain ⟨rfl, hg⟩ := h
  have hlt : i < L.length := by
    rcases Nat.lt_or_ge i L.length with h | h
    · exact h
    · rw [List.getElem?_eq_none h] at hi; cases hi
  refine ⟨?_, ldk hg (by rw [List.getElem?_map, hi]; rfl)⟩
  simp only [elemAt]
  rw [if_pos ⟨Int.natCast_nonneg i, by omega⟩]
  simp
theorem BL.keep {σ σ' : H} {a : V} {x : Pos} {L : List Bool} (h : BL σ a x L) (hw : WfH σ) (k : Keep σ σ') : BL σ' a x L := ⟨h.1, k.get_some hw h.2⟩
theorem BL.len {σ : H} {a : V} {x : Pos} {L : List Bool} (h : BL σ a x L) : lenV a = some (.int .i64 L.length) := by obtain ⟨rfl, _⟩ := h; rfl

theorem c146_at : T1.code 146 = some c146 := by kernel_rfl
/-- grounded -/
theorem grounded_call : ∀ (n : Nat) (s : S), s.sz ≤ n → ∀ {lf m : Nat} {σ : H} {o : Bool} {Q : Nat → Prop} {c : List V} {xb : Pos} {g : Sg} {a : V} {x : Pos} {L : List Bool}, WfH σ → Book σ xb g → 0 < g.ds.length → BL σ a x L → L.length = g.ds.length → Shp s → SortIs σ o Q c s → n ≤ m →
    ∃ b σ', call T1 lf (m + 1) 146 [.ptr xb 0 0, .agg c, a] σ = .ret (.bool b) σ' ∧ Keep σ σ' := by
  intro n
  induction n with
  | zero => intro s hs; cases s with | mk => simp [S.sz] at hs
  | succ n ih =>
    intro s hs lf m σ o Q c xb g a x L hw hB hpos hL hLl hSh hS hm
    obtain ⟨m, rfl⟩ : ∃ m', m = m' + 1 := ⟨m - 1, by omega⟩
    obtain ⟨k, w, nm, aa, args, rfl, rfl, hA⟩ := hS.inv
    simp only [S.sz] at hs
    have key : ∃ v σ', call T1 lf (m + 2) 146 [.ptr xb 0 0, .agg [.int .i64 k, .int .i64 w, .str nm, aa], a] σ = .ret v σ' ∧ (Keep σ σ' ∧ ∃ b, v = .bool b) := by
      refine call_rt1 (p := pk 6) rfl c146_at (by simp [c146]) rfl fun cf hcf => ?_
      generalize hτ : bindArgs [.ptr xb 0 0, .agg [.int .i64 k, .int .i64 w, .str nm, aa], a] .h .lf = τ0
      have h0 : τ0.get (pk 0) = some (.ptr xb 0 0) := by rw [← hτ]; rfl
      have h1 : τ0.get (pk 1) = some (.agg [.int .i64 k, .int .i64 w, .str nm, aa]) := by rw [← hτ]; rfl
      have h2 : τ0.get (pk 2) = some a := by rw [← hτ]; rfl
      clear hτ
      have hKa := Keep.new σ (.cells 40 [.int .i64 k, .int .i64 w, .str nm, aa] 0 0 (some 0) [])
      have ga := (Keep.refl (σ.new (.cells 40 [.int .i64 k, .int .i64 w, .str nm, aa] 0 0 (some 0) []))).at
      have hw1 := hKa.2.2 hw
      generalize hσ1 : σ.new (.cells 40 [.int .i64 k, .int .i64 w, .str nm, aa] 0 0 (some 0) []) = σ1 at *
      have hA1 := hA.keep hKa
      have hB1 := hB.keep hw hKa
      have hL1 := hL.keep hw hKa
      obtain ⟨u, d, f, xm, hb1, _, hb3⟩ := id hB1
      have l0 : ldv σ1 (.ptr σ.nx 0 0) = some (.int .i64 k) := ldk ga rfl
      have l2 : ldv σ1 (.ptr σ.nx 0 2) = some (.str nm) := ldk ga rfl
      have l3 : ldv σ1 (.ptr σ.nx 0 3) = some aa := ldk ga rfl
      have lm : ldv σ1 (.ptr xb 0 3) = some (.map xm) := ldk hb1 rfl
      obtain ⟨v, b, ⟨i, rfl, hi⟩, lk, _⟩ := hb3.look good_pair (k := .agg [.int .i64 k, .str nm]) (z := .int .i64 0) ⟨k, nm, rfl⟩ ⟨0, rfl, .inr rfl⟩
      have bd := pair_bd k nm
      simp only [Q2, wi] at lk
      cases e6 : (k == 6) with
      | true =>
        have hin : i < L.length := by omega
        obtain ⟨p1, p2⟩ := hL1.elem (List.getElem?_eq_getElem hin)
        simp only [c146, x146_0, QA, reduceCtorEq, Nat.reduceAdd, Nat.reduceLeDiff, Nat.reduceEqDiff, QD, QZ, e_box, h0, h1, h2, hσ1, l0, l2, e6, lm, bd, lk, p1, p2, List.all_nil]
        exact ⟨hKa, _, rfl⟩
      | false =>
      cases e4 : (k == 4) with
      | true =>
        obtain ⟨_, _, _, _, hk4, hsh⟩ := hSh
        have hl2 := hk4 (eq_of_beq e4)
        obtain ⟨s', hs'⟩ : ∃ s', args[1]? = some s' := ⟨_, List.getElem?_eq_getElem (by omega)⟩
        have hsz := S.szL_mem hs'
        obtain ⟨q, ce, q1, q2, q3⟩ := hA1.elem hs'
        have q3 : SortIs σ1 o Q ce s' := q3
        have lq := q2.ldg q3.len
        simp only [show ((1 : Nat) : Int) = 1 from rfl] at q1
        obtain ⟨b', σ4, k4, k5⟩ := ih s' (by omega) (lf := lf) (m := m) hw1 hB1 hpos hL1 hLl (hsh 1 s' hs') q3 (by omega)
        rw [← hcf] at k4
        simp only [c146, x146_0, QA, reduceCtorEq, Nat.reduceAdd, Nat.reduceLeDiff, Nat.reduceEqDiff, QZ, e_box, h0, h1, h2, hσ1, l0, l3, e6, e4, q1, lq, k4]
        exact ⟨hKa.trans k5, _, rfl⟩
      | false =>
        simp only [c146, x146_0, QA, Nat.reduceAdd, Nat.reduceLeDiff, Nat.reduceEqDiff, QZ, e_box, h1, hσ1, l0, e6, e4]
        exact ⟨hKa, _, rfl⟩
    obtain ⟨v, σ', h1, h2, b, rfl⟩ := key
    exact ⟨b, σ', h1, h2⟩
end Go.Proofs.YtfgghbikbaopjaaGreatDoorEng

namespace Go.Proofs.YtfgghbikbaopjaaGreatDoorEng
open Go
set_option maxRecDepth 100000
set_option linter.unusedSimpArgs false

theorem sum_snoc {α : Type} (f : α → Nat) : ∀ (l : List α) (s : α), sum f (l ++ [s]) = sum f l + f s + 1
  | [], s => by simp [sum]
  | t :: r, s => by
    rw [List.cons_append, sum, sum, sum_snoc f r s]; omega
theorem sum_take {α : Type} (f : α → Nat) : ∀ (l : List α) (j : Nat), sum f (l.take j) ≤ sum f l
  | [], j => by simp
  | t :: r, 0 => by simp [sum]
  | t :: r, j + 1 => by
    have := sum_take f r j
    rw [List.take_succ_cons, sum, sum]; omega

/-- the loop over a constructor's selectors, in standing -/
theorem standSels_loop {lf m : Nat} {cf : CallF} (hcf : cf = call T1 lf (m + 1)) {b σ : H} {o : Bool} {Q : Nat → Prop} {a : V} {L : List Se} {xb : Pos} {g : Sg} (hwb : WfH b) (hKb : Keep b σ) (hB : Book b xb g) (hpos : 0 < g.ds.length) (hA : SP Ese 42 o b Q a L) (hlf : sum seSz L < lf) (hBB : sum seSz L < BB) (hm : sum seSz L ≤ m)
    {T : Tr V → H → Prop} {τ : Tr V} {v18 v19 v20 v5 : V} {D0 : List Nat} (f0 : τ.get (pk 0) = some (.ptr xb 0 0)) (f18 : τ.get (pk 18) = some v18) (f19 : τ.get (pk 19) = some v19) (f20 : τ.get (pk 20) = some v20)
    (f25 : τ.get (pk 25) = some a) (f26 : τ.get (pk 26) = some (.int .i64 L.length)) (f27 : τ.get (pk 27) = some (.int .i64 0)) (f5 : τ.get (pk 5) = some v5) (hAc : Acc wi 3 b σ v5 D0) (hD0 : ∀ d ∈ D0, d < g.ds.length) (hB0 : D0.length + sum seSz L < BB) :
    NR (kBlk 2 (exec cf lf 40 (.loop b142_1) τ σ [])) (fun τ' σ' => Keep b σ' ∧ τ'.get (pk 0) = some (.ptr xb 0 0) ∧ τ'.get (pk 18) = some v18 ∧ τ'.get (pk 19) = some v19 ∧ τ'.get (pk 20) = some v20 ∧
      ∃ v D, τ'.get (pk 5) = some v ∧ Acc wi 3 b σ' v D ∧ (∀ d ∈ D, d < g.ds.length) ∧ D.length ≤ D0.length + sum seSz L) T := by
  have hlen := sum_len seSz L
  refine range_rule (l := 28) (i := 27) (nn := 26) (k := 37) (id := 2) (id' := 3) (B := y142_1) (N := L.length)
    (fun j τ' σ' => Keep b σ' ∧ τ'.get (pk 0) = some (.ptr xb 0 0) ∧ τ'.get (pk 18) = some v18 ∧ τ'.get (pk 19) = some v19 ∧ τ'.get (pk 20) = some v20 ∧ τ'.get (pk 25) = some a ∧
      ∃ v D, τ'.get (pk 5) = some v ∧ Acc wi 3 b σ' v D ∧ (∀ d ∈ D, d < g.ds.length) ∧ D.length ≤ D0.length + sum seSz (L.take j)) _ T
    (by decide) (by decide) (by decide) (by decide) (by decide) (by decide) (by decide) (by omega) (by unfold BB at hBB; omega) ?_ ?_ ?_ f27 f26
  · rintro j τ σ' hj ⟨hK, g0, g18, g19, g20, g25, v, D, g5, hAc, hD, hDl⟩ g27 g26
    obtain ⟨⟨nm, s'⟩, hs'⟩ : ∃ s', L[j]? = some s' := ⟨_, List.getElem?_eq_getElem hj⟩
    have hsz := sum_mem (f := seSz) hs'
    have htl : sum seSz (L.take (j + 1)) = sum seSz (L.take j) + seSz (nm, s') + 1 := by rw [take_snoc hs', sum_snoc]
    have hle := sum_take seSz L (j + 1)
    simp only [seSz] at hsz htl
    obtain ⟨q, ce, q1, q2, q3⟩ := (hA.keep hK).elem hs'
    have ql := Ese.len q3
    have qo := Ese.one q3
    have lq := q2.ldg ql
    have hw' := hK.2.2 hwb
    obtain ⟨σ3, k1, k2, k3⟩ := var_new σ' 42 5 (zs := [.str [], .int .i64 0, .int .i64 0, .str [], .nils]) rfl ql qo
    obtain ⟨d, rfl, q4⟩ := q3
    have hd4 := q4.len
    obtain ⟨q', e1, hq'⟩ := (At.var k3).fad (c := [.str nm]) (d := d) (j := 1) rfl
    have e1' : q' = .ptr σ'.nx 0 1 := by simpa [fadV] using e1.symm
    subst e1'
    have l1 := hq'.ldg hd4
    have hw3 := k2.2.2 hw'
    obtain ⟨v', σ4, D', k4, k5, k6, k7, k8⟩ := datas_call s'.sz s' (Nat.le_refl _) (lf := lf) (m := m) (ins := false) hw3 (hB.keep hwb (hK.trans k2)) hpos (q4.up (k2.up _)) (by omega) (by omega) (by omega)
    have hb1 : D.length + D'.length < BB := by omega
    obtain ⟨v2, σ5, k9, k10, k11⟩ := hAc.appL wi_one (eb := 8) hK (k2.trans k5) k6 (by simp [mostBytes]; unfold BB at hb1; omega) (by simp [mostBytes]; unfold BB at hb1; omega)
    rw [← hcf] at k4
    simp only [y142_1, QA, reduceCtorEq, Nat.reduceAdd, Nat.reduceLeDiff, Nat.reduceEqDiff, QZ, g0, g5, g25, g26, g27, q1, lq, k1, l1, k4, k9]
    refine ⟨k11, g18, g19, g20, _, _, rfl, k10, fun d hd => ?_, by rw [List.length_append]; omega⟩
    rcases List.mem_append.1 hd with h | h
    · exact hD d h
    · exact k7 d h
  · rintro τ σ' ⟨hK, g0, g18, g19, g20, g25, v, D, g5, hAc, hD, hDl⟩
    rw [List.take_of_length_le (Nat.le_refl _)] at hDl
    exact ⟨hK, by simp only [QA, reduceCtorEq, g0], by simp only [QA, Nat.reduceEqDiff, g18], by simp only [QA, Nat.reduceEqDiff, g19], by simp only [QA, Nat.reduceEqDiff, g20], v, D, by simp only [QA, Nat.reduceEqDiff, g5], hAc, hD, hDl⟩
  · exact ⟨hKb, f0, f18, f19, f20, f25, v5, D0, f5, hAc, hD0, by simp [sum]⟩

theorem c142_at : T1.code 142 = some c142 := by kernel_rfl
/-- standing -/
theorem standing_call {lf m i : Nat} {σ : H} {xb : Pos} {g : Sg} {x : Da} (hw : WfH σ) (hB : Book σ xb g) (hx : g.ds[i]? = some x) (hlf : daSz x < lf) (hBB : daSz x < BB) (hm : daSz x ≤ m) :
    ∃ v σ' D, call T1 lf (m + 2) 142 [.ptr xb 0 0, .int .i64 i] σ = .ret v σ' ∧ Keep σ σ' ∧ Acc wi 3 σ σ' v D ∧ (∀ d ∈ D, d < g.ds.length) ∧ D.length ≤ daSz x := by
  have hpos : 0 < g.ds.length := by
    rcases Nat.lt_or_ge i g.ds.length with h | h
    · omega
    · rw [List.getElem?_eq_none h] at hx; cases hx
  obtain ⟨nm, cons⟩ := x
  simp only [daSz] at hlf hBB hm
  have hlen := sum_len coSz cons
  have key : ∃ v σ', call T1 lf (m + 2) 142 [.ptr xb 0 0, .int .i64 i] σ = .ret v σ' ∧ (Keep σ σ' ∧ ∃ D, Acc wi 3 σ σ' v D ∧ (∀ d ∈ D, d < g.ds.length) ∧ D.length ≤ sum coSz cons) := by
    refine call_rt1 (p := pk 4) rfl c142_at (by simp [c142]) rfl fun cf hcf => ?_
    generalize hτ : bindArgs [.ptr xb 0 0, .int .i64 i] .h .lf = τ0
    have h0 : τ0.get (pk 0) = some (.ptr xb 0 0) := by rw [← hτ]; rfl
    have h1 : τ0.get (pk 1) = some (.int .i64 i) := by rw [← hτ]; rfl
    clear hτ
    obtain ⟨u, d, f, xm, hb1, hb2, hb3⟩ := id hB
    obtain ⟨_, _, _, he, _, hsd, _⟩ := hb2
    simp only [List.cons.injEq, and_true] at he
    obtain ⟨rfl, rfl, rfl⟩ := he
    have ld1 : ldv σ (.ptr xb 0 1) = some d := ldk hb1 rfl
    obtain ⟨q, ce, q1, q2, a, rfl, q3⟩ := hsd.elem hx
    simp only at q3
    obtain ⟨q', e1, hq'⟩ := q2.fad (c := [.str nm]) (d := [a]) (j := 1) rfl
    have la := hq'.ldv
    have hal := q3.len
    simp only [c142, QA, reduceCtorEq, Nat.reduceAdd, Nat.reduceLeDiff, Nat.reduceEqDiff, QZ, h0, h1, ld1, q1, e1, la, hal]
    refine Rt_seqNR (range_rule (l := 21) (i := 20) (nn := 19) (k := 38) (id := 0) (id' := 1) (B := y142_3) (N := cons.length)
      (fun j τ σ' => Keep σ σ' ∧ τ.get (pk 0) = some (.ptr xb 0 0) ∧ τ.get (pk 18) = some a ∧ ∃ v D, τ.get (pk 5) = some v ∧ Acc wi 3 σ σ' v D ∧ (∀ d ∈ D, d < g.ds.length) ∧ D.length ≤ sum coSz (cons.take j))
      (fun τ σ' => Keep σ σ' ∧ ∃ v D, τ.get (pk 5) = some v ∧ Acc wi 3 σ σ' v D ∧ (∀ d ∈ D, d < g.ds.length) ∧ D.length ≤ sum coSz cons)
      _ (by decide) (by decide) (by decide) (by decide) (by decide) (by decide) (by decide) (by omega) (by unfold BB at hBB; omega) ?_ ?_ ?_ ?_ ?_) ?_
    · rintro j τ σ' hj ⟨hK, g0, g18, v, D, g5, hAc, hD, hDl⟩ g20 g19
      obtain ⟨⟨nm', sels⟩, hs'⟩ : ∃ s', cons[j]? = some s' := ⟨_, List.getElem?_eq_getElem hj⟩
      have hsz := sum_mem (f := coSz) hs'
      have htl : sum coSz (cons.take (j + 1)) = sum coSz (cons.take j) + coSz (nm', sels) + 1 := by rw [take_snoc hs', sum_snoc]
      have hle := sum_take coSz cons (j + 1)
      simp only [coSz] at hsz htl
      obtain ⟨q, ce, q1, q2, a', rfl, q3'⟩ := q3.elem hs'
      simp only at q3'
      have q2 := q2.keep hw hK
      have lq := q2.ldg (n := 2) rfl
      have hw' := hK.2.2 hw
      obtain ⟨σ3, k1, k2, k3⟩ := var_new σ' 36 2 (zs := [.str [], .nils]) (c := [.str nm', a']) rfl rfl (by rw [List.all_cons, List.all_cons, q3'.one]; rfl)
      have lb : ldv σ3 (.ptr σ'.nx 0 1) = some a' := ldk k3 rfl
      simp only [y142_3, QA, reduceCtorEq, Nat.reduceAdd, Nat.reduceLeDiff, Nat.reduceEqDiff, QZ, g18, g20, q1, lq, k1, lb, q3'.len]
      refine NR_blk ((standSels_loop (m := m) hcf (v18 := a) (v19 := .int .i64 cons.length) (v20 := .int .i64 j) (v5 := v) (D0 := D) hw (hK.trans k2) hB hpos q3' (by omega) (by omega) (by omega)
        (by simp only [QA, reduceCtorEq, g0]) (by simp only [QA, Nat.reduceEqDiff, g18]) (by simp only [QA, Nat.reduceEqDiff, g19]) (by simp only [QA, Nat.reduceEqDiff, g20]) (by simp only [QA, Nat.reduceEqDiff]) (by simp only [QA, Nat.reduceEqDiff]) (by simp only [QA, Nat.reduceEqDiff]) (by simp only [QA, Nat.reduceEqDiff, g5]) (hAc.keep k2) hD (by omega)).mono ?_ (fun _ _ h => h))
      rintro τ' σ4 ⟨r1, r0, r18, r19, r20, v', D', r5, r6, r7, r8⟩
      exact ⟨r20, r19, r1, by simp only [r0], by simp only [r18], v', D', by simp only [r5], r6, r7, by omega⟩
    · rintro τ σ' ⟨hK, g0, g18, v, D, g5, hAc, hD, hDl⟩
      rw [List.take_of_length_le (Nat.le_refl _)] at hDl
      exact ⟨hK, v, D, by simp only [QA, Nat.reduceEqDiff, g5], hAc, hD, hDl⟩
    · exact ⟨Keep.refl _, by simp only [QA, reduceCtorEq, h0], by simp only [QA, Nat.reduceEqDiff], .nils, [], by simp only [QA, Nat.reduceEqDiff], .inl ⟨rfl, rfl⟩, fun d h => (by cases h), Nat.zero_le _⟩
    · simp only [QA, Nat.reduceEqDiff]
    · simp only [QA, Nat.reduceEqDiff]
    · rintro τ σ' ⟨hK, v, D, g5, hAc, hD, hDl⟩
      simp only [QA, Nat.reduceAdd, Nat.reduceLeDiff, Nat.reduceEqDiff, g5]
      exact ⟨hK, D, hAc, hD, hDl⟩
  obtain ⟨v, σ', h1, h2, D, h3, h4, h5⟩ := key
  exact ⟨v, σ', D, h1, h2, h3, h4, by simp only [daSz]; omega⟩
end Go.Proofs.YtfgghbikbaopjaaGreatDoorEng

namespace Go.Proofs.YtfgghbikbaopjaaGreatDoorEng
open Go
set_option maxRecDepth 100000
set_option linter.unusedSimpArgs false

/-- what is not yet met -/
def unv {α : Type} (f : α → Nat) : List α → List Bool → Nat
  | x :: r, b :: s => (if b then 0 else f x) + unv f r s
  | _, _ => 0
theorem unv_le {α : Type} (f : α → Nat) : ∀ (l : List α) (s : List Bool), unv f l s ≤ sum f l
  | [], _ => by simp [unv]
  | x :: r, [] => by simp [unv]
  | x :: r, b :: s => by
    have := unv_le f r s
    simp only [unv, sum]
    split <;> omega
theorem unv_set {α : Type} (f : α → Nat) : ∀ {l : List α} {s : List Bool} {k : Nat} {x : α}, l[k]? = some x → s[k]? = some false → unv f l (s.set k true) + f x = unv f l s
  | [], _, k, x, h, _ => by simp at h
  | _ :: _, [], k, x, _, h => by simp at h
  | y :: r, b :: s, 0, x, h1, h2 => by
    simp at h1 h2; subst h1; subst h2
    simp [unv]; omega
  | y :: r, b :: s, k + 1, x, h1, h2 => by
    have := unv_set f (l := r) (s := s) (k := k) (by simpa using h1) (by simpa using h2)
    simp only [List.set_cons_succ, unv]; omega

/-- a queue of places -/
def TD (b σ : H) (v : V) (D : List Nat) : Prop :=
  (D = [] ∧ v = .nils) ∨ ∃ x ver minv ex o c, v = .sl x ver o D.length none 1 ∧ σ.get x = some (.cells 3 c ver minv (some 0) ex) ∧ c.drop o = D.map wi ∧ o ≤ c.length ∧ b.nx.toNat ≤ x.toNat ∧ x.toNat < σ.nx.toNat
theorem Acc.td {b σ : H} {v : V} {D : List Nat} (h : Acc wi 3 b σ v D) : TD b σ v D := by
  rcases h with h | ⟨x, ver, minv, ex, rfl, hg, h1, h2⟩
  · exact .inl h
  · exact .inr ⟨x, ver, minv, ex, 0, _, rfl, hg, by simp, Nat.zero_le _, h1, h2⟩
theorem TD.low {b b' σ : H} {v : V} {D : List Nat} (h : TD b σ v D) (hb : b'.nx.toNat ≤ b.nx.toNat) : TD b' σ v D := by
  rcases h with h | ⟨x, ver, minv, ex, o, c, rfl, hg, hd, ho, h1, h2⟩
  · exact .inl h
  · exact .inr ⟨x, ver, minv, ex, o, c, rfl, hg, hd, ho, Nat.le_trans hb h1, h2⟩
theorem TD.up {b σ σ' : H} {v : V} {D : List Nat} (h : TD b σ v D) (hn : σ.nx.toNat ≤ σ'.nx.toNat) (hk : ∀ (x : Pos) c ver minv ex, σ.get x = some (.cells 3 c ver minv (some 0) ex) → x.toNat < σ.nx.toNat → σ'.get x = σ.get x) : TD b σ' v D := by
  rcases h with h | ⟨x, ver, minv, ex, o, c, rfl, hg, hd, ho, h1, h2⟩
  · exact .inl h
  · exact .inr ⟨x, ver, minv, ex, o, c, rfl, by rw [hk x c ver minv ex hg h2]; exact hg, hd, ho, h1, Nat.lt_of_lt_of_le h2 hn⟩
theorem TD.len {b σ : H} {v : V} {D : List Nat} (h : TD b σ v D) : lenV v = some (.int .i64 D.length) := by
  rcases h with ⟨rfl, rfl⟩ | ⟨x, ver, minv, ex, o, c, rfl, hg, hd, ho, h1, h2⟩ <;> rfl
theorem TD.pop {b σ : H} {v : V} {d : Nat} {D : List Nat} (h : TD b σ v (d :: D)) : (∃ q, elemAt 1 v 0 = some q ∧ ldv σ q = some (wi d)) ∧ ∃ v', vslsl 1 v (some (.int .i64 1)) none none = some v' ∧ TD b σ v' D := by
  rcases h with ⟨h, _⟩ | ⟨x, ver, minv, ex, o, c, rfl, hg, hd, ho, h1, h2⟩
  · cases h
  · have hl := congrArg List.length hd
    simp only [List.length_drop, List.length_map, List.length_cons] at hl
    refine ⟨⟨.ptr x ver (o + 0), ?_, ?_⟩, .sl x ver (o + 1) D.length none 1, ?_, .inr ⟨x, ver, minv, ex, o + 1, c, rfl, hg, ?_, by omega, h1, h2⟩⟩
    · simp only [elemAt, List.length_cons]
      rw [if_pos ⟨Int.le_refl _, by omega⟩]; rfl
    · refine ldk hg ?_
      have : (c.drop o)[0]? = some (wi d) := by rw [hd]; rfl
      rwa [List.getElem?_drop] at this
    · simp only [vslsl, if_true, bnd_none, List.length_cons]
      have : bnd (some (.int .i64 1)) 0 (D.length + 1) = some 1 := by
        simp only [bnd]; rw [if_pos ⟨by decide, by omega⟩]; rfl
      rw [this]
      simp
    · rw [← List.drop_drop, hd]; rfl
theorem TD.app {b σ : H} {v y : V} {D B : List Nat} {eb : Nat} (h : TD b σ v D) (hy : UG wi σ y B) (hbn : b.nx.toNat ≤ σ.nx.toNat) (hb : (D.length + B.length) * eb ≤ mostBytes) (hb2 : D.length + B.length ≤ mostBytes) :
    ∃ v' σ', appV σ 3 1 eb v y = .ok v' σ' ∧ TD b σ' v' (D ++ B) ∧ σ.nx.toNat ≤ σ'.nx.toNat ∧ (Keep b σ → Keep b σ') ∧ (∀ (x : Pos) ty c ver minv ex, ty ≠ 3 → σ.get x = some (.cells ty c ver minv (some 0) ex) → x.toNat < σ.nx.toNat → σ'.get x = σ.get x) := by
  by_cases hB : B = []
  · subst hB
    have : appV σ 3 1 eb v y = .ok v σ := by
      unfold appV
      rw [if_pos hy.slice, hy.2.1]
      simp only [hy.2.2]
      rcases h with ⟨_, rfl⟩ | ⟨x, ver, minv, ex, o, c, rfl, _⟩ <;> simp [vapp, HR.of]
    exact ⟨v, σ, this, by rw [List.append_nil]; exact h, Nat.le_refl _, id, fun _ _ _ _ _ _ _ _ _ => rfl⟩
  have hn : B.length ≠ 0 := fun e => hB (List.eq_nil_of_length_eq_zero e)
  rcases h with ⟨rfl, rfl⟩ | ⟨x, ver, minv, ex, o, c, rfl, hg, hd, ho, h1, h2⟩
  · refine ⟨_, _, app_nil hy hB (by simpa using hb) (by simpa using hb2), .inr ⟨σ.nx, 0, 0, [], 0, _, rfl, by rw [H.get_new, if_pos rfl], by simp, Nat.zero_le _, hbn, by rw [nx_new]; omega⟩, (Keep.new _ _).1, fun k => k.trans (Keep.new _ _), fun z _ _ _ _ _ _ _ hz => (Keep.new σ _).get hz⟩
  · have hl := congrArg List.length hd
    simp only [List.length_drop, List.length_map] at hl
    have hall : (B.map wi).all V.one = true := by
      rw [List.all_eq_true]
      intro z hz
      obtain ⟨n, _, rfl⟩ := List.mem_map.1 hz
      rfl
    have : appV σ 3 1 eb (.sl x ver o D.length none 1) y = .ok (.sl x (ver + 1) o (D.length + B.length) none 1) (σ.put x (.cells 3 (c ++ B.map wi) (ver + 1) minv (some 0) (c.length :: ex))) := by
      unfold appV
      rw [if_pos hy.slice, hy.2.1]
      simp only [hy.2.2, vapp, if_neg hn, hg, Nat.mul_one]
      rw [if_pos ⟨trivial, trivial, trivial, Nat.one_pos, hb, hb2, Nat.zero_le _, by omega, hall⟩, if_pos (by omega)]
      simp [HR.of]
    refine ⟨_, _, this, .inr ⟨x, ver + 1, minv, _, o, c ++ B.map wi, by rw [List.length_append], by rw [H.get_put, if_pos rfl], ?_, by rw [List.length_append]; omega, h1, h2⟩, Nat.le_refl _, fun k => k.put h1 h2 _, fun z ty c' ver' minv' ex' hty hz _ => ?_⟩
    · rw [List.drop_append_of_le_length ho, hd, List.map_append]
    · rw [H.get_put, if_neg]
      rintro rfl
      rw [hg] at hz
      simp only [Option.some.injEq, Blk.cells.injEq] at hz
      exact hty hz.1.symm

/-- a row of bools, of new memory -/
def RowOk (b σ : H) (v : V) (N : Nat) : Prop := ∃ y L, BL σ v y L ∧ L.length = N ∧ b.nx.toNat ≤ y.toNat ∧ y.toNat < σ.nx.toNat
theorem RowOk.up {b σ σ' : H} {v : V} {N : Nat} (h : RowOk b σ v N) (hn : σ.nx.toNat ≤ σ'.nx.toNat) (hk : ∀ (x : Pos) c ver minv ex, σ.get x = some (.cells 4 c ver minv (some 0) ex) → x.toNat < σ.nx.toNat → σ'.get x = σ.get x) : RowOk b σ' v N := by
  obtain ⟨y, L, ⟨h1, h2⟩, h3, h4, h5⟩ := h
  exact ⟨y, L, ⟨h1, by rw [hk y _ _ _ _ h2 h5]; exact h2⟩, h3, h4, Nat.lt_of_lt_of_le h5 hn⟩
/-- a bool is written into a row -/
theorem RowOk.put {b σ : H} {v : V} {N : Nat} (h : RowOk b σ v N) {y : Pos} {L : List Bool} (k : Nat) (w : Bool) (hg : σ.get y = some (.cells 4 (L.map V.bool) 0 0 (some 0) [])) : RowOk b (σ.put y (.cells 4 ((L.set k w).map V.bool) 0 0 (some 0) [])) v N := by
  obtain ⟨z, M, ⟨h1, h2⟩, h3, h4, h5⟩ := h
  by_cases e : z = y
  · subst e
    rw [hg] at h2
    simp only [Option.some.injEq, Blk.cells.injEq, and_true, true_and] at h2
    have hLM : L.length = M.length := by have := congrArg List.length h2; simpa using this
    exact ⟨z, L.set k w, ⟨by rw [h1, List.length_set, hLM], by rw [H.get_put, if_pos rfl]⟩, by rw [List.length_set, hLM]; exact h3, h4, h5⟩
  · exact ⟨z, M, ⟨h1, by rw [H.get_put, if_neg e]; exact h2⟩, h3, h4, h5⟩
/-- rows of bools -/
def Rows (b σ : H) (xo : Pos) (cs : List V) (N n : Nat) : Prop := σ.get xo = some (.cells 166 cs 0 0 (some 0) []) ∧ cs.length = N ∧ b.nx.toNat ≤ xo.toNat ∧ xo.toNat < σ.nx.toNat ∧ ∀ j, j < n → ∃ v, cs[j]? = some v ∧ RowOk b σ v N
theorem Rows.up {b σ σ' : H} {xo : Pos} {cs : List V} {N n : Nat} (h : Rows b σ xo cs N n) (hn : σ.nx.toNat ≤ σ'.nx.toNat) (hk : ∀ (x : Pos) ty c ver minv ex, ty ≠ 3 → σ.get x = some (.cells ty c ver minv (some 0) ex) → x.toNat < σ.nx.toNat → σ'.get x = σ.get x) : Rows b σ' xo cs N n := by
  obtain ⟨h1, h2, h3, h4, h5⟩ := h
  refine ⟨by rw [hk xo _ _ _ _ _ (by decide) h1 h4]; exact h1, h2, h3, Nat.lt_of_lt_of_le h4 hn, fun j hj => ?_⟩
  obtain ⟨v, e1, e2⟩ := h5 j hj
  exact ⟨v, e1, e2.up hn fun x c ver minv ex hg hx => hk x 4 c ver minv ex (by decide) hg hx⟩
theorem Rows.keep {b σ σ' : H} {xo : Pos} {cs : List V} {N n : Nat} (h : Rows b σ xo cs N n) (k : Keep σ σ') : Rows b σ' xo cs N n :=
  h.up k.1 fun _ _ _ _ _ _ _ _ hx => k.get hx

theorem repl_one (v : V) : ∀ n, repl [v] n = List.replicate n v
  | 0 => rfl
  | n + 1 => by simp [repl, repl_one v n, List.replicate_succ]
theorem mkV_nat (ty eb : Nat) (zs : List V) {n : Nat} (h : n < BB) (he : eb ≤ 100) : mkV ty eb zs (.int .i64 n) (.int .i64 n) = some (.sl n n, .cells ty (repl zs n) 0 0 (some 0) []) := by
  simp only [mkV]
  unfold BB at h
  have : n * eb ≤ n * 100 := Nat.mul_le_mul_left _ he
  rw [if_pos ⟨Int.natCast_nonneg n, Int.le_refl _, by simp [mostBytes]; omega, by omega⟩]
  simp
def kSlL (esz : Nat) : Option V → Option V → Option V
  | some s, some l => vslsl esz s (some l) none none
  | _, _ => none
theorem e_slsl_l (τ : Tr V) (esz : Nat) (a l : Arg) : POp.ev τ (.slsl esz a (some l) none none) = kSlL esz (a.ev τ) (l.ev τ) := by
  simp only [POp.ev, ofOpt]
  cases a.ev τ <;> cases l.ev τ <;> rfl
theorem e_sllk (esz : Nat) (s l : V) : kSlL esz (some s) (some l) = vslsl esz s (some l) none none := rfl

/-- the queue's loop, in leans -/
theorem queue_loop {lf m : Nat} {cf : CallF} (hcf : cf = call T1 lf (m + 2)) {b σ : H} {xb xo : Pos} {g : Sg} {cs : List V} {i : Nat} (hwb : WfH b) (hKb : Keep b σ) (hB : Book b xb g) (hi : i < g.ds.length) (hlf : 2 * sum daSz g.ds < lf) (hBB : sum daSz g.ds < BB) (hm : sum daSz g.ds ≤ m)
    (hR : Rows b σ xo cs g.ds.length (i + 1))
    {T : Tr V → H → Prop} {τ : Tr V} {v6 : V} {D0 : List Nat} (f0 : τ.get (pk 0) = some (.ptr xb 0 0)) (f3 : τ.get (pk 3) = some (.int .i64 g.ds.length)) (f4 : τ.get (pk 4) = some (.sl xo 0 0 g.ds.length (some g.ds.length) 0)) (f5 : τ.get (pk 5) = some (.int .i64 i))
    (f16 : τ.get (pk 16) = some (.int .i64 g.ds.length)) (f17 : τ.get (pk 17) = some (.int .i64 i)) (f6 : τ.get (pk 6) = some v6) (hT : TD b σ v6 D0) (hD0 : ∀ d ∈ D0, d < g.ds.length) (hl0 : D0.length ≤ sum daSz g.ds) :
    NR (kBlk 2 (exec cf lf 57 (.loop b78_0) τ σ [])) (fun τ' σ' => Keep b σ' ∧ Rows b σ' xo cs g.ds.length (i + 1) ∧ τ'.get (pk 0) = some (.ptr xb 0 0) ∧ τ'.get (pk 3) = some (.int .i64 g.ds.length) ∧ τ'.get (pk 4) = some (.sl xo 0 0 g.ds.length (some g.ds.length) 0) ∧ τ'.get (pk 16) = some (.int .i64 g.ds.length) ∧ τ'.get (pk 17) = some (.int .i64 i)) T := by
  refine loop_rule (fun kk τ' σ' => Keep b σ' ∧ Rows b σ' xo cs g.ds.length (i + 1) ∧ τ'.get (pk 0) = some (.ptr xb 0 0) ∧ τ'.get (pk 3) = some (.int .i64 g.ds.length) ∧ τ'.get (pk 4) = some (.sl xo 0 0 g.ds.length (some g.ds.length) 0) ∧ τ'.get (pk 5) = some (.int .i64 i) ∧ τ'.get (pk 16) = some (.int .i64 g.ds.length) ∧ τ'.get (pk 17) = some (.int .i64 i) ∧
      ∃ v D y L, τ'.get (pk 6) = some v ∧ TD b σ' v D ∧ (∀ d ∈ D, d < g.ds.length) ∧ cs[i]? = some (.sl y 0 0 g.ds.length (some g.ds.length) 0) ∧ σ'.get y = some (.cells 4 (L.map V.bool) 0 0 (some 0) []) ∧ L.length = g.ds.length ∧ b.nx.toNat ≤ y.toNat ∧ y.toNat < σ'.nx.toNat ∧ D.length + unv daSz g.ds L ≤ kk ∧ kk ≤ 2 * sum daSz g.ds)
    _ T ?_ (k := 2 * sum daSz g.ds) hlf ?_
  · rintro kk τ σ' ⟨hK, hR, g0, g3, g4, g5, g16, g17, v, D, y, L, g6, hT, hD, hcs, hy, hLl, hyb, hyn, hme, hkk⟩
    have hw' := hK.2.2 hwb
    have hvl := hT.len
    cases D with
    | nil =>
      have e0 : decide ((0 : Int) < (([] : List Nat).length : Nat)) = false := by decide
      simp only [b78_0, QA, reduceCtorEq, Nat.reduceAdd, Nat.reduceLeDiff, Nat.reduceEqDiff, g6, hvl, e0]
      exact ⟨hK, hR, g0, g3, g4, g16, g17⟩
    | cons d D =>
      have e0 : decide ((0 : Int) < ((d :: D).length : Nat)) = true := by simp
      obtain ⟨⟨q, p1, p2⟩, v', p3, p4⟩ := hT.pop
      have hd := hD d (by simp)
      obtain ⟨hx1, hx2, hx3, hx4, hx5⟩ := id hR
      -- out[i]
      have o1 : elemAt 1 (.sl xo 0 0 g.ds.length (some g.ds.length) 0) i = some (.ptr xo 0 i) := by
        simp only [elemAt]; rw [if_pos ⟨Int.natCast_nonneg i, by omega⟩]; simp
      have o2 : ldv σ' (.ptr xo 0 i) = some (.sl y 0 0 g.ds.length (some g.ds.length) 0) := ldk hx1 hcs
      -- out[i][k]
      have hBL : BL σ' (.sl y 0 0 g.ds.length (some g.ds.length) 0) y L := ⟨by rw [hLl], hy⟩
      obtain ⟨bv, hbv⟩ : ∃ bv, L[d]? = some bv := ⟨_, List.getElem?_eq_getElem (by omega)⟩
      obtain ⟨r1, r2⟩ := hBL.elem hbv
      simp only [List.length_cons] at hme
      cases bv with
      | true =>
        simp only [b78_0, x78_0, QA, reduceCtorEq, Nat.reduceAdd, Nat.reduceLeDiff, Nat.reduceEqDiff, e_slsl_l, e_sllk, g0, g4, g5, g6, hvl, e0, p1, p2, wi, p3, o1, o2, r1, r2]
        exact ⟨kk - 1, by omega, hK, hR, g3, g16, g17, v', D, y, L, rfl, p4, fun d' h => hD d' (by simp [h]), hcs, hy, hLl, hyb, hyn, by omega, by omega⟩
      | false =>
        -- the write
        have st := st_one (σ := σ') (x := y) (o := d) (v := .bool true) hy (by rw [List.length_map]; omega) rfl rfl
        have hset : (L.map V.bool).set d (.bool true) = (L.set d true).map V.bool := by rw [List.map_set]
        rw [hset] at st
        have hKp := hK.put hyb hyn (.cells 4 ((L.set d true).map V.bool) 0 0 (some 0) [])
        have hy2 : (σ'.put y (.cells 4 ((L.set d true).map V.bool) 0 0 (some 0) [])).get y = some (.cells 4 ((L.set d true).map V.bool) 0 0 (some 0) []) := by rw [H.get_put, if_pos rfl]
        have hxoy : xo ≠ y := by
          rintro rfl
          rw [hy] at hx1
          simp at hx1
        have hR2 : Rows b (σ'.put y (.cells 4 ((L.set d true).map V.bool) 0 0 (some 0) [])) xo cs g.ds.length (i + 1) := by
          refine ⟨by rw [H.get_put, if_neg hxoy]; exact hx1, hx2, hx3, hx4, fun j hj => ?_⟩
          obtain ⟨w, e1, e2⟩ := hx5 j hj
          exact ⟨w, e1, e2.put d true hy⟩
        have p4' : TD b (σ'.put y (.cells 4 ((L.set d true).map V.bool) 0 0 (some 0) [])) v' D := p4.up (Nat.le_refl _) fun x c ver minv ex hg _ => by
          rw [H.get_put, if_neg]
          rintro rfl
          rw [hy] at hg
          simp at hg
        generalize hσ2 : σ'.put y (.cells 4 ((L.set d true).map V.bool) 0 0 (some 0) []) = σ2 at *
        have hyn2 : y.toNat < σ2.nx.toNat := by rw [← hσ2]; exact hyn
        have hw2 := hKp.2.2 hwb
        obtain ⟨x, hx⟩ : ∃ x, g.ds[d]? = some x := ⟨_, List.getElem?_eq_getElem hd⟩
        have hxs := sum_mem (f := daSz) hx
        obtain ⟨v1, σ3, D1, k1, k2, k3, k4, k5⟩ := standing_call (lf := lf) (m := m) hw2 (hB.keep hwb hKp) hx (by omega) (by omega) (by omega)
        have hKp3 := hKp.trans k2
        have hu := unv_set daSz hx hbv
        have hBu := unv_le daSz g.ds L
        obtain ⟨v2, σ4, k6, k7, k8, k9, k10⟩ := TD.app (eb := 8) (p4'.up k2.1 fun x _ _ _ _ _ hx => k2.get hx) k3.UG hKp3.1 (by simp [mostBytes]; unfold BB at hBB; omega) (by simp [mostBytes]; unfold BB at hBB; omega)
        have hy3 : σ3.get y = some (.cells 4 ((L.set d true).map V.bool) 0 0 (some 0) []) := by rw [k2.get hyn2]; exact hy2
        have hy4 : σ4.get y = some (.cells 4 ((L.set d true).map V.bool) 0 0 (some 0) []) := by rw [k10 y _ _ _ _ _ (by decide) hy3 (Nat.lt_of_lt_of_le hyn2 k2.1)]; exact hy3
        have hR4 := (hR2.keep k2).up k8 k10
        rw [← hcf] at k1
        simp only [b78_0, x78_0, QA, reduceCtorEq, Nat.reduceAdd, Nat.reduceLeDiff, Nat.reduceEqDiff, e_slsl_l, e_sllk, g0, g4, g5, g6, hvl, e0, p1, p2, wi, p3, o1, o2, r1, r2, st, k1, k6]
        refine ⟨kk - 1, by omega, k9 hKp3, hR4, g3, g16, g17, v2, D ++ D1, y, L.set d true, rfl, k7, fun d' h => ?_, hcs, hy4, by rw [List.length_set]; exact hLl, hyb, Nat.lt_of_lt_of_le hyn2 (Nat.le_trans k2.1 k8), by rw [List.length_append]; omega, by omega⟩
        rcases List.mem_append.1 h with h | h
        · exact hD d' (by simp [h])
        · exact k4 d' h
  · obtain ⟨v, e1, y, L, ⟨e2, e3⟩, e4, e5, e6⟩ := hR.2.2.2.2 i (by omega)
    have hu := unv_le daSz g.ds L
    rw [e4] at e2
    subst e2
    exact ⟨hKb, hR, f0, f3, f4, f5, f16, f17, v6, D0, y, L, f6, hT, hD0, e1, e3, e4, e5, e6, by omega, Nat.le_refl _⟩
end Go.Proofs.YtfgghbikbaopjaaGreatDoorEng

namespace Go.Proofs.YtfgghbikbaopjaaGreatDoorEng
open Go
set_option maxRecDepth 100000
set_option linter.unusedSimpArgs false

theorem Rows.put {b σ : H} {xo : Pos} {cs : List V} {N n : Nat} (h : Rows b σ xo cs N n) {v : V} (hv : RowOk b σ v N) (hn : n < N) : Rows b (σ.put xo (.cells 166 (cs.set n v) 0 0 (some 0) [])) xo (cs.set n v) N (n + 1) := by
  obtain ⟨h1, h2, h3, h4, h5⟩ := h
  have hk : ∀ (x : Pos) c ver minv ex, σ.get x = some (.cells 4 c ver minv (some 0) ex) → x.toNat < σ.nx.toNat → (σ.put xo (.cells 166 (cs.set n v) 0 0 (some 0) [])).get x = σ.get x := fun x c ver minv ex hg _ => by
    rw [H.get_put, if_neg]
    rintro rfl
    rw [h1] at hg
    simp at hg
  refine ⟨by rw [H.get_put, if_pos rfl], by rw [List.length_set]; exact h2, h3, h4, fun j hj => ?_⟩
  by_cases e : j = n
  · subst e
    exact ⟨v, by rw [List.getElem?_set_self (by omega)], hv.up (Nat.le_refl _) hk⟩
  · obtain ⟨w, e1, e2⟩ := h5 j (by omega)
    exact ⟨w, by rw [List.getElem?_set_ne (fun h => e h.symm)]; exact e1, e2.up (Nat.le_refl _) hk⟩
/-- what leans gives -/
def LeansOk (σ : H) (v : V) (N : Nat) : Prop := ∃ b xo cs, v = .sl xo 0 0 N (some N) 0 ∧ Rows b σ xo cs N N
theorem LeansOk.keep {σ σ' : H} {v : V} {N : Nat} (h : LeansOk σ v N) (k : Keep σ σ') : LeansOk σ' v N := by
  obtain ⟨b, xo, cs, h1, h2⟩ := h
  exact ⟨b, xo, cs, h1, h2.keep k⟩
theorem LeansOk.at {σ : H} {v : V} {N : Nat} (h : LeansOk σ v N) {k i : Nat} (hk : k < N) (hi : i < N) : ∃ q r p b, elemAt 1 v k = some q ∧ ldv σ q = some r ∧ elemAt 1 r i = some p ∧ ldv σ p = some (.bool b) := by
  obtain ⟨b, xo, cs, rfl, h1, h2, h3, h4, h5⟩ := h
  obtain ⟨r, e1, y, L, hBL, hL, _⟩ := h5 k hk
  obtain ⟨bv, hbv⟩ : ∃ bv, L[i]? = some bv := ⟨_, List.getElem?_eq_getElem (by omega)⟩
  obtain ⟨r1, r2⟩ := hBL.elem hbv
  exact ⟨.ptr xo 0 k, r, _, bv, by simp only [elemAt]; rw [if_pos ⟨Int.natCast_nonneg k, by omega⟩]; simp, ldk h1 e1, r1, r2⟩

theorem c78_at : T1.code 78 = some c78 := by kernel_rfl
/-- leans -/
theorem leans_call {lf m : Nat} {σ : H} {xb : Pos} {g : Sg} (hw : WfH σ) (hB : Book σ xb g) (hlf : 2 * sum daSz g.ds < lf) (hBB : sum daSz g.ds < BB) (hm : sum daSz g.ds ≤ m) :
    ∃ v σ', call T1 lf (m + 3) 78 [.ptr xb 0 0] σ = .ret v σ' ∧ Keep σ σ' ∧ LeansOk σ' v g.ds.length := by
  have hlen := sum_len daSz g.ds
  refine call_rt1 (p := pk 2) rfl c78_at (by simp [c78]) rfl fun cf hcf => ?_
  generalize hτ : bindArgs [.ptr xb 0 0] .h .lf = τ0
  have h0 : τ0.get (pk 0) = some (.ptr xb 0 0) := by rw [← hτ]; rfl
  clear hτ
  obtain ⟨u, d, f, xm, hb1, hb2, hb3⟩ := id hB
  obtain ⟨_, _, _, he, _, hsd, _⟩ := hb2
  simp only [List.cons.injEq, and_true] at he
  obtain ⟨rfl, rfl, rfl⟩ := he
  have ld1 : ldv σ (.ptr xb 0 1) = some d := ldk hb1 rfl
  have hdl := hsd.len
  have mk := mkV_nat 166 24 [.nils] (n := g.ds.length) (by omega) (by decide)
  have hKa := Keep.new σ (.cells 166 (repl [.nils] g.ds.length) 0 0 (some 0) [])
  have ga := (Keep.refl (σ.new (.cells 166 (repl [.nils] g.ds.length) 0 0 (some 0) []))).at
  have hxn : σ.nx.toNat < (σ.new (.cells 166 (repl [.nils] g.ds.length) 0 0 (some 0) [])).nx.toNat := by rw [nx_new]; omega
  have hw1 := hKa.2.2 hw
  simp only [c78, QA, reduceCtorEq, Nat.reduceAdd, Nat.reduceLeDiff, Nat.reduceEqDiff, QZ, h0, ld1, hdl, mk]
  generalize hσ1 : σ.new (.cells 166 (repl [.nils] g.ds.length) 0 0 (some 0) []) = σ1 at *
  refine Rt_seqNR (range_rule (l := 18) (i := 17) (nn := 16) (k := 55) (id := 0) (id' := 1) (B := y78_2) (N := g.ds.length)
    (fun j τ σ' => Keep σ σ' ∧ τ.get (pk 0) = some (.ptr xb 0 0) ∧ τ.get (pk 3) = some (.int .i64 g.ds.length) ∧ τ.get (pk 4) = some (.sl σ.nx 0 0 g.ds.length (some g.ds.length) 0) ∧ ∃ cs, Rows σ σ' σ.nx cs g.ds.length j)
    (fun τ σ' => Keep σ σ' ∧ τ.get (pk 4) = some (.sl σ.nx 0 0 g.ds.length (some g.ds.length) 0) ∧ ∃ cs, Rows σ σ' σ.nx cs g.ds.length g.ds.length)
    _ (by decide) (by decide) (by decide) (by decide) (by decide) (by decide) (by decide) (by omega) (by unfold BB at hBB; omega) ?_ ?_ ?_ ?_ ?_) ?_
  · rintro j τ σ' hj ⟨hK, g0, g3, g4, cs, hR⟩ g17 g16
    have hw' := hK.2.2 hw
    have mk2 := mkV_nat 4 1 [.bool false] (n := g.ds.length) (by omega) (by decide)
    have hKr := Keep.new σ' (.cells 4 (repl [.bool false] g.ds.length) 0 0 (some 0) [])
    have gr := (Keep.refl (σ'.new (.cells 4 (repl [.bool false] g.ds.length) 0 0 (some 0) []))).at
    have hrn : σ'.nx.toNat < (σ'.new (.cells 4 (repl [.bool false] g.ds.length) 0 0 (some 0) [])).nx.toNat := by rw [nx_new]; omega
    have hR1 := hR.keep hKr
    have hrow : RowOk σ (σ'.new (.cells 4 (repl [.bool false] g.ds.length) 0 0 (some 0) [])) (.sl σ'.nx 0 0 g.ds.length (some g.ds.length) 0) g.ds.length := by
      refine ⟨σ'.nx, List.replicate g.ds.length false, ⟨by rw [List.length_replicate], ?_⟩, List.length_replicate, hK.1, hrn⟩
      rw [gr, repl_one, List.map_replicate]
    have hR2 := hR1.put hrow hj
    have st := st_one (σ := σ'.new (.cells 4 (repl [.bool false] g.ds.length) 0 0 (some 0) [])) (x := σ.nx) (o := j) (v := .sl σ'.nx 0 0 g.ds.length (some g.ds.length) 0) hR1.1 (by rw [hR1.2.1]; exact hj) rfl rfl
    have hKp := (hK.trans hKr).put (Nat.le_refl _) hR1.2.2.2.1 (.cells 166 (cs.set j (.sl σ'.nx 0 0 g.ds.length (some g.ds.length) 0)) 0 0 (some 0) [])
    have o1 : elemAt 1 (.sl σ.nx 0 0 g.ds.length (some g.ds.length) 0) j = some (.ptr σ.nx 0 j) := by
      simp only [elemAt]; rw [if_pos ⟨Int.natCast_nonneg j, by omega⟩]; simp
    generalize hσ3 : σ'.new (.cells 4 (repl [.bool false] g.ds.length) 0 0 (some 0) []) = σ3 at *
    generalize hσ4 : σ3.put σ.nx (.cells 166 (cs.set j (.sl σ'.nx 0 0 g.ds.length (some g.ds.length) 0)) 0 0 (some 0) []) = σ4 at *
    have hw4 := hKp.2.2 hw
    obtain ⟨x, hx⟩ : ∃ x, g.ds[j]? = some x := ⟨_, List.getElem?_eq_getElem hj⟩
    have hxs := sum_mem (f := daSz) hx
    obtain ⟨v1, σ5, D1, k1, k2, k3, k4, k5⟩ := standing_call (lf := lf) (m := m) hw4 (hB.keep hw hKp) hx (by omega) (by omega) (by omega)
    rw [← hcf] at k1
    simp only [y78_2, QA, reduceCtorEq, Nat.reduceAdd, Nat.reduceLeDiff, Nat.reduceEqDiff, g0, g3, g4, g17, mk2, o1, hσ3, st, k1]
    refine NR_blk ((queue_loop (b := σ) (σ := σ5) (xb := xb) (xo := σ.nx) (g := g) (i := j) (v6 := v1) (D0 := D1) hcf hw (hKp.trans k2) hB hj hlf hBB hm (hR2.keep k2) (by simp only [QA, reduceCtorEq, g0]) (by simp only [QA, Nat.reduceEqDiff, g3]) (by simp only [QA, Nat.reduceEqDiff, g4]) (by simp only [QA, Nat.reduceEqDiff]) (by simp only [QA, Nat.reduceEqDiff, g16]) (by simp only [QA, Nat.reduceEqDiff, g17]) (by simp only [QA, Nat.reduceEqDiff]) (k3.td.low hKp.1) k4 (by omega)).mono ?_ (fun _ _ h => h))
    rintro τ' σ6 ⟨r1, r2, r0, r3, r4, r16, r17⟩
    exact ⟨r17, r16, r1, by simp only [r0], by simp only [r3], by simp only [r4], _, r2⟩
  · rintro τ σ' ⟨hK, g0, g3, g4, cs, hR⟩
    exact ⟨hK, by simp only [QA, Nat.reduceEqDiff, g4], cs, hR⟩
  · refine ⟨hKa, by simp only [QA, reduceCtorEq, h0], by simp only [QA, Nat.reduceEqDiff], by simp only [QA, Nat.reduceEqDiff], _, ga, ?_, Nat.le_refl _, hxn, fun j hj => by omega⟩
    rw [repl_one, List.length_replicate]
  · simp only [QA, Nat.reduceEqDiff]
  · simp only [QA, Nat.reduceEqDiff]
  · rintro τ σ' ⟨hK, g4, cs, hR⟩
    simp only [QA, Nat.reduceAdd, Nat.reduceLeDiff, Nat.reduceEqDiff, g4]
    exact ⟨hK, σ, σ.nx, cs, rfl, hR⟩

/-- slots that are not written -/
structure Fr (W : List Nat) (τ τ' : Tr V) : Prop where
  at_ : ∀ s, s ∉ W → τ'.get (pk s) = τ.get (pk s)
theorem Fr.refl (W : List Nat) (τ : Tr V) : Fr W τ τ := ⟨fun _ _ => rfl⟩
theorem Fr.set {W : List Nat} {τ0 τ : Tr V} {s : Nat} {v : V} (h : Fr W τ0 τ) (hs : s ∈ W) : Fr W τ0 (τ.set (pk s) v) := ⟨fun j hj => by
  rw [get_pk, if_neg (fun e : j = s => hj (e ▸ hs))]; exact h.at_ j hj⟩
theorem Fr.low {W W' : List Nat} {τ0 τ : Tr V} (h : Fr W τ0 τ) (hs : ∀ s ∈ W, s ∈ W') : Fr W' τ0 τ := ⟨fun j hj => h.at_ j (fun e => hj (hs j e))⟩
theorem Fr.trans {W : List Nat} {a b c : Tr V} (h : Fr W a b) (h' : Fr W b c) : Fr W a c := ⟨fun j hj => (h'.at_ j hj).trans (h.at_ j hj)⟩
theorem Fr.get {W : List Nat} {τ τ' : Tr V} (h : Fr W τ τ') {s : Nat} {v : V} (hs : s ∉ W) (hv : τ.get (pk s) = some v) : τ'.get (pk s) = some v := (h.at_ s hs).trans hv
theorem getD_mem {D : List Nat} {j : Nat} (h : j < D.length) : D.getD j 0 ∈ D := by
  rw [List.getD_eq_getElem?_getD, List.getElem?_eq_getElem h]; exact List.getElem_mem h

def W1 : List Nat := [12, 43, 44, 45, 46, 47, 48, 49, 50, 51, 52, 53, 54, 55, 56, 57, 58, 59]
/-- nested: the places of one selector -/
theorem nest1 {lf : Nat} {cf : CallF} {σ : H} {lv : V} {N i : Nat} {v : V} {D : List Nat} (hL : LeansOk σ lv N) (hi : i < N) (hv : UG wi σ v D) (hD : ∀ d ∈ D, d < N) (hlf : D.length < lf) (hBB : D.length < BB)
    {T : Tr V → H → Prop} (hT : ∀ τ, τ.get (pk 4) = some (.bool true) → T τ σ) {τ : Tr V} (f1 : τ.get (pk 1) = some lv) (f5 : τ.get (pk 5) = some (.int .i64 i)) (f41 : τ.get (pk 41) = some v) (f42 : τ.get (pk 42) = some (.int .i64 D.length)) (f43 : τ.get (pk 43) = some (.int .i64 0)) :
    NR (kBlk 6 (exec cf lf 63 (.loop b77_1) τ σ [])) (fun τ' σ' => σ' = σ ∧ Fr W1 τ τ') T := by
  refine range_rule (l := 44) (i := 43) (nn := 42) (k := 59) (id := 6) (id' := 7) (B := y77_1) (N := D.length)
    (fun j τ' σ' => σ' = σ ∧ Fr W1 τ τ') _ T (by decide) (by decide) (by decide) (by decide) (by decide) (by decide) (by decide) hlf (by unfold BB at hBB; omega) ?_ ?_ ?_ f43 f42
  · rintro j τ' σ' hj ⟨rfl, hF⟩ g43 g42
    have g1 := hF.get (by decide) f1
    have g5 := hF.get (by decide) f5
    have g41 := hF.get (by decide) f41
    obtain ⟨q, q1, q2⟩ := hv.elem hj
    have hk := hD _ (getD_mem hj)
    obtain ⟨p1, r, p2, bv, e1, e2, e3, e4⟩ := hL.at hk hi
    cases ee : (((D.getD j 0 : Nat) : Int) == (i : Int)) with
    | true =>
      simp only [y77_1, QA, Nat.reduceAdd, Nat.reduceLeDiff, Nat.reduceEqDiff, g1, g5, g41, g43, q1, q2, wi, ee]
      exact hT _ (by simp only [QA, Nat.reduceEqDiff])
    | false =>
      cases bv with
      | true =>
        simp only [y77_1, QA, Nat.reduceAdd, Nat.reduceLeDiff, Nat.reduceEqDiff, g1, g5, g41, g43, q1, q2, wi, ee, e1, e2, e3, e4]
        exact hT _ (by simp only [QA, Nat.reduceEqDiff])
      | false =>
        simp only [y77_1, QA, Nat.reduceAdd, Nat.reduceLeDiff, Nat.reduceEqDiff, g1, g5, g41, g42, g43, q1, q2, wi, ee, e1, e2, e3, e4]
        repeat refine Fr.set ?_ (by decide)
        exact hF
  · rintro τ' σ' ⟨rfl, hF⟩
    exact ⟨rfl, hF.set (by decide)⟩
  · exact ⟨rfl, Fr.refl _ _⟩

def W2 : List Nat := [10, 34, 35, 36, 37, 38, 39, 40, 41, 42, 60] ++ W1
/-- .. of one constructor -/
theorem nest2 {lf m : Nat} {cf : CallF} (hcf : cf = call T1 lf (m + 1)) {b σ : H} {o : Bool} {Q : Nat → Prop} {a : V} {L : List Se} {xb : Pos} {g : Sg} {lv : V} {i : Nat} (hwb : WfH b) (hKb : Keep b σ) (hB : Book b xb g) (hL : LeansOk b lv g.ds.length) (hi : i < g.ds.length) (hA : SP Ese 42 o b Q a L) (hlf : sum seSz L < lf) (hBB : sum seSz L < BB) (hm : sum seSz L ≤ m)
    {T : Tr V → H → Prop} (hT : ∀ τ σ', Keep b σ' → τ.get (pk 4) = some (.bool true) → T τ σ') {τ : Tr V} (f0 : τ.get (pk 0) = some (.ptr xb 0 0)) (f1 : τ.get (pk 1) = some lv) (f5 : τ.get (pk 5) = some (.int .i64 i)) (f32 : τ.get (pk 32) = some a) (f33 : τ.get (pk 33) = some (.int .i64 L.length)) (f34 : τ.get (pk 34) = some (.int .i64 0)) :
    NR (kBlk 4 (exec cf lf 63 (.loop b77_3) τ σ [])) (fun τ' σ' => Keep b σ' ∧ Fr W2 τ τ') T := by
  have hlen := sum_len seSz L
  refine range_rule (l := 35) (i := 34) (nn := 33) (k := 60) (id := 4) (id' := 5) (B := y77_3) (N := L.length)
    (fun j τ' σ' => Keep b σ' ∧ Fr W2 τ τ') _ T (by decide) (by decide) (by decide) (by decide) (by decide) (by decide) (by decide) (by omega) (by unfold BB at hBB; omega) ?_ ?_ ?_ f34 f33
  · rintro j τ' σ' hj ⟨hK, hF⟩ g34 g33
    have g0 := hF.get (by decide) f0
    have g1 := hF.get (by decide) f1
    have g5 := hF.get (by decide) f5
    have g32 := hF.get (by decide) f32
    obtain ⟨⟨nm, s'⟩, hs'⟩ : ∃ s', L[j]? = some s' := ⟨_, List.getElem?_eq_getElem hj⟩
    have hsz := sum_mem (f := seSz) hs'
    simp only [seSz] at hsz
    obtain ⟨q, ce, q1, q2, q3⟩ := (hA.keep hK).elem hs'
    have ql := Ese.len q3
    have qo := Ese.one q3
    have lq := q2.ldg ql
    have hw' := hK.2.2 hwb
    obtain ⟨σ3, k1, k2, k3⟩ := var_new σ' 42 5 (zs := [.str [], .int .i64 0, .int .i64 0, .str [], .nils]) rfl ql qo
    obtain ⟨d, rfl, q4⟩ := q3
    obtain ⟨q', e1, hq'⟩ := (At.var k3).fad (c := [.str nm]) (d := d) (j := 1) rfl
    have e1' : q' = .ptr σ'.nx 0 1 := by simpa [fadV] using e1.symm
    subst e1'
    have l1 := hq'.ldg q4.len
    have hw3 := k2.2.2 hw'
    obtain ⟨v', σ4, D', k4, k5, k6, k7, k8⟩ := datas_call s'.sz s' (Nat.le_refl _) (lf := lf) (m := m) (ins := true) hw3 (hB.keep hwb (hK.trans k2)) (by omega) (q4.up (k2.up _)) (by omega) (by omega) (by omega)
    have kk := hK.trans (k2.trans k5)
    rw [← hcf] at k4
    simp only [y77_3, QA, reduceCtorEq, Nat.reduceAdd, Nat.reduceLeDiff, Nat.reduceEqDiff, QZ, g0, g32, g34, q1, lq, k1, l1, k4, k6.len]
    refine NR_blk ((nest1 (i := i) (D := D') (hL.keep kk) hi k6 k7 (by omega) (by omega) (fun τ h => hT τ σ4 kk h) (by simp only [QA, Nat.reduceEqDiff, g1]) (by simp only [QA, Nat.reduceEqDiff, g5]) (by simp only [QA, Nat.reduceEqDiff]) (by simp only [QA, Nat.reduceEqDiff]) (by simp only [QA, Nat.reduceEqDiff])).mono ?_ (fun _ _ h => h))
    rintro τ2 σ5 ⟨rfl, hF2⟩
    refine ⟨hF2.get (by decide) (by simp only [QA, Nat.reduceEqDiff, g34]), hF2.get (by decide) (by simp only [QA, Nat.reduceEqDiff, g33]), kk, ?_⟩
    have hF3 := hF2.low (W' := W2) (by decide)
    refine Fr.set (Fr.set (Fr.trans ?_ hF3) (by decide)) (by decide)
    repeat refine Fr.set ?_ (by decide)
    exact hF
  · rintro τ' σ' ⟨hK, hF⟩
    exact ⟨hK, hF.set (by decide)⟩
  · exact ⟨hKb, Fr.refl _ _⟩

def W3 : List Nat := [8, 27, 28, 29, 30, 31, 32, 33, 61] ++ W2
/-- .. of one datatype -/
theorem nest3 {lf m : Nat} {cf : CallF} (hcf : cf = call T1 lf (m + 1)) {b σ : H} {o : Bool} {Q : Nat → Prop} {a : V} {L : List Co} {xb : Pos} {g : Sg} {lv : V} {i : Nat} (hwb : WfH b) (hKb : Keep b σ) (hB : Book b xb g) (hL : LeansOk b lv g.ds.length) (hi : i < g.ds.length) (hA : SP Eco 36 o b Q a L) (hlf : sum coSz L < lf) (hBB : sum coSz L < BB) (hm : sum coSz L ≤ m)
    {T : Tr V → H → Prop} (hT : ∀ τ σ', Keep b σ' → τ.get (pk 4) = some (.bool true) → T τ σ') {τ : Tr V} (f0 : τ.get (pk 0) = some (.ptr xb 0 0)) (f1 : τ.get (pk 1) = some lv) (f5 : τ.get (pk 5) = some (.int .i64 i)) (f25 : τ.get (pk 25) = some a) (f26 : τ.get (pk 26) = some (.int .i64 L.length)) (f27 : τ.get (pk 27) = some (.int .i64 0)) :
    NR (kBlk 2 (exec cf lf 63 (.loop b77_5) τ σ [])) (fun τ' σ' => Keep b σ' ∧ Fr W3 τ τ') T := by
  have hlen := sum_len coSz L
  refine range_rule (l := 28) (i := 27) (nn := 26) (k := 61) (id := 2) (id' := 3) (B := y77_5) (N := L.length)
    (fun j τ' σ' => Keep b σ' ∧ Fr W3 τ τ') _ T (by decide) (by decide) (by decide) (by decide) (by decide) (by decide) (by decide) (by omega) (by unfold BB at hBB; omega) ?_ ?_ ?_ f27 f26
  · rintro j τ' σ' hj ⟨hK, hF⟩ g27 g26
    have g0 := hF.get (by decide) f0
    have g1 := hF.get (by decide) f1
    have g5 := hF.get (by decide) f5
    have g25 := hF.get (by decide) f25
    obtain ⟨⟨nm, sels⟩, hs'⟩ : ∃ s', L[j]? = some s' := ⟨_, List.getElem?_eq_getElem hj⟩
    have hsz := sum_mem (f := coSz) hs'
    simp only [coSz] at hsz
    obtain ⟨q, ce, q1, q2, a', rfl, q3⟩ := hA.elem hs'
    simp only at q3
    have lq := (q2.keep hwb hK).ldg (n := 2) rfl
    have hw' := hK.2.2 hwb
    obtain ⟨σ3, k1, k2, k3⟩ := var_new σ' 36 2 (zs := [.str [], .nils]) (c := [.str nm, a']) rfl rfl (by rw [List.all_cons, List.all_cons, q3.one]; rfl)
    have lb : ldv σ3 (.ptr σ'.nx 0 1) = some a' := ldk k3 rfl
    simp only [y77_5, QA, Nat.reduceAdd, Nat.reduceLeDiff, Nat.reduceEqDiff, QZ, g25, g27, q1, lq, k1, lb, q3.len]
    refine NR_blk ((nest2 (m := m) (i := i) hcf hwb (hK.trans k2) hB hL hi q3 (by omega) (by omega) (by omega) hT (by simp only [QA, reduceCtorEq, g0]) (by simp only [QA, Nat.reduceEqDiff, g1]) (by simp only [QA, Nat.reduceEqDiff, g5]) (by simp only [QA, Nat.reduceEqDiff]) (by simp only [QA, Nat.reduceEqDiff]) (by simp only [QA, Nat.reduceEqDiff])).mono ?_ (fun _ _ h => h))
    rintro τ2 σ5 ⟨hK5, hF2⟩
    refine ⟨hF2.get (by decide) (by simp only [QA, Nat.reduceEqDiff, g27]), hF2.get (by decide) (by simp only [QA, Nat.reduceEqDiff, g26]), hK5, ?_⟩
    have hF3 := hF2.low (W' := W3) (by decide)
    refine Fr.set (Fr.set (Fr.trans ?_ hF3) (by decide)) (by decide)
    repeat refine Fr.set ?_ (by decide)
    exact hF
  · rintro τ' σ' ⟨hK, hF⟩
    exact ⟨hK, hF.set (by decide)⟩
  · exact ⟨hKb, Fr.refl _ _⟩

def W4 : List Nat := [5, 6, 19, 20, 21, 22, 23, 24, 25, 26, 62] ++ W3
theorem c77_at : T1.code 77 = some c77 := by kernel_rfl
/-- nested -/
theorem nested_call {lf m : Nat} {σ : H} {xb : Pos} {g : Sg} {lv : V} (hw : WfH σ) (hB : Book σ xb g) (hL : LeansOk σ lv g.ds.length) (hlf : sum daSz g.ds < lf) (hBB : sum daSz g.ds < BB) (hm : sum daSz g.ds ≤ m) :
    ∃ v σ', call T1 lf (m + 2) 77 [.ptr xb 0 0, lv] σ = .ret v σ' ∧ Keep σ σ' ∧ ∃ b, v = .bool b := by
  have hlen := sum_len daSz g.ds
  refine call_rt1 (p := pk 4) rfl c77_at (by simp [c77]) rfl fun cf hcf => ?_
  generalize hτ : bindArgs [.ptr xb 0 0, lv] .h .lf = τ0
  have h0 : τ0.get (pk 0) = some (.ptr xb 0 0) := by rw [← hτ]; rfl
  have h1 : τ0.get (pk 1) = some lv := by rw [← hτ]; rfl
  clear hτ
  obtain ⟨u, d, f, xm, hb1, hb2, hb3⟩ := id hB
  obtain ⟨_, _, _, he, _, hsd, _⟩ := hb2
  simp only [List.cons.injEq, and_true] at he
  obtain ⟨rfl, rfl, rfl⟩ := he
  have ld1 : ldv σ (.ptr xb 0 1) = some d := ldk hb1 rfl
  have hdl := hsd.len
  simp only [c77, QA, reduceCtorEq, Nat.reduceAdd, Nat.reduceLeDiff, Nat.reduceEqDiff, QZ, h0, ld1, hdl]
  refine Rt_seqNR (range_rule (l := 20) (i := 19) (nn := 18) (k := 62) (id := 0) (id' := 1) (B := y77_7) (N := g.ds.length)
    (fun j τ σ' => Keep σ σ' ∧ τ.get (pk 0) = some (.ptr xb 0 0) ∧ τ.get (pk 1) = some lv ∧ τ.get (pk 17) = some d)
    (fun τ σ' => Keep σ σ') _ (by decide) (by decide) (by decide) (by decide) (by decide) (by decide) (by decide) (by omega) (by unfold BB at hBB; omega) ?_ ?_ ?_ ?_ ?_) ?_
  · rintro j τ σ' hj ⟨hK, g0, g1, g17⟩ g19 g18
    obtain ⟨⟨nm, cons⟩, hs'⟩ : ∃ s', g.ds[j]? = some s' := ⟨_, List.getElem?_eq_getElem hj⟩
    have hsz := sum_mem (f := daSz) hs'
    simp only [daSz] at hsz
    obtain ⟨q, ce, q1, q2, a', rfl, q3⟩ := hsd.elem hs'
    simp only at q3
    have lq := (q2.keep hw hK).ldg (n := 2) rfl
    have hw' := hK.2.2 hw
    obtain ⟨σ3, k1, k2, k3⟩ := var_new σ' 33 2 (zs := [.str [], .nils]) (c := [.str nm, a']) rfl rfl (by rw [List.all_cons, List.all_cons, q3.one]; rfl)
    have lb : ldv σ3 (.ptr σ'.nx 0 1) = some a' := ldk k3 rfl
    simp only [y77_7, QA, reduceCtorEq, Nat.reduceAdd, Nat.reduceLeDiff, Nat.reduceEqDiff, QZ, g17, g19, q1, lq, k1, lb, q3.len]
    refine NR_blk ((nest3 (m := m) (i := j) hcf hw (hK.trans k2) hB hL hj q3 (by omega) (by omega) (by omega) (fun τ σ' h1 h2 => ⟨_, h2, h1, _, rfl⟩) (by simp only [QA, reduceCtorEq, g0]) (by simp only [QA, Nat.reduceEqDiff, g1]) (by simp only [QA, Nat.reduceEqDiff]) (by simp only [QA, Nat.reduceEqDiff]) (by simp only [QA, Nat.reduceEqDiff]) (by simp only [QA, Nat.reduceEqDiff])).mono ?_ (fun _ _ h => h))
    rintro τ2 σ5 ⟨hK5, hF2⟩
    have r0 := hF2.get (s := 0) (v := .ptr xb 0 0) (by decide) (by simp only [QA, reduceCtorEq, g0])
    have r1 := hF2.get (s := 1) (v := lv) (by decide) (by simp only [QA, Nat.reduceEqDiff, g1])
    have r17 := hF2.get (s := 17) (v := d) (by decide) (by simp only [QA, Nat.reduceEqDiff, g17])
    have r19 := hF2.get (s := 19) (v := .int .i64 j) (by decide) (by simp only [QA, Nat.reduceEqDiff, g19])
    have r18 := hF2.get (s := 18) (v := .int .i64 g.ds.length) (by decide) (by simp only [QA, Nat.reduceEqDiff, g18])
    exact ⟨r19, r18, hK5, by simp only [r0], by simp only [r1], by simp only [r17]⟩
  · rintro τ σ' ⟨hK, _⟩
    exact hK
  · exact ⟨Keep.refl _, by simp only [QA, reduceCtorEq, h0], by simp only [QA, Nat.reduceEqDiff, h1], by simp only [QA, Nat.reduceEqDiff]⟩
  · simp only [QA, Nat.reduceEqDiff]
  · simp only [QA, Nat.reduceEqDiff]
  · rintro τ σ' hK
    simp only [QA, Nat.reduceAdd, Nat.reduceLeDiff]
    exact ⟨hK, _, rfl⟩
end Go.Proofs.YtfgghbikbaopjaaGreatDoorEng

