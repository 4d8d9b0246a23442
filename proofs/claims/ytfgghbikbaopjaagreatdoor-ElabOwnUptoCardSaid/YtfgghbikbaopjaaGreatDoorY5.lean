/- Symbolic runs: the reference's Same, sameData, SameSig, of what is the same. (Numbers of seat r3.) -/
/- Symbolic runs: the reference's SameSig, of what is the same. (Numbers of seat r3.) -/
/- Symbolic runs: the law's declared. (Numbers of seat r3.) -/
/- Symbolic runs: the law's writes into what it was told. (Numbers of seat r3.) -/
/- Symbolic runs: the law ElabOwn. (Numbers of seat r3.) -/
import Derived.Test.YtfgghbikbaopjaaGreatDoorY4
namespace Go.Proofs.YtfgghbikbaopjaaGreatDoorEng
open Go
set_option maxRecDepth 100000
set_option linter.unusedSimpArgs false

theorem e_neqs (q : EqT) (s : List Nat) : kBin .neq q (some (.str s)) (some (.str s)) = some (.bool false) := by
  rw [e_str_neq, natEq_self]; rfl
theorem NXT_inR {cf : CallF} {lf n id j : Nat} {b : CC} {r : R} {N A X T : Tr V → H → Prop} (h : NR r N T) (k : ∀ τ σ, N τ σ → NXT id (exec cf lf n b τ σ []) A X T) : NXT id (kSeq cf lf n b (kBlk j r)) A X T := by
  rcases h.elim with ⟨τ, σ, rfl, hN⟩ | ⟨τ, σ, rfl, hT⟩
  · exact k τ σ hN
  · exact ⟨rfl, hT⟩
theorem c33_at : T1.code 33 = some c33 := by kernel_rfl
/-- Same -/
theorem same_call : ∀ (n : Nat) (s : S), s.sz ≤ n → ∀ {lf m : Nat} {σ : H} {o o' : Bool} {Q Q' : Nat → Prop} {c c' : List V}, WfH σ → SortIs σ o Q c s → SortIs σ o' Q' c' s → s.sz < lf → s.sz < BB → n ≤ m →
    ∃ σ', call T1 lf (m + 1) 33 [.agg c, .agg c'] σ = .ret (.bool true) σ' ∧ Keep σ σ' := by
  intro n
  induction n with
  | zero => intro s hs; cases s with | mk => simp [S.sz] at hs
  | succ n ih =>
    intro s hs lf m σ o o' Q Q' c c' hw hS hS' hlf hBB hm
    obtain ⟨m, rfl⟩ : ∃ m', m = m' + 1 := ⟨m - 1, by omega⟩
    obtain ⟨k, w, nm, a, args, rfl, rfl, hA⟩ := hS.inv
    obtain ⟨k', w', nm', a', args', rfl, e, hA'⟩ := hS'.inv
    cases e
    simp only [S.sz] at hs hlf hBB
    have hlen := S.szL_len args
    have key : ∃ v σ', call T1 lf (m + 2) 33 [.agg [.int .i64 k, .int .i64 w, .str nm, a], .agg [.int .i64 k, .int .i64 w, .str nm, a']] σ = .ret v σ' ∧ (Keep σ σ' ∧ v = .bool true) := by
      refine call_rt1 (p := pk 4) rfl c33_at (by simp [c33]) rfl fun cf hcf => ?_
      generalize hτ : bindArgs [.agg [.int .i64 k, .int .i64 w, .str nm, a], .agg [.int .i64 k, .int .i64 w, .str nm, a']] .h .lf = τ0
      have h0 : τ0.get (pk 0) = some (.agg [.int .i64 k, .int .i64 w, .str nm, a]) := by rw [← hτ]; rfl
      have h1 : τ0.get (pk 1) = some (.agg [.int .i64 k, .int .i64 w, .str nm, a']) := by rw [← hτ]; rfl
      clear hτ
      have hKa := Keep.new σ (.cells 40 [.int .i64 k, .int .i64 w, .str nm, a] 0 0 (some 0) [])
      have ga := (Keep.refl (σ.new (.cells 40 [.int .i64 k, .int .i64 w, .str nm, a] 0 0 (some 0) []))).at
      have hw1 := hKa.2.2 hw
      generalize hσ1 : σ.new (.cells 40 [.int .i64 k, .int .i64 w, .str nm, a] 0 0 (some 0) []) = σ1 at *
      have hKb := Keep.new σ1 (.cells 40 [.int .i64 k, .int .i64 w, .str nm, a'] 0 0 (some 0) [])
      have gb := (Keep.refl (σ1.new (.cells 40 [.int .i64 k, .int .i64 w, .str nm, a'] 0 0 (some 0) []))).at
      have hw2 := hKb.2.2 hw1
      generalize hσ2 : σ1.new (.cells 40 [.int .i64 k, .int .i64 w, .str nm, a'] 0 0 (some 0) []) = σ2 at *
      have ga2 := hKb.get_some hw1 ga
      have hKab := hKa.trans hKb
      have hA2 := hA.keep hKab
      have hA2' := hA'.keep hKab
      have l0 : ldv σ2 (.ptr σ.nx 0 0) = some (.int .i64 k) := ldk ga2 rfl
      have l1 : ldv σ2 (.ptr σ.nx 0 1) = some (.int .i64 w) := ldk ga2 rfl
      have l2 : ldv σ2 (.ptr σ.nx 0 2) = some (.str nm) := ldk ga2 rfl
      have l3 : ldv σ2 (.ptr σ.nx 0 3) = some a := ldk ga2 rfl
      have m0 : ldv σ2 (.ptr σ1.nx 0 0) = some (.int .i64 k) := ldk gb rfl
      have m1 : ldv σ2 (.ptr σ1.nx 0 1) = some (.int .i64 w) := ldk gb rfl
      have m2 : ldv σ2 (.ptr σ1.nx 0 2) = some (.str nm) := ldk gb rfl
      have m3 : ldv σ2 (.ptr σ1.nx 0 3) = some a' := ldk gb rfl
      have en := fun q => e_neqs q nm
      simp only [c33, QA, Nat.reduceAdd, Nat.reduceLeDiff, Nat.reduceEqDiff, QZ, e_box, h0, h1, hσ1, hσ2, l0, l1, l2, l3, m0, m1, m2, m3, natEq_self, hA2.len, hA2'.len]
      refine Rt_seqNR (loop_rule (fun kk τ σ' => ∃ j, j ≤ args.length ∧ kk = args.length - j ∧ Keep σ2 σ' ∧ τ.get (pk 2) = some (.ptr σ.nx 0 0) ∧ τ.get (pk 3) = some (.ptr σ1.nx 0 0) ∧ τ.get (pk 5) = some (.int .i64 (j : Nat)))
        (fun τ σ' => Keep σ2 σ') _ ?_ (k := args.length) (by omega) ?_) ?_
      · rintro kk τ σ' ⟨j, hj, rfl, hK, g2, g3, g5⟩
        have hw' := hK.2.2 hw2
        have l3' : ldv σ' (.ptr σ.nx 0 3) = some a := ldk (hK.get_some hw2 ga2) rfl
        have m3' : ldv σ' (.ptr σ1.nx 0 3) = some a' := ldk (hK.get_some hw2 gb) rfl
        have al := (hA2.keep hK).len
        by_cases hlt : j < args.length
        · have d1 := lt_true hlt
          obtain ⟨s', hs'⟩ : ∃ s', args[j]? = some s' := ⟨_, List.getElem?_eq_getElem hlt⟩
          have hsz := S.szL_mem hs'
          obtain ⟨q, ce, q1, q2, q3⟩ := (hA2.keep hK).elem hs'
          have q3 : SortIs σ' o Q ce s' := q3
          have lq := q2.ldg q3.len
          obtain ⟨r, cr, r1, r2, r3⟩ := (hA2'.keep hK).elem hs'
          have r3 : SortIs σ' o' Q' cr s' := r3
          have lr := r2.ldg r3.len
          obtain ⟨σ4, k4, k5⟩ := ih s' (by omega) (lf := lf) (m := m) hw' q3 r3 (by omega) (by omega) (by omega)
          have wi : IntKind.i64.wrap ((j : Int) + 1) = ((j + 1 : Nat) : Int) := wrap_add1 (by unfold BB at hBB; omega)
          rw [← hcf] at k4
          simp only [b33_0, x33_0, QA, Nat.reduceAdd, Nat.reduceLeDiff, Nat.reduceEqDiff, QD, QZ, g2, g3, g5, l3', m3', al, d1, q1, lq, r1, lr, k4, wi, List.all_nil]
          exact ⟨args.length - (j + 1), by omega, j + 1, by omega, rfl, hK.trans k5, rfl⟩
        · have d1 := lt_false hlt
          simp only [b33_0, QA, Nat.reduceAdd, Nat.reduceLeDiff, Nat.reduceEqDiff, QZ, g2, g5, l3', al, d1]
          exact hK
      · exact ⟨0, Nat.zero_le _, rfl, Keep.refl _, by simp only [QA, Nat.reduceEqDiff], by simp only [QA, Nat.reduceEqDiff], by simp only [QA, Nat.reduceEqDiff]; rfl⟩
      · rintro τ σ' hK
        simp only [QA, Nat.reduceAdd, Nat.reduceLeDiff]
        exact hKab.trans hK
    obtain ⟨v, σ', h1, h2, rfl⟩ := key
    exact ⟨σ', h1, h2⟩

/-- two variables made, then written -/
theorem two_vars (σ : H) (ty n : Nat) {zs c d : List V} (hz : zs.length = n) (hc : c.length = n) (hd : d.length = n) (h1 : c.all V.one = true) (h2 : d.all V.one = true) :
    ∃ h1 h2 : H, stV ((σ.new (.cells ty zs 0 0 (some 0) [])).new (.cells ty zs 0 0 (some 0) [])) n (.ptr σ.nx 0 0) (.agg c) = .ok undefV h1 ∧ stV h1 n (.ptr (σ.new (.cells ty zs 0 0 (some 0) [])).nx 0 0) (.agg d) = .ok undefV h2 ∧
      Keep σ ((σ.new (.cells ty zs 0 0 (some 0) [])).new (.cells ty zs 0 0 (some 0) [])) ∧ Keep σ h1 ∧ Keep σ h2 ∧ h2.get σ.nx = some (.cells ty c 0 0 (some 0) []) ∧ h2.get (σ.new (.cells ty zs 0 0 (some 0) [])).nx = some (.cells ty d 0 0 (some 0) []) := by
  have hn : σ.nx.toNat < (σ.new (.cells ty zs 0 0 (some 0) [])).nx.toNat := by rw [nx_new]; omega
  have hn2 : (σ.new (.cells ty zs 0 0 (some 0) [])).nx.toNat < ((σ.new (.cells ty zs 0 0 (some 0) [])).new (.cells ty zs 0 0 (some 0) [])).nx.toNat := by rw [nx_new (σ.new (.cells ty zs 0 0 (some 0) []))]; omega
  have k0 := (Keep.new σ (.cells ty zs 0 0 (some 0) [])).trans (Keep.new _ (.cells ty zs 0 0 (some 0) []))
  have g1 : ((σ.new (.cells ty zs 0 0 (some 0) [])).new (.cells ty zs 0 0 (some 0) [])).get σ.nx = some (.cells ty zs 0 0 (some 0) []) := by
    rw [(Keep.new _ _).get hn, H.get_new, if_pos rfl]
  have s1 := var_put g1 hz hc h1
  have hne : (σ.new (.cells ty zs 0 0 (some 0) [])).nx ≠ σ.nx := by intro e; rw [e] at hn; omega
  have g2 : (((σ.new (.cells ty zs 0 0 (some 0) [])).new (.cells ty zs 0 0 (some 0) [])).put σ.nx (.cells ty c 0 0 (some 0) [])).get (σ.new (.cells ty zs 0 0 (some 0) [])).nx = some (.cells ty zs 0 0 (some 0) []) := by
    rw [H.get_put, if_neg hne, H.get_new, if_pos rfl]
  have s2 := var_put g2 hz hd h2
  have k1 := k0.put (Nat.le_refl _) (Nat.lt_trans hn hn2) (.cells ty c 0 0 (some 0) [])
  refine ⟨_, _, s1, s2, k0, k1, k1.put (Nat.le_of_lt hn) (by rw [nx_put]; exact hn2) _, ?_, by rw [H.get_put, if_pos rfl]⟩
  rw [H.get_put, if_neg (fun e => hne e.symm), H.get_put, if_pos rfl]

theorem c32_at : T1.code 32 = some c32 := by kernel_rfl
/-- the selectors of a constructor -/
theorem sameSels {lf m : Nat} {cf : CallF} (hcf : cf = call T1 lf (m + 1)) {b σ : H} {o o' : Bool} {Q Q' : Nat → Prop} {nm : List Nat} {a a' : V} {L : List Se} {x6 x7 : Pos} (hwb : WfH b) (hKb : Keep b σ) (hA : SP Ese 42 o b Q a L) (hA' : SP Ese 42 o' b Q' a' L) (h6 : σ.get x6 = some (.cells 36 [.str nm, a] 0 0 (some 0) [])) (h7 : σ.get x7 = some (.cells 36 [.str nm, a'] 0 0 (some 0) []))
    (hlf : sum seSz L < lf) (hBB : sum seSz L < BB) (hm : sum seSz L ≤ m) {T : Tr V → H → Prop} {τ : Tr V} {v2 v3 v5 : V} (f2 : τ.get (pk 2) = some v2) (f3 : τ.get (pk 3) = some v3) (f5 : τ.get (pk 5) = some v5) (f6 : τ.get (pk 6) = some (.ptr x6 0 0)) (f7 : τ.get (pk 7) = some (.ptr x7 0 0)) (f8 : τ.get (pk 8) = some (.int .i64 0)) :
    NR (kBlk 2 (exec cf lf 90 (.loop b32_0) τ σ [])) (fun τ' σ' => Keep b σ' ∧ τ'.get (pk 2) = some v2 ∧ τ'.get (pk 3) = some v3 ∧ τ'.get (pk 5) = some v5) T := by
  have hlen := sum_len seSz L
  have hwσ := hKb.2.2 hwb
  refine loop_rule (fun kk τ σ' => ∃ j, j ≤ L.length ∧ kk = L.length - j ∧ Keep σ σ' ∧ τ.get (pk 2) = some v2 ∧ τ.get (pk 3) = some v3 ∧ τ.get (pk 5) = some v5 ∧ τ.get (pk 6) = some (.ptr x6 0 0) ∧ τ.get (pk 7) = some (.ptr x7 0 0) ∧ τ.get (pk 8) = some (.int .i64 (j : Nat))) _ T ?_ (k := L.length) (by omega) ⟨0, Nat.zero_le _, rfl, Keep.refl _, f2, f3, f5, f6, f7, f8⟩
  rintro kk τ σ' ⟨j, hj, rfl, hK, g2, g3, g5, g6, g7, g8⟩
  have hKb' := hKb.trans hK
  have hw' := hK.2.2 hwσ
  have l6 : ldv σ' (.ptr x6 0 1) = some a := ldk (hK.get_some hwσ h6) rfl
  have l7 : ldv σ' (.ptr x7 0 1) = some a' := ldk (hK.get_some hwσ h7) rfl
  have al := hA.len
  by_cases hlt : j < L.length
  · have d1 := lt_true hlt
    obtain ⟨⟨nm', s'⟩, hs'⟩ : ∃ s', L[j]? = some s' := ⟨_, List.getElem?_eq_getElem hlt⟩
    have hsz := sum_mem (f := seSz) hs'
    simp only [seSz] at hsz
    obtain ⟨q, ce, q1, q2, d, rfl, q3⟩ := (hA.keep hKb').elem hs'
    obtain ⟨r, cr, r1, r2, d', rfl, r3⟩ := (hA'.keep hKb').elem hs'
    simp only at q3 r3
    have ln := q2.ldv
    have rn := r2.ldv
    obtain ⟨q', e1, hq'⟩ := q2.fad (c := [.str nm']) (d := d) (j := 1) rfl
    obtain ⟨r', e2, hr'⟩ := r2.fad (c := [.str nm']) (d := d') (j := 1) rfl
    obtain ⟨q0, e3, hq0⟩ := q2.fad (c := []) (d := .str nm' :: d) (j := 0) rfl
    obtain ⟨r0, e4, hr0⟩ := r2.fad (c := []) (d := .str nm' :: d') (j := 0) rfl
    have ln0 := hq0.ldv
    have rn0 := hr0.ldv
    have lq := hq'.ldg q3.len
    have lr := hr'.ldg r3.len
    obtain ⟨σ4, k4, k5⟩ := same_call s'.sz s' (Nat.le_refl _) (lf := lf) (m := m) hw' q3 r3 (by omega) (by omega) (by omega)
    have wi : IntKind.i64.wrap ((j : Int) + 1) = ((j + 1 : Nat) : Int) := wrap_add1 (by unfold BB at hBB; omega)
    rw [← hcf] at k4
    simp only [b32_0, x32_0, QA, Nat.reduceAdd, Nat.reduceLeDiff, Nat.reduceEqDiff, QD, QZ, g2, g3, g5, g6, g7, g8, l6, l7, al, d1, q1, r1, e1, e2, e3, e4, ln0, rn0, natEq_self, lq, lr, k4, wi, List.all_nil]
    exact ⟨L.length - (j + 1), by omega, j + 1, by omega, rfl, hK.trans k5, rfl⟩
  · have d1 := lt_false hlt
    simp only [b32_0, QA, Nat.reduceAdd, Nat.reduceLeDiff, Nat.reduceEqDiff, QZ, g2, g3, g5, g6, g8, l6, al, d1]
    exact hKb'
/-- sameData -/
theorem sameData_call {x : Da} {lf m : Nat} {σ : H} {o o' : Bool} {Q Q' : Nat → Prop} {c c' : List V} (hw : WfH σ) (hS : Eda.P o σ Q c x) (hS' : Eda.P o' σ Q' c' x) (hlf : daSz x < lf) (hBB : daSz x < BB) (hm : daSz x ≤ m) :
    ∃ σ', call T1 lf (m + 2) 32 [.agg c, .agg c'] σ = .ret (.bool true) σ' ∧ Keep σ σ' := by
  obtain ⟨nm, cons⟩ := x
  obtain ⟨a, rfl, hA⟩ := hS
  obtain ⟨a', rfl, hA'⟩ := hS'
  simp only at hA hA'
  simp only [daSz] at hlf hBB hm
  have hlen := sum_len coSz cons
  have key : ∃ v σ', call T1 lf (m + 2) 32 [.agg [.str nm, a], .agg [.str nm, a']] σ = .ret v σ' ∧ (Keep σ σ' ∧ v = .bool true) := by
    refine call_rt1 (p := pk 4) rfl c32_at (by simp [c32]) rfl fun cf hcf => ?_
    generalize hτ : bindArgs [.agg [.str nm, a], .agg [.str nm, a']] .h .lf = τ0
    have h0 : τ0.get (pk 0) = some (.agg [.str nm, a]) := by rw [← hτ]; rfl
    have h1 : τ0.get (pk 1) = some (.agg [.str nm, a']) := by rw [← hτ]; rfl
    clear hτ
    have hKa := Keep.new σ (.cells 33 [.str nm, a] 0 0 (some 0) [])
    have ga := (Keep.refl (σ.new (.cells 33 [.str nm, a] 0 0 (some 0) []))).at
    have hw1 := hKa.2.2 hw
    generalize hσ1 : σ.new (.cells 33 [.str nm, a] 0 0 (some 0) []) = σ1 at *
    have hKb := Keep.new σ1 (.cells 33 [.str nm, a'] 0 0 (some 0) [])
    have gb := (Keep.refl (σ1.new (.cells 33 [.str nm, a'] 0 0 (some 0) []))).at
    have hw2 := hKb.2.2 hw1
    generalize hσ2 : σ1.new (.cells 33 [.str nm, a'] 0 0 (some 0) []) = σ2 at *
    have ga2 := hKb.get_some hw1 ga
    have hKab := hKa.trans hKb
    have hA2 := hA.keep hKab
    have hA2' := hA'.keep hKab
    have l0 : ldv σ2 (.ptr σ.nx 0 0) = some (.str nm) := ldk ga2 rfl
    have l1 : ldv σ2 (.ptr σ.nx 0 1) = some a := ldk ga2 rfl
    have m0 : ldv σ2 (.ptr σ1.nx 0 0) = some (.str nm) := ldk gb rfl
    have m1 : ldv σ2 (.ptr σ1.nx 0 1) = some a' := ldk gb rfl
    simp only [c32, QA, Nat.reduceAdd, Nat.reduceLeDiff, Nat.reduceEqDiff, QZ, e_box, h0, h1, hσ1, hσ2, l0, l1, m0, m1, natEq_self, hA2.len, hA2'.len]
    refine Rt_seqNR (loop_rule (fun kk τ σ' => ∃ j, j ≤ cons.length ∧ kk = cons.length - j ∧ Keep σ2 σ' ∧ τ.get (pk 2) = some (.ptr σ.nx 0 0) ∧ τ.get (pk 3) = some (.ptr σ1.nx 0 0) ∧ τ.get (pk 5) = some (.int .i64 (j : Nat)))
      (fun τ σ' => Keep σ2 σ') _ ?_ (k := cons.length) (by omega) ?_) ?_
    · rintro kk τ σ' ⟨j, hj, rfl, hK, g2, g3, g5⟩
      have hw' := hK.2.2 hw2
      have l1' : ldv σ' (.ptr σ.nx 0 1) = some a := ldk (hK.get_some hw2 ga2) rfl
      have gb' := hK.get_some hw2 gb
      have m1' : ldv σ' (.ptr σ1.nx 0 1) = some a' := ldk gb' rfl
      have al := (hA2.keep hK).len
      by_cases hlt : j < cons.length
      · have d1 := lt_true hlt
        obtain ⟨⟨nm', sels⟩, hs'⟩ : ∃ s', cons[j]? = some s' := ⟨_, List.getElem?_eq_getElem hlt⟩
        have hsz := sum_mem (f := coSz) hs'
        simp only [coSz] at hsz
        obtain ⟨q, ce, q1, q2, b1, rfl, q3⟩ := hA2.elem hs'
        obtain ⟨r, cr, r1, r2, b2, rfl, r3⟩ := hA2'.elem hs'
        simp only at q3 r3
        have lq := (q2.keep hw2 hK).ldg (n := 2) rfl
        have r2' := r2.keep hw2 hK
        have lr := r2'.ldg (n := 2) rfl
        obtain ⟨τ1, τ2, s1, s2, s3, s4, s5, s6, s7⟩ := two_vars σ' 36 2 (zs := [.str [], .nils]) (c := [.str nm', b1]) (d := [.str nm', b2]) rfl rfl rfl (by rw [List.all_cons, List.all_cons, q3.one]; rfl) (by rw [List.all_cons, List.all_cons, r3.one]; rfl)
        have n6 : ldv τ2 (.ptr σ'.nx 0 0) = some (.str nm') := ldk s6 rfl
        have a6 : ldv τ2 (.ptr σ'.nx 0 1) = some b1 := ldk s6 rfl
        generalize hxn : (σ'.new (.cells 36 [.str [], .nils] 0 0 (some 0) [])).nx = xn at *
        have n7 : ldv τ2 (.ptr xn 0 0) = some (.str nm') := ldk s7 rfl
        have a7 : ldv τ2 (.ptr xn 0 1) = some b2 := ldk s7 rfl
        have wi : IntKind.i64.wrap ((j : Int) + 1) = ((j + 1 : Nat) : Int) := wrap_add1 (by unfold BB at hBB; omega)
        simp only [b32_1, x32_1, QA, Nat.reduceAdd, Nat.reduceLeDiff, Nat.reduceEqDiff, QD, QZ, w_1l, w_1g, w_1gk, g2, g3, g5, l1', m1', al, d1, q1, lq, r1, lr, hxn, s1, s2, ne_eq, not_false_eq_true, Nat.zero_ne_one]
        rw [if_pos]
        · simp only [QA, Nat.reduceAdd, Nat.reduceLeDiff, Nat.reduceEqDiff, QZ, n6, n7, a6, a7, natEq_self, q3.len, r3.len]
          refine NXT_inR (sameSels (m := m) (nm := nm') (L := sels) (v2 := .ptr σ.nx 0 0) (v3 := .ptr σ1.nx 0 0) (v5 := .int .i64 (j : Nat)) hcf hw2 (hK.trans s5) q3 r3 s6 s7 (by omega) (by omega) (by omega) (by simp only [QA, Nat.reduceEqDiff, g2]) (by simp only [QA, Nat.reduceEqDiff, g3]) (by simp only [QA, Nat.reduceEqDiff, g5]) (by simp only [QA, Nat.reduceEqDiff]) (by simp only [QA, Nat.reduceEqDiff]) (by simp only [QA, Nat.reduceEqDiff])) ?_
          rintro τ3 σ5 ⟨t1, t2, t3, t5⟩
          simp only [QA, Nat.reduceAdd, Nat.reduceLeDiff, Nat.reduceEqDiff, t2, t3, t5, wi]
          exact ⟨cons.length - (j + 1), by omega, j + 1, by omega, rfl, t1, rfl⟩
        · rw [owe_at r2' hw', owe_keepR gb' hw']
          · rfl
          all_goals
            intro s h
            simp only [List.reverse_cons, List.reverse_nil, List.nil_append, List.cons_append, List.drop_zero, List.take_succ_cons, List.take_zero, List.mem_cons, List.not_mem_nil, or_false] at h
            rcases h with rfl | rfl
            · exact s3
            · exact s4
      · have d1 := lt_false hlt
        simp only [b32_1, QA, Nat.reduceAdd, Nat.reduceLeDiff, Nat.reduceEqDiff, QZ, g2, g5, l1', al, d1]
        exact hK
    · exact ⟨0, Nat.zero_le _, rfl, Keep.refl _, by simp only [QA, Nat.reduceEqDiff], by simp only [QA, Nat.reduceEqDiff], by simp only [QA, Nat.reduceEqDiff]; rfl⟩
    · rintro τ σ' hK
      simp only [QA, Nat.reduceAdd, Nat.reduceLeDiff]
      exact hKab.trans hK
  obtain ⟨v, σ', h1, h2, rfl⟩ := key
  exact ⟨σ', h1, h2⟩
end Go.Proofs.YtfgghbikbaopjaaGreatDoorEng

namespace Go.Proofs.YtfgghbikbaopjaaGreatDoorEng
open Go
set_option maxRecDepth 100000
set_option linter.unusedSimpArgs false

/-- the sorts of a function -/
theorem sameArgs {lf m : Nat} {cf : CallF} (hcf : cf = call T1 lf (m + 1)) {b σ : H} {o o' : Bool} {Q Q' : Nat → Prop} {nm nm' : List Nat} {a a' : V} {d d' : List V} {L : List So} {x8 x9 : Pos} (hwb : WfH b) (hKb : Keep b σ) (hA : SP Eso 40 o b Q a L) (hA' : SP Eso 40 o' b Q' a' L) (h8 : σ.get x8 = some (.cells 44 (.str nm :: a :: d) 0 0 (some 0) [])) (h9 : σ.get x9 = some (.cells 44 (.str nm' :: a' :: d') 0 0 (some 0) []))
    (hlf : S.szL L < lf) (hBB : S.szL L < BB) (hm : S.szL L ≤ m) {T : Tr V → H → Prop} {τ : Tr V} {v2 v3 v7 : V} (f2 : τ.get (pk 2) = some v2) (f3 : τ.get (pk 3) = some v3) (f7 : τ.get (pk 7) = some v7) (f8 : τ.get (pk 8) = some (.ptr x8 0 0)) (f9 : τ.get (pk 9) = some (.ptr x9 0 0)) (f10 : τ.get (pk 10) = some (.int .i64 0)) :
    NR (kBlk 6 (exec cf lf 131 (.loop b9_2) τ σ [])) (fun τ' σ' => Keep b σ' ∧ τ'.get (pk 2) = some v2 ∧ τ'.get (pk 3) = some v3 ∧ τ'.get (pk 7) = some v7) T := by
  have hlen := S.szL_len L
  have hwσ := hKb.2.2 hwb
  refine loop_rule (fun kk τ σ' => ∃ j, j ≤ L.length ∧ kk = L.length - j ∧ Keep σ σ' ∧ τ.get (pk 2) = some v2 ∧ τ.get (pk 3) = some v3 ∧ τ.get (pk 7) = some v7 ∧ τ.get (pk 8) = some (.ptr x8 0 0) ∧ τ.get (pk 9) = some (.ptr x9 0 0) ∧ τ.get (pk 10) = some (.int .i64 (j : Nat))) _ T ?_ (k := L.length) (by omega) ⟨0, Nat.zero_le _, rfl, Keep.refl _, f2, f3, f7, f8, f9, f10⟩
  rintro kk τ σ' ⟨j, hj, rfl, hK, g2, g3, g7, g8, g9, g10⟩
  have hKb' := hKb.trans hK
  have hw' := hK.2.2 hwσ
  have l8 : ldv σ' (.ptr x8 0 1) = some a := ldk (hK.get_some hwσ h8) rfl
  have l9 : ldv σ' (.ptr x9 0 1) = some a' := ldk (hK.get_some hwσ h9) rfl
  have al := hA.len
  by_cases hlt : j < L.length
  · have d1 := lt_true hlt
    obtain ⟨s', hs'⟩ : ∃ s', L[j]? = some s' := ⟨_, List.getElem?_eq_getElem hlt⟩
    have hsz := S.szL_mem hs'
    obtain ⟨q, ce, q1, q2, q3⟩ := (hA.keep hKb').elem hs'
    obtain ⟨r, cr, r1, r2, r3⟩ := (hA'.keep hKb').elem hs'
    have q3 : SortIs σ' o Q ce s' := q3
    have r3 : SortIs σ' o' Q' cr s' := r3
    have lq := q2.ldg q3.len
    have lr := r2.ldg r3.len
    obtain ⟨σ4, k4, k5⟩ := same_call s'.sz s' (Nat.le_refl _) (lf := lf) (m := m) hw' q3 r3 (by omega) (by omega) (by omega)
    have wi : IntKind.i64.wrap ((j : Int) + 1) = ((j + 1 : Nat) : Int) := wrap_add1 (by unfold BB at hBB; omega)
    rw [← hcf] at k4
    simp only [b9_2, x9_2, QA, Nat.reduceAdd, Nat.reduceLeDiff, Nat.reduceEqDiff, QD, QZ, g2, g3, g7, g8, g9, g10, l8, l9, al, d1, q1, r1, lq, lr, k4, wi, List.all_nil]
    exact ⟨L.length - (j + 1), by omega, j + 1, by omega, rfl, hK.trans k5, rfl⟩
  · have d1 := lt_false hlt
    simp only [b9_2, QA, Nat.reduceAdd, Nat.reduceLeDiff, Nat.reduceEqDiff, QZ, g2, g3, g7, g8, g10, l8, al, d1]
    exact hKb'

theorem c9_at : T1.code 9 = some c9 := by kernel_rfl
set_option maxHeartbeats 1000000 in
/-- SameSig -/
theorem sameSig_call {lf m : Nat} {σ : H} {o o' : Bool} {Q Q' : Nat → Prop} {u d f u' d' f' : V} {g : Sg} (hw : WfH σ) (hu : SP Est 9 o σ Q u g.us) (hd : SP Eda 33 o σ Q d g.ds) (hf : SP Efu 44 o σ Q f g.fs) (hu' : SP Est 9 o' σ Q' u' g.us) (hd' : SP Eda 33 o' σ Q' d' g.ds) (hf' : SP Efu 44 o' σ Q' f' g.fs) (hlf : sgSz g < lf) (hBB : sgSz g < BB) (hm : sgSz g ≤ m) :
    ∃ σ', call T1 lf (m + 3) 9 [.agg [u, d, f], .agg [u', d', f']] σ = .ret (.bool true) σ' ∧ Keep σ σ' := by
  have hsg : sgSz g = sum List.length g.us + sum daSz g.ds + sum fuSz g.fs + 1 := rfl
  have hlu := sum_len List.length g.us
  have hld := sum_len daSz g.ds
  have hlfs := sum_len fuSz g.fs
  have key : ∃ v σ', call T1 lf (m + 3) 9 [.agg [u, d, f], .agg [u', d', f']] σ = .ret v σ' ∧ (Keep σ σ' ∧ v = .bool true) := by
    refine call_rt1 (p := pk 4) rfl c9_at (by simp [c9]) rfl fun cf hcf => ?_
    generalize hτ : bindArgs [.agg [u, d, f], .agg [u', d', f']] .h .lf = τ0
    have h0 : τ0.get (pk 0) = some (.agg [u, d, f]) := by rw [← hτ]; rfl
    have h1 : τ0.get (pk 1) = some (.agg [u', d', f']) := by rw [← hτ]; rfl
    clear hτ
    have hKa := Keep.new σ (.cells 26 [u, d, f] 0 0 (some 0) [])
    have ga := (Keep.refl (σ.new (.cells 26 [u, d, f] 0 0 (some 0) []))).at
    have hw1 := hKa.2.2 hw
    generalize hσ1 : σ.new (.cells 26 [u, d, f] 0 0 (some 0) []) = σ1 at *
    have hKb := Keep.new σ1 (.cells 26 [u', d', f'] 0 0 (some 0) [])
    have gb := (Keep.refl (σ1.new (.cells 26 [u', d', f'] 0 0 (some 0) []))).at
    have hw2 := hKb.2.2 hw1
    generalize hσ2 : σ1.new (.cells 26 [u', d', f'] 0 0 (some 0) []) = σ2 at *
    have ga2 := hKb.get_some hw1 ga
    have hK2 := hKa.trans hKb
    have l0 : ldv σ2 (.ptr σ.nx 0 0) = some u := ldk ga2 rfl
    have l1 : ldv σ2 (.ptr σ.nx 0 1) = some d := ldk ga2 rfl
    have l2 : ldv σ2 (.ptr σ.nx 0 2) = some f := ldk ga2 rfl
    have m0 : ldv σ2 (.ptr σ1.nx 0 0) = some u' := ldk gb rfl
    have m1 : ldv σ2 (.ptr σ1.nx 0 1) = some d' := ldk gb rfl
    have m2 : ldv σ2 (.ptr σ1.nx 0 2) = some f' := ldk gb rfl
    have hu2 := hu.keep hK2
    have hd2 := hd.keep hK2
    have hf2 := hf.keep hK2
    have hu2' := hu'.keep hK2
    have hd2' := hd'.keep hK2
    have hf2' := hf'.keep hK2
    simp only [c9, QA, Nat.reduceAdd, Nat.reduceLeDiff, Nat.reduceEqDiff, QZ, e_box, h0, h1, hσ1, hσ2, l0, l1, l2, m0, m1, m2, hu.len, hd.len, hf.len, hu'.len, hd'.len, hf'.len]
    refine Rt_seqNR (loop_rule (fun kk τ σ' => ∃ j, j ≤ g.us.length ∧ kk = g.us.length - j ∧ σ' = σ2 ∧ τ.get (pk 2) = some (.ptr σ.nx 0 0) ∧ τ.get (pk 3) = some (.ptr σ1.nx 0 0) ∧ τ.get (pk 5) = some (.int .i64 (j : Nat)))
      (fun τ σ' => σ' = σ2 ∧ τ.get (pk 2) = some (.ptr σ.nx 0 0) ∧ τ.get (pk 3) = some (.ptr σ1.nx 0 0)) _ ?_ (k := g.us.length) (by omega) ?_) ?_
    · rintro kk τ σ' ⟨j, hj, rfl, hσ, g2, g3, g5⟩
      subst hσ
      by_cases hlt : j < g.us.length
      · have d1 := lt_true hlt
        obtain ⟨s', hs'⟩ : ∃ s', g.us[j]? = some s' := ⟨_, List.getElem?_eq_getElem hlt⟩
        obtain ⟨q, ce, q1, q2, rfl⟩ := hu2.elem hs'
        obtain ⟨r, cr, r1, r2, rfl⟩ := hu2'.elem hs'
        have lq := q2.ldv
        have lr := r2.ldv
        have wi : IntKind.i64.wrap ((j : Int) + 1) = ((j + 1 : Nat) : Int) := wrap_add1 (by unfold BB at hBB; omega)
        simp only [b9_0, x9_0, QA, Nat.reduceAdd, Nat.reduceLeDiff, Nat.reduceEqDiff, QD, QZ, g2, g3, g5, l0, m0, hu2.len, d1, q1, r1, lq, lr, natEq_self, wi, List.all_nil]
        exact ⟨g.us.length - (j + 1), by omega, j + 1, by omega, rfl, rfl⟩
      · have d1 := lt_false hlt
        simp only [b9_0, QA, Nat.reduceAdd, Nat.reduceLeDiff, Nat.reduceEqDiff, QZ, g2, g3, g5, l0, hu2.len, d1]
    · exact ⟨0, Nat.zero_le _, rfl, rfl, by simp only [QA, Nat.reduceEqDiff], by simp only [QA, Nat.reduceEqDiff], by simp only [QA, Nat.reduceEqDiff]; rfl⟩
    · rintro τ σ' ⟨hσ, g2, g3⟩
      subst hσ
      simp only [QA, Nat.reduceAdd, Nat.reduceLeDiff]
      refine Rt_seqNR (loop_rule (fun kk τ σ3 => ∃ j, j ≤ g.ds.length ∧ kk = g.ds.length - j ∧ Keep σ' σ3 ∧ τ.get (pk 2) = some (.ptr σ.nx 0 0) ∧ τ.get (pk 3) = some (.ptr σ1.nx 0 0) ∧ τ.get (pk 6) = some (.int .i64 (j : Nat)))
        (fun τ σ3 => Keep σ' σ3 ∧ τ.get (pk 2) = some (.ptr σ.nx 0 0) ∧ τ.get (pk 3) = some (.ptr σ1.nx 0 0)) _ ?_ (k := g.ds.length) (by omega) ?_) ?_
      · rintro kk τ σ3 ⟨j, hj, rfl, hK, g2, g3, g6⟩
        have hw3 := hK.2.2 hw2
        have l1' : ldv σ3 (.ptr σ.nx 0 1) = some d := ldk (hK.get_some hw2 ga2) rfl
        have m1' : ldv σ3 (.ptr σ1.nx 0 1) = some d' := ldk (hK.get_some hw2 gb) rfl
        by_cases hlt : j < g.ds.length
        · have d1 := lt_true hlt
          obtain ⟨x, hs'⟩ : ∃ s', g.ds[j]? = some s' := ⟨_, List.getElem?_eq_getElem hlt⟩
          have hsz := sum_mem (f := daSz) hs'
          obtain ⟨q, ce, q1, q2, q3⟩ := (hd2.keep hK).elem hs'
          obtain ⟨r, cr, r1, r2, r3⟩ := (hd2'.keep hK).elem hs'
          have lq := q2.ldg (Eda.len q3)
          have lr := r2.ldg (Eda.len r3)
          obtain ⟨σ4, k4, k5⟩ := sameData_call (lf := lf) (m := m) hw3 q3 r3 (by omega) (by omega) (by omega)
          have wi : IntKind.i64.wrap ((j : Int) + 1) = ((j + 1 : Nat) : Int) := wrap_add1 (by unfold BB at hBB; omega)
          rw [← hcf] at k4
          simp only [b9_1, x9_1, QA, Nat.reduceAdd, Nat.reduceLeDiff, Nat.reduceEqDiff, QD, QZ, g2, g3, g6, l1', m1', hd2.len, d1, q1, r1, lq, lr, k4, wi, List.all_nil]
          exact ⟨g.ds.length - (j + 1), by omega, j + 1, by omega, rfl, hK.trans k5, rfl⟩
        · have d1 := lt_false hlt
          simp only [b9_1, QA, Nat.reduceAdd, Nat.reduceLeDiff, Nat.reduceEqDiff, QZ, g2, g3, g6, l1', hd2.len, d1]
          exact hK
      · exact ⟨0, Nat.zero_le _, rfl, Keep.refl _, by simp only [QA, Nat.reduceEqDiff, g2], by simp only [QA, Nat.reduceEqDiff, g3], by simp only [QA]; rfl⟩
      · rintro τ σ3 ⟨hK3, g2, g3⟩
        have hw3 := hK3.2.2 hw2
        simp only [QA, Nat.reduceAdd, Nat.reduceLeDiff]
        refine Rt_seqNR (loop_rule (fun kk τ σ4 => ∃ j, j ≤ g.fs.length ∧ kk = g.fs.length - j ∧ Keep σ' σ4 ∧ τ.get (pk 2) = some (.ptr σ.nx 0 0) ∧ τ.get (pk 3) = some (.ptr σ1.nx 0 0) ∧ τ.get (pk 7) = some (.int .i64 (j : Nat)))
          (fun τ σ4 => Keep σ' σ4) _ ?_ (k := g.fs.length) (by omega) ?_) ?_
        · rintro kk τ σ4 ⟨j, hj, rfl, hK, g2, g3, g7⟩
          have hw4 := hK.2.2 hw2
          have l2' : ldv σ4 (.ptr σ.nx 0 2) = some f := ldk (hK.get_some hw2 ga2) rfl
          have gb4 := hK.get_some hw2 gb
          have m2' : ldv σ4 (.ptr σ1.nx 0 2) = some f' := ldk gb4 rfl
          by_cases hlt : j < g.fs.length
          · have d1 := lt_true hlt
            obtain ⟨x, hs'⟩ : ∃ s', g.fs[j]? = some s' := ⟨_, List.getElem?_eq_getElem hlt⟩
            have hsz := sum_mem (f := fuSz) hs'
            obtain ⟨q, ce, q1, q2, q3⟩ := (hf2.keep hK).elem hs'
            obtain ⟨r, cr, r1, r2, r3⟩ := (hf2'.keep hK).elem hs'
            have ql := Efu.len q3
            have rl := Efu.len r3
            have lq := q2.ldg ql
            have lr := r2.ldg rl
            have qo := Efu.one q3
            have ro := Efu.one r3
            obtain ⟨nm, args, rt⟩ := x
            obtain ⟨a, dd, rfl, q4, q5⟩ := q3
            obtain ⟨a', dd', rfl, r4, r5⟩ := r3
            simp only at q4 q5 r4 r5
            simp only [fuSz] at hsz
            obtain ⟨h5, h6, s1, s2, s3, s4, s5, s6, s7⟩ := two_vars σ4 44 6 (zs := [.str [], .nils, .int .i64 0, .int .i64 0, .str [], .nils]) rfl ql rl qo ro
            have hw6 := s5.2.2 hw4
            have n8 : ldv h6 (.ptr σ4.nx 0 0) = some (.str nm) := ldk s6 rfl
            have a8 : ldv h6 (.ptr σ4.nx 0 1) = some a := ldk s6 rfl
            generalize hxn : (σ4.new (.cells 44 [.str [], .nils, .int .i64 0, .int .i64 0, .str [], .nils] 0 0 (some 0) [])).nx = xn at *
            have n9 : ldv h6 (.ptr xn 0 0) = some (.str nm) := ldk s7 rfl
            have a9 : ldv h6 (.ptr xn 0 1) = some a' := ldk s7 rfl
            obtain ⟨q', e8, hq'⟩ := (At.var s6).fad (c := [.str nm, a]) (d := dd) (j := 2) rfl
            have e8' : q' = .ptr σ4.nx 0 2 := by simpa [fadV] using e8.symm
            subst e8'
            have lr8 := hq'.ldg q5.len
            obtain ⟨r', e9, hr'⟩ := (At.var s7).fad (c := [.str nm, a']) (d := dd') (j := 2) rfl
            have e9' : r' = .ptr xn 0 2 := by simpa [fadV] using e9.symm
            subst e9'
            have lr9 := hr'.ldg r5.len
            obtain ⟨σ7, t1, t2⟩ := same_call rt.sz rt (Nat.le_refl _) (lf := lf) (m := m + 1) hw6 (q5.up (s5.up _)) (r5.up (s5.up _)) (by omega) (by omega) (by omega)
            have wi : IntKind.i64.wrap ((j : Int) + 1) = ((j + 1 : Nat) : Int) := wrap_add1 (by unfold BB at hBB; omega)
            rw [← hcf] at t1
            simp only [b9_3, x9_3, QA, Nat.reduceAdd, Nat.reduceLeDiff, Nat.reduceEqDiff, QD, QZ, w_1l, w_1g, w_1gk, g2, g3, g7, l2', m2', hf2.len, d1, q1, lq, r1, lr, hxn, s1, s2, ne_eq, not_false_eq_true, Nat.zero_ne_one]
            rw [if_pos]
            · simp only [QA, Nat.reduceAdd, Nat.reduceLeDiff, Nat.reduceEqDiff, QZ, n8, n9, a8, a9, lr8, lr9, natEq_self, q4.len, r4.len, t1]
              refine NXT_inR (sameArgs (b := σ4) (m := m + 1) (nm := nm) (nm' := nm) (L := args) (v2 := .ptr σ.nx 0 0) (v3 := .ptr σ1.nx 0 0) (v7 := .int .i64 (j : Nat)) hcf hw4 (s5.trans t2) q4 r4 (t2.get_some hw6 s6) (t2.get_some hw6 s7) (by omega) (by omega) (by omega) (by simp only [QA, Nat.reduceEqDiff, g2]) (by simp only [QA, Nat.reduceEqDiff, g3]) (by simp only [QA, Nat.reduceEqDiff, g7]) (by simp only [QA, Nat.reduceEqDiff]) (by simp only [QA, Nat.reduceEqDiff]) (by simp only [QA, Nat.reduceEqDiff])) ?_
              rintro τ3 σ8 ⟨w1, w2, w3, w7⟩
              simp only [QA, Nat.reduceAdd, Nat.reduceLeDiff, Nat.reduceEqDiff, w2, w3, w7, wi]
              exact ⟨g.fs.length - (j + 1), by omega, j + 1, by omega, rfl, hK.trans w1, rfl⟩
            · rw [owe_at r2 hw4, owe_keepR gb4 hw4]
              · rfl
              all_goals
                intro s h
                simp only [List.reverse_cons, List.reverse_nil, List.nil_append, List.cons_append, List.drop_zero, List.take_succ_cons, List.take_zero, List.mem_cons, List.not_mem_nil, or_false] at h
                rcases h with rfl | rfl
                · exact s3
                · exact s4
          · have d1 := lt_false hlt
            simp only [b9_3, QA, Nat.reduceAdd, Nat.reduceLeDiff, Nat.reduceEqDiff, QZ, g2, g7, l2', hf2.len, d1]
            exact hK
        · exact ⟨0, Nat.zero_le _, rfl, hK3, by simp only [QA, Nat.reduceEqDiff, g2], by simp only [QA, Nat.reduceEqDiff, g3], by simp only [QA]; rfl⟩
        · rintro τ σ4 hK4
          simp only [QA, Nat.reduceAdd, Nat.reduceLeDiff]
          exact hK2.trans hK4
  obtain ⟨v, σ', h1, h2, rfl⟩ := key
  exact ⟨σ', h1, h2⟩
end Go.Proofs.YtfgghbikbaopjaaGreatDoorEng

namespace Go.Proofs.YtfgghbikbaopjaaGreatDoorEng
open Go
set_option maxRecDepth 100000
set_option linter.unusedSimpArgs false

theorem c6_at : T1.code 6 = some c6 := by kernel_rfl
set_option maxHeartbeats 1000000 in
/-- declared: an environment in which the signature is declared, or none. -/
theorem declared_call {lf m : Nat} {σ : H} {o : Bool} {Q : Nat → Prop} {u d f : V} {g : Sg} (hw : WfH σ) (hu : SP Est 9 o σ Q u g.us) (hd : SP Eda 33 o σ Q d g.ds) (hf : SP Efu 44 o σ Q f g.fs) (hlf : 2 * sgSz g + 4 < lf) (hlf2 : 35 < lf) (hBB : 2 * sgSz g + 4 < BB) (hm : sgSz g ≤ m) :
    ∃ v σ', call T1 lf (m + 9) 6 [.agg [u, d, f]] σ = .ret v σ' ∧ Keep σ σ' ∧ (v = .nilp ∨ ∃ xe, v = .ptr xe 0 0 ∧ EnvIs σ' xe g) := by
  have hsg : sgSz g = sum List.length g.us + sum daSz g.ds + sum fuSz g.fs + 1 := rfl
  have hlu := sum_len List.length g.us
  have hld := sum_len daSz g.ds
  have hlfs := sum_len fuSz g.fs
  refine call_rt1 (p := pk 2) rfl c6_at (by simp [c6]) rfl fun cf hcf => ?_
  generalize hτ : bindArgs [.agg [u, d, f]] .h .lf = τ0
  have h0 : τ0.get (pk 0) = some (.agg [u, d, f]) := by rw [← hτ]; rfl
  clear hτ
  have hKa := Keep.new σ (.cells 26 [u, d, f] 0 0 (some 0) [])
  have ga := (Keep.refl (σ.new (.cells 26 [u, d, f] 0 0 (some 0) []))).at
  have hw1 := hKa.2.2 hw
  generalize hσ1 : σ.new (.cells 26 [u, d, f] 0 0 (some 0) []) = σ1 at *
  have hu1 := hu.keep hKa
  have hd1 := hd.keep hKa
  have hf1 := hf.keep hKa
  obtain ⟨_, σ2, z1, rfl, z2, z3⟩ := new_call (lf := lf) (m := m + 7) (σ := σ1)
  have e1 : kBin .eql (.sc .ptr) (some (.ptr σ1.nx 0 0)) (some .nilp) = some (.bool false) := rfl
  rw [← hcf] at z1
  simp only [c6, QA, Nat.reduceAdd, Nat.reduceLeDiff, Nat.reduceEqDiff, QZ, e_box, h0, hσ1, z1, e1]
  refine Rt_seqNR (loop_rule (fun kk τ σ' => ∃ j, j ≤ g.us.length ∧ kk = g.us.length - j ∧ Keep σ1 σ' ∧ EnvIs σ' σ1.nx ⟨g.us.take j, [], []⟩ ∧ τ.get (pk 1) = some (.ptr σ.nx 0 0) ∧ τ.get (pk 3) = some (.ptr σ1.nx 0 0) ∧ τ.get (pk 4) = some (.int .i64 (j : Nat)))
    (fun τ σ' => Keep σ1 σ' ∧ EnvIs σ' σ1.nx ⟨g.us, [], []⟩ ∧ τ.get (pk 1) = some (.ptr σ.nx 0 0) ∧ τ.get (pk 3) = some (.ptr σ1.nx 0 0)) _ ?_ (k := g.us.length) (by omega) ?_) ?_
  · rintro kk τ σ' ⟨j, hj, rfl, hK, hE, g1, g3, g4⟩
    have l0 : ldv σ' (.ptr σ.nx 0 0) = some u := ldk (hK.get_some hw1 ga) rfl
    by_cases hlt : j < g.us.length
    · have d1 := lt_true hlt
      obtain ⟨s, hs⟩ : ∃ s', g.us[j]? = some s' := ⟨_, List.getElem?_eq_getElem hlt⟩
      obtain ⟨q, ce, q1, q2, rfl⟩ := (hu1.keep hK).elem hs
      have lq := q2.ldv
      have htk := take_snoc hs
      have hle := sum_take List.length g.us (j + 1)
      have hsz : sgSz ⟨g.us.take j ++ [s], [], []⟩ = sum List.length (g.us.take (j + 1)) + 1 := by rw [← htk]; simp [sgSz, sum]
      obtain ⟨i, σ4, k1, k2, k3⟩ := declareSort_call (lf := lf) (m := m) (b := σ1) (s := s) hw1 hK (Nat.le_refl _) hE (by simp only []; omega) (by simp only []; omega) (by simp only []; omega)
      simp only [] at k3
      rw [← htk] at k3
      have wi : IntKind.i64.wrap ((j : Int) + 1) = ((j + 1 : Nat) : Int) := wrap_add1 (by unfold BB at hBB; omega)
      rw [← hcf] at k1
      cases e : (i != 0) with
      | true =>
        simp only [b6_0, x6_0, QA, reduceCtorEq, Nat.reduceAdd, Nat.reduceLeDiff, Nat.reduceEqDiff, QZ, g1, g3, g4, l0, hu.len, d1, q1, lq, k1, e]
        exact ⟨hKa.trans k2, .inl (by trivial)⟩
      | false =>
        simp only [b6_0, x6_0, QA, Nat.reduceAdd, Nat.reduceLeDiff, Nat.reduceEqDiff, QZ, g1, g3, g4, l0, hu.len, d1, q1, lq, k1, e, wi]
        exact ⟨g.us.length - (j + 1), by omega, j + 1, by omega, rfl, k2, k3 (by simpa using e), rfl⟩
    · have d1 := lt_false hlt
      have hjn : j = g.us.length := by omega
      subst hjn
      rw [List.take_of_length_le (Nat.le_refl _)] at hE
      simp only [b6_0, QA, Nat.reduceAdd, Nat.reduceLeDiff, Nat.reduceEqDiff, QZ, g1, g3, g4, l0, hu.len, d1]
      exact ⟨hK, hE⟩
  · exact ⟨0, Nat.zero_le _, rfl, z2, z3, by simp only [QA, Nat.reduceEqDiff], by simp only [QA, Nat.reduceEqDiff], by simp only [QA, Nat.reduceEqDiff]; rfl⟩
  · rintro τ σ3 ⟨hK3, hE3, g1, g3⟩
    have hw3 := hK3.2.2 hw1
    have l1 : ldv σ3 (.ptr σ.nx 0 1) = some d := ldk (hK3.get_some hw1 ga) rfl
    -- behind the datatypes
    have rest : ∀ τ σ4, Keep σ1 σ4 → EnvIs σ4 σ1.nx ⟨g.us, g.ds, []⟩ → τ.get (pk 1) = some (.ptr σ.nx 0 0) → τ.get (pk 3) = some (.ptr σ1.nx 0 0) → τ.get (pk 5) = some (.int .i64 0) → ∀ T : Tr V → H → Prop, (∀ τ σ', Keep σ1 σ' → τ.get (pk 2) = some .nilp → T τ σ') →
        NR (kBlk 2 (exec cf lf 51 (.loop b6_1) τ σ4 [])) (fun τ σ' => Keep σ1 σ' ∧ EnvIs σ' σ1.nx g ∧ τ.get (pk 3) = some (.ptr σ1.nx 0 0)) T := by
      intro τ σ4 hK4 hE4 f1 f3 f5 T hT
      refine loop_rule (fun kk τ σ' => ∃ j, j ≤ g.fs.length ∧ kk = g.fs.length - j ∧ Keep σ1 σ' ∧ EnvIs σ' σ1.nx ⟨g.us, g.ds, g.fs.take j⟩ ∧ τ.get (pk 1) = some (.ptr σ.nx 0 0) ∧ τ.get (pk 3) = some (.ptr σ1.nx 0 0) ∧ τ.get (pk 5) = some (.int .i64 (j : Nat))) _ T ?_ (k := g.fs.length) (by omega) ⟨0, Nat.zero_le _, rfl, hK4, hE4, f1, f3, f5⟩
      rintro kk τ σ' ⟨j, hj, rfl, hK, hE, g1, g3, g5⟩
      have l2 : ldv σ' (.ptr σ.nx 0 2) = some f := ldk (hK.get_some hw1 ga) rfl
      by_cases hlt : j < g.fs.length
      · have d1 := lt_true hlt
        obtain ⟨x, hs⟩ : ∃ s', g.fs[j]? = some s' := ⟨_, List.getElem?_eq_getElem hlt⟩
        obtain ⟨q, ce, q1, q2, q3⟩ := (hf1.keep hK).elem hs
        have lq := q2.ldg (Efu.len q3)
        have htk := take_snoc hs
        have hle := sum_take fuSz g.fs (j + 1)
        have hsz : sgSz ⟨g.us, g.ds, g.fs.take j ++ [x]⟩ = sum List.length g.us + sum daSz g.ds + sum fuSz (g.fs.take (j + 1)) + 1 := by rw [← htk]; rfl
        obtain ⟨i, σ5, k1, k2, k3⟩ := declareFun_call (lf := lf) (m := m) (b := σ1) (x := x) hw1 hK (Nat.le_refl _) hE q3 (by simp only []; omega) hlf2 (by simp only []; omega) (by simp only []; omega)
        simp only [] at k3
        rw [← htk] at k3
        have wi : IntKind.i64.wrap ((j : Int) + 1) = ((j + 1 : Nat) : Int) := wrap_add1 (by unfold BB at hBB; omega)
        rw [← hcf] at k1
        cases e : (i != 0) with
        | true =>
          simp only [b6_1, x6_1, QA, Nat.reduceAdd, Nat.reduceLeDiff, Nat.reduceEqDiff, QZ, g1, g3, g5, l2, hf.len, d1, q1, lq, k1, e]
          exact hT _ _ k2 (by simp only [QA, Nat.reduceEqDiff])
        | false =>
          simp only [b6_1, x6_1, QA, Nat.reduceAdd, Nat.reduceLeDiff, Nat.reduceEqDiff, QZ, g1, g3, g5, l2, hf.len, d1, q1, lq, k1, e, wi]
          exact ⟨g.fs.length - (j + 1), by omega, j + 1, by omega, rfl, k2, k3 (by simpa using e), rfl⟩
      · have d1 := lt_false hlt
        have hjn : j = g.fs.length := by omega
        subst hjn
        rw [List.take_of_length_le (Nat.le_refl _)] at hE
        simp only [b6_1, QA, Nat.reduceAdd, Nat.reduceLeDiff, Nat.reduceEqDiff, QZ, g1, g3, g5, l2, hf.len, d1]
        exact ⟨hK, hE⟩
    have fin : ∀ τ σ', (Keep σ1 σ' ∧ EnvIs σ' σ1.nx g ∧ τ.get (pk 3) = some (.ptr σ1.nx 0 0)) → Rt (exec cf lf 51 (.seq (.reg [(oP p50 (.mv t3)), (oP p2 (.mv t50))]) .ret) τ σ' []) (fun τ σ' => ∃ v, τ.get (pk 2) = some v ∧ Keep σ σ' ∧ (v = .nilp ∨ ∃ xe, v = .ptr xe 0 0 ∧ EnvIs σ' xe g)) := by
      rintro τ σ' ⟨r1, r2, r3⟩
      simp only [QA, reduceCtorEq, Nat.reduceAdd, Nat.reduceLeDiff, Nat.reduceEqDiff, r3]
      exact ⟨hKa.trans r1, .inr ⟨_, rfl, r2⟩⟩
    by_cases hlt : 0 < g.ds.length
    · have d1 : decide ((0 : Int) < (g.ds.length : Int)) = true := by
        have : (0 : Int) < (g.ds.length : Int) := by omega
        simp only [this, decide_true]
      have hsz0 : sgSz ⟨g.us, [] ++ g.ds, []⟩ = sum List.length g.us + sum daSz g.ds + 1 := by simp [sgSz, sum]
      obtain ⟨i, σ4, k1, k2, k3⟩ := declareDatas_call (lf := lf) (m := m) (b := σ1) (a := d) (L := g.ds) hw1 hK3 (Nat.le_refl _) hE3 hd1 (by simp only []; omega) hlf2 (by simp only []; omega) (by simp only []; omega)
      simp only [List.nil_append] at k3
      rw [← hcf] at k1
      cases e : (i != 0) with
      | true =>
        simp only [QA, reduceCtorEq, Nat.reduceAdd, Nat.reduceLeDiff, Nat.reduceEqDiff, QZ, g1, g3, l1, hd.len, d1, k1, e]
        exact ⟨hKa.trans k2, .inl (by trivial)⟩
      | false =>
        simp only [QA, Nat.reduceAdd, Nat.reduceLeDiff, Nat.reduceEqDiff, QZ, g1, g3, l1, hd.len, d1, k1, e]
        refine Rt_seqNR (rest _ σ4 k2 (k3 (by simpa using e)) (by simp only [QA, Nat.reduceEqDiff, g1]) (by simp only [QA, Nat.reduceEqDiff, g3]) (by simp only [QA, Nat.reduceEqDiff]) _ (fun τ σ' h1 h2 => ⟨_, h2, hKa.trans h1, .inl rfl⟩)) ?_
        intro τ' σ' h
        have := fin τ' σ' h
        simpa only [QA, reduceIte, reduceCtorEq, Nat.reduceAdd, Nat.reduceLeDiff, Nat.reduceEqDiff, Nat.reduceSub, Nat.reduceBEq, Int.reduceBEq, Int.reduceNeg, Int.reduceLT, Int.reduceLE] using this
    · have d1 : decide ((0 : Int) < (g.ds.length : Int)) = false := by
        have : ¬ (0 : Int) < (g.ds.length : Int) := by omega
        simp only [this, decide_false]
      have hds : g.ds = [] := List.eq_nil_of_length_eq_zero (by omega)
      simp only [QA, Nat.reduceAdd, Nat.reduceLeDiff, Nat.reduceEqDiff, QZ, g1, g3, l1, hd.len, d1]
      refine Rt_seqNR (rest _ σ3 hK3 (by rw [hds]; exact hE3) (by simp only [QA, Nat.reduceEqDiff, g1]) (by simp only [QA, Nat.reduceEqDiff, g3]) (by simp only [QA, Nat.reduceEqDiff]) _ (fun τ σ' h1 h2 => ⟨_, h2, hKa.trans h1, .inl rfl⟩)) ?_
      intro τ' σ' h
      have := fin τ' σ' h
      simpa only [QA, reduceIte, reduceCtorEq, Nat.reduceAdd, Nat.reduceLeDiff, Nat.reduceEqDiff, Nat.reduceSub, Nat.reduceBEq, Int.reduceBEq, Int.reduceNeg, Int.reduceLT, Int.reduceLE] using this
end Go.Proofs.YtfgghbikbaopjaaGreatDoorEng

namespace Go.Proofs.YtfgghbikbaopjaaGreatDoorEng
open Go
set_option maxRecDepth 100000
set_option linter.unusedSimpArgs false

/-- Writes into memory made since c: rows of selectors (42) and of sorts (40) anyhow, else texts alone. -/
structure Wt (c σ1 σ : H) : Prop where
  keep : Keep c σ
  nx : σ1.nx.toNat ≤ σ.nx.toNat
  blk : ∀ (x : Pos) ty C ver minv ex, c.nx.toNat ≤ x.toNat → σ1.get x = some (.cells ty C ver minv (some 0) ex) → ∃ C' minv', σ.get x = some (.cells ty C' ver minv' (some 0) ex) ∧ C'.length = C.length ∧ (ty ≠ 42 → ty ≠ 40 → ∀ (i : Nat) (v : V), C[i]? = some v → (∀ s, v ≠ .str s) → C'[i]? = some v)
theorem Wt.refl {c σ : H} (k : Keep c σ) : Wt c σ σ := ⟨k, Nat.le_refl _, fun _x _ty C _ver minv _ex _ h => ⟨C, minv, h, rfl, fun _ _ _ _ h _ => h⟩⟩
theorem Wt.put {c σ1 σ : H} (h : Wt c σ1 σ) {x : Pos} {ty : Nat} {C C'' : List V} {ver minv : Nat} {ex : List Nat} (hlo : c.nx.toNat ≤ x.toNat) (hhi : x.toNat < σ1.nx.toNat) (hx : σ1.get x = some (.cells ty C ver minv (some 0) ex)) (hl : C''.length = C.length) (hC : ty ≠ 42 → ty ≠ 40 → ∀ (i : Nat) (v : V), C[i]? = some v → (∀ s, v ≠ .str s) → C''[i]? = some v) :
    Wt c σ1 (σ.put x (.cells ty C'' ver ver (some 0) ex)) := by
  have hn := h.nx
  refine ⟨h.keep.put hlo (by omega) _, by rw [nx_put]; exact hn, fun y ty' D ver' minv' ex' hlo' hy => ?_⟩
  rw [H.get_put]
  by_cases e : y = x
  · subst e
    rw [if_pos rfl]
    rw [hx] at hy
    simp only [Option.some.injEq, Blk.cells.injEq, true_and] at hy
    obtain ⟨rfl, rfl, rfl, rfl, rfl⟩ := hy
    exact ⟨C'', ver, rfl, hl, hC⟩
  · rw [if_neg e]
    exact h.blk y ty' D ver' minv' ex' hlo' hy
theorem flat_get {n : Nat} {C : List (List V)} (hC : ∀ c ∈ C, c.length = n) {i j : Nat} {ch : List V} (hi : C[i]? = some ch) (hj : j < n) : C.flatten[i * n + j]? = ch[j]? := by
  have h := flat_at hC hi
  obtain ⟨h1, h2⟩ := cut_some h
  rw [h2, List.getElem?_take, if_pos hj, List.getElem?_drop]
/-- an element, and what may be done to it -/
theorem Wt.el {α : Type} {n : Nat} {E : EK α n} {ty : Nat} {c σ1 : H} {a : V} {L : List α} (hS : SP E ty true σ1 (fun z => c.nx.toNat ≤ z) a L) {i : Nat} {x : α} (hi : L[i]? = some x) :
    ∃ xb ver o ch, elemAt n a i = some (.ptr xb ver o) ∧ E.P true σ1 (fun z => c.nx.toNat ≤ z) ch x ∧ ∀ σ, Wt c σ1 σ →
      (ty ≠ 42 → ty ≠ 40 → ∀ (j : Nat) (v : V), ch[j]? = some v → (∀ s, v ≠ .str s) → ldv σ (.ptr xb ver (o + j)) = some v) ∧
      (ty ≠ 42 → ty ≠ 40 → ∀ j s s', ch[j]? = some (.str s) → ∃ σ', stV σ 1 (.ptr xb ver (o + j)) (.str s') = .ok undefV σ' ∧ Wt c σ1 σ') ∧
      ((ty = 42 ∨ ty = 40) → ∀ vs : List V, vs.length = n → vs.all V.one = true → ∃ σ', stV σ n (.ptr xb ver o) (.agg vs) = .ok undefV σ' ∧ Wt c σ1 σ') := by
  obtain ⟨C, hK, hl, he⟩ := hS
  have hlt : i < L.length := by
    rcases Nat.lt_or_ge i L.length with h | h
    · exact h
    · rw [List.getElem?_eq_none h] at hi; cases hi
  have hc : C[i]? = some (C[i]'(hl ▸ hlt)) := List.getElem?_eq_getElem _
  have hP := he i _ x hc hi
  cases hK with
  | nils => simp at hl; omega
  | ros c off cap C ho => cases ho
  | box x c ho => cases ho
  | own xb ver minv ex C hne hC h1 hg hb hx =>
    have hchl := hC _ (List.mem_of_getElem? hc)
    have hin : i * n + n ≤ C.flatten.length := by
      have := (cut_some (flat_at hC hc)).1; exact this
    refine ⟨xb, ver, 0 + i * n, _, by simp only [elemAt]; rw [if_pos ⟨Int.natCast_nonneg i, by omega⟩]; rfl, hP, fun σ hW => ?_⟩
    obtain ⟨C', minv', g1, g2, g3⟩ := hW.blk xb ty C.flatten ver minv ex hb hg
    have jn : ∀ {j : Nat} {v : V}, (C[i]'(hl ▸ hlt))[j]? = some v → j < n := fun {j v} h => by
      rcases Nat.lt_or_ge j n with h2 | h2
      · exact h2
      · rw [List.getElem?_eq_none (by omega)] at h; cases h
    refine ⟨fun h42 h40 j v hj hv => ldk g1 ?_, fun h42 h40 j s s' hj => ?_, fun hty vs hvl hvo => ?_⟩
    · rw [Nat.zero_add]
      refine g3 h42 h40 _ _ ?_ hv
      rw [flat_get hC hc (jn hj)]; exact hj
    · have hjn := jn hj
      refine ⟨_, st_one g1 (by rw [g2]; omega) rfl rfl, hW.put hb hx hg (by rw [List.length_set]; exact g2) fun _ _ k v hk hv => ?_⟩
      by_cases e : k = 0 + i * n + j
      · exfalso
        subst e
        rw [Nat.zero_add, flat_get hC hc hjn, hj] at hk
        exact hv s (Option.some.inj hk).symm
      · rw [List.getElem?_set_ne (fun h => e h.symm)]
        exact g3 h42 h40 k v hk hv
    · have st : stV σ n (.ptr xb ver (0 + i * n)) (.agg vs) = .ok undefV (σ.put xb (.cells ty (C'.take (0 + i * n) ++ vs ++ C'.drop (0 + i * n + vs.length)) ver ver (some 0) ex)) := by
        simp only [stV, V.cells, putCells, g1]
        rw [if_pos hvl, if_pos ⟨trivial, Nat.zero_le _, by omega, hvo⟩]
      refine ⟨_, st, hW.put hb hx hg (by simp only [List.length_append, List.length_take, List.length_drop]; omega) fun h42 h40 => ?_⟩
      rcases hty with h | h
      · exact absurd h h42
      · exact absurd h h40
theorem Wt.var {c σ1 σ : H} (h : Wt c σ1 σ) {x : Pos} {ty : Nat} {C : List V} {minv : Nat} {ex : List Nat} (hlo : c.nx.toNat ≤ x.toNat) (hx : σ1.get x = some (.cells ty C 0 minv (some 0) ex)) (h42 : ty ≠ 42) (h40 : ty ≠ 40) {i : Nat} {v : V} (hi : C[i]? = some v) (hv : ∀ s, v ≠ .str s) : ldv σ (.ptr x 0 i) = some v := by
  obtain ⟨C', minv', g1, g2, g3⟩ := h.blk x ty C 0 minv ex hlo hx
  exact ldk g1 (g3 h42 h40 i v hi hv)
theorem SP.nostr {α : Type} {n : Nat} {E : EK α n} {ty : Nat} {o : Bool} {σ : H} {Q : Nat → Prop} {a : V} {L : List α} (h : SP E ty o σ Q a L) : ∀ s, a ≠ .str s := by
  intro s e
  subst e
  obtain ⟨C, h1, _⟩ := h
  cases h1

/-- texts of sorts -/
theorem wr_users {lf : Nat} {cf : CallF} {c σ1 σ : H} {x4 : Pos} {u v w : V} {L : List (List Nat)} (hW : Wt c σ1 σ) (hlo : c.nx.toNat ≤ x4.toNat) (h4 : σ1.get x4 = some (.cells 26 [u, v, w] 0 0 (some 0) [])) (hu : SP Est 9 true σ1 (fun z => c.nx.toNat ≤ z) u L) (hlf : L.length < lf) (hBB : L.length < BB)
    {T : Tr V → H → Prop} {τ : Tr V} {v1 v3 : V} (f1 : τ.get (pk 1) = some v1) (f3 : τ.get (pk 3) = some v3) (f4 : τ.get (pk 4) = some (.ptr x4 0 0)) (f21 : τ.get (pk 21) = some (.int .i64 L.length)) (f22 : τ.get (pk 22) = some (.int .i64 0)) :
    NR (kBlk 0 (exec cf lf 121 (.loop b3_1) τ σ [])) (fun τ' σ' => Wt c σ1 σ' ∧ τ'.get (pk 1) = some v1 ∧ τ'.get (pk 3) = some v3 ∧ τ'.get (pk 4) = some (.ptr x4 0 0)) T := by
  refine range_rule (l := 23) (i := 22) (nn := 21) (k := 29) (id := 0) (id' := 1) (B := y3_1) (N := L.length)
    (fun j τ' σ' => Wt c σ1 σ' ∧ τ'.get (pk 1) = some v1 ∧ τ'.get (pk 3) = some v3 ∧ τ'.get (pk 4) = some (.ptr x4 0 0)) _ T (by decide) (by decide) (by decide) (by decide) (by decide) (by decide) (by decide) hlf (by unfold BB at hBB; omega) ?_ ?_ ?_ f22 f21
  · rintro j τ' σ' hj ⟨hW, g1, g3, g4⟩ g22 g21
    obtain ⟨s, hs⟩ : ∃ s', L[j]? = some s' := ⟨_, List.getElem?_eq_getElem hj⟩
    obtain ⟨xb, ver, o, ch, q1, rfl, q3⟩ := Wt.el hu hs
    obtain ⟨_, q4, _⟩ := q3 σ' hW
    obtain ⟨σ2, q5, q6⟩ := q4 (by decide) (by decide) 0 s [63] rfl
    have lu := hW.var hlo h4 (by decide) (by decide) (i := 0) rfl hu.nostr
    rw [Nat.add_zero] at q5
    simp only [y3_1, QA, Nat.reduceAdd, Nat.reduceLeDiff, Nat.reduceEqDiff, QZ, g1, g3, g4, g21, g22, lu, q1, q5]
    exact q6
  · rintro τ' σ' ⟨hW, g1, g3, g4⟩
    exact ⟨hW, by simp only [QA, Nat.reduceEqDiff, g1], by simp only [QA, Nat.reduceEqDiff, g3], by simp only [QA, Nat.reduceEqDiff, g4]⟩
  · exact ⟨hW, f1, f3, f4⟩

def Ws3 : List Nat := [8, 57, 58, 59, 60, 61, 62, 63, 64, 65, 66, 67, 68, 69, 70, 71, 72, 73]
/-- the selectors of a constructor -/
theorem wr_sels {lf : Nat} {cf : CallF} {c σ1 σ : H} {x4 : Pos} {u v w : V} {D : List Da} {x : Da} {y : Co} {i k : Nat} (hW : Wt c σ1 σ) (hlo : c.nx.toNat ≤ x4.toNat) (h4 : σ1.get x4 = some (.cells 26 [u, v, w] 0 0 (some 0) [])) (hd : SP Eda 33 true σ1 (fun z => c.nx.toNat ≤ z) v D) (hx : D[i]? = some x) (hy : x.2[k]? = some y) (hlf : y.2.length < lf) (hBB : y.2.length < BB)
    {T : Tr V → H → Prop} {τ : Tr V} (f4 : τ.get (pk 4) = some (.ptr x4 0 0)) (f6 : τ.get (pk 6) = some (.int .i64 i)) (f7 : τ.get (pk 7) = some (.int .i64 k)) (f56 : τ.get (pk 56) = some (.int .i64 y.2.length)) (f57 : τ.get (pk 57) = some (.int .i64 0)) :
    NR (kBlk 6 (exec cf lf 121 (.loop b3_3) τ σ [])) (fun τ' σ' => Wt c σ1 σ' ∧ Fr Ws3 τ τ') T := by
  obtain ⟨xd, vd, od, ch, d1, ⟨a, rfl, ha⟩, d3⟩ := Wt.el hd hx
  obtain ⟨xc, vc, oc, ch2, c1, ⟨a2, rfl, ha2⟩, c3⟩ := Wt.el ha hy
  refine range_rule (l := 58) (i := 57) (nn := 56) (k := 73) (id := 6) (id' := 7) (B := y3_3) (N := y.2.length)
    (fun j τ' σ' => Wt c σ1 σ' ∧ Fr Ws3 τ τ') _ T (by decide) (by decide) (by decide) (by decide) (by decide) (by decide) (by decide) hlf (by unfold BB at hBB; omega) ?_ ?_ ?_ f57 f56
  · rintro j τ' σ' hj ⟨hW, hF⟩ g57 g56
    have g4 := hF.get (by decide) f4
    have g6 := hF.get (by decide) f6
    have g7 := hF.get (by decide) f7
    obtain ⟨z, hz⟩ : ∃ s', y.2[j]? = some s' := ⟨_, List.getElem?_eq_getElem hj⟩
    obtain ⟨xs, vs, os, ch3, s1, _, s3⟩ := Wt.el ha2 hz
    have lv := hW.var hlo h4 (by decide) (by decide) (i := 1) rfl hd.nostr
    have lc := (d3 σ' hW).1 (by decide) (by decide) 1 a rfl ha.nostr
    have ls := (c3 σ' hW).1 (by decide) (by decide) 1 a2 rfl ha2.nostr
    obtain ⟨σ2, q5, q6⟩ := (s3 σ' hW).2.2 (.inl rfl) [.str [63], .int .i64 0, .int .i64 0, .str [], .nils] rfl rfl
    have bd : kBuild [.str [], .int .i64 0, .int .i64 0, .str [], .nils] (some [(0, 1, .str [63])]) = some (.agg [.str [63], .int .i64 0, .int .i64 0, .str [], .nils]) := rfl
    simp only [y3_3, QA, Nat.reduceAdd, Nat.reduceLeDiff, Nat.reduceEqDiff, QZ, g4, g6, g7, g56, g57, lv, d1, lc, c1, ls, s1, bd, q5]
    refine ⟨q6, ?_⟩
    repeat refine Fr.set ?_ (by decide)
    exact hF
  · rintro τ' σ' ⟨hW, hF⟩
    exact ⟨hW, hF.set (by decide)⟩
  · exact ⟨hW, Fr.refl _ _⟩

def Ws5 : List Nat := [7, 43, 44, 45, 46, 47, 48, 49, 50, 51, 52, 53, 54, 55, 56, 74, 75, 76, 77, 78, 79, 80, 81, 82, 83] ++ Ws3
/-- the constructors of a datatype -/
theorem wr_cons {lf : Nat} {cf : CallF} {c σ1 σ : H} {x4 : Pos} {u v w : V} {D : List Da} {x : Da} {i : Nat} (hW : Wt c σ1 σ) (hlo : c.nx.toNat ≤ x4.toNat) (h4 : σ1.get x4 = some (.cells 26 [u, v, w] 0 0 (some 0) [])) (hd : SP Eda 33 true σ1 (fun z => c.nx.toNat ≤ z) v D) (hx : D[i]? = some x) (hlf : sum coSz x.2 < lf) (hBB : sum coSz x.2 < BB)
    {T : Tr V → H → Prop} {τ : Tr V} (f4 : τ.get (pk 4) = some (.ptr x4 0 0)) (f6 : τ.get (pk 6) = some (.int .i64 i)) (f42 : τ.get (pk 42) = some (.int .i64 x.2.length)) (f43 : τ.get (pk 43) = some (.int .i64 0)) :
    NR (kBlk 4 (exec cf lf 121 (.loop b3_5) τ σ [])) (fun τ' σ' => Wt c σ1 σ' ∧ Fr Ws5 τ τ') T := by
  have hlen := sum_len coSz x.2
  obtain ⟨xd, vd, od, ch, d1, ⟨a, rfl, ha⟩, d3⟩ := Wt.el hd hx
  refine range_rule (l := 44) (i := 43) (nn := 42) (k := 83) (id := 4) (id' := 5) (B := y3_5) (N := x.2.length)
    (fun j τ' σ' => Wt c σ1 σ' ∧ Fr Ws5 τ τ') _ T (by decide) (by decide) (by decide) (by decide) (by decide) (by decide) (by decide) (by omega) (by unfold BB at hBB; omega) ?_ ?_ ?_ f43 f42
  · rintro j τ' σ' hj ⟨hW, hF⟩ g43 g42
    have g4 := hF.get (by decide) f4
    have g6 := hF.get (by decide) f6
    obtain ⟨y, hy⟩ : ∃ s', x.2[j]? = some s' := ⟨_, List.getElem?_eq_getElem hj⟩
    have hsz := sum_mem (f := coSz) hy
    have hsl := sum_len seSz y.2
    have hyy : coSz y = sum seSz y.2 + y.1.length + 1 := rfl
    obtain ⟨xc, vc, oc, ch2, c1, ⟨a2, rfl, ha2⟩, c3⟩ := Wt.el ha hy
    have lv := hW.var hlo h4 (by decide) (by decide) (i := 1) rfl hd.nostr
    have lc := (d3 σ' hW).1 (by decide) (by decide) 1 a rfl ha.nostr
    have ls := (c3 σ' hW).1 (by decide) (by decide) 1 a2 rfl ha2.nostr
    simp only [y3_5, QA, Nat.reduceAdd, Nat.reduceLeDiff, Nat.reduceEqDiff, QZ, g4, g6, g43, lv, d1, lc, c1, ls, ha2.len]
    refine NR_in (wr_sels (i := i) (k := j) hW hlo h4 hd hx hy (by omega) (by omega) (by simp only [QA, Nat.reduceEqDiff, g4]) (by simp only [QA, Nat.reduceEqDiff, g6]) (by simp only [QA, Nat.reduceEqDiff]) (by simp only [QA, Nat.reduceEqDiff]) (by simp only [QA, Nat.reduceEqDiff])) ?_
    rintro τ2 σ2 ⟨hW2, hF2⟩
    have r4 := hF2.get (s := 4) (v := .ptr x4 0 0) (by decide) (by simp only [QA, Nat.reduceEqDiff, g4])
    have r6 := hF2.get (s := 6) (v := .int .i64 i) (by decide) (by simp only [QA, Nat.reduceEqDiff, g6])
    have r7 := hF2.get (s := 7) (v := .int .i64 j) (by decide) (by simp only [QA, Nat.reduceEqDiff])
    have r42 := hF2.get (s := 42) (v := .int .i64 x.2.length) (by decide) (by simp only [QA, Nat.reduceEqDiff, g42])
    have r43 := hF2.get (s := 43) (v := .int .i64 j) (by decide) (by simp only [QA, Nat.reduceEqDiff, g43])
    have lv2 := hW2.var hlo h4 (by decide) (by decide) (i := 1) rfl hd.nostr
    have lc2 := (d3 σ2 hW2).1 (by decide) (by decide) 1 a rfl ha.nostr
    obtain ⟨σ3, q5, q6⟩ := (c3 σ2 hW2).2.1 (by decide) (by decide) 0 y.1 [63] rfl
    simp only [QA, Nat.reduceAdd, Nat.reduceLeDiff, Nat.reduceEqDiff, QZ, r4, r6, r7, r42, r43, lv2, d1, lc2, c1, q5]
    refine ⟨q6, ?_⟩
    have hF3 := hF2.low (W' := Ws5) (by decide)
    repeat refine Fr.set ?_ (by decide)
    refine Fr.trans ?_ hF3
    repeat refine Fr.set ?_ (by decide)
    exact hF
  · rintro τ' σ' ⟨hW, hF⟩
    exact ⟨hW, hF.set (by decide)⟩
  · exact ⟨hW, Fr.refl _ _⟩

/-- the datatypes -/
theorem wr_datas {lf : Nat} {cf : CallF} {c σ1 σ : H} {x4 : Pos} {u v w : V} {D : List Da} (hW : Wt c σ1 σ) (hlo : c.nx.toNat ≤ x4.toNat) (h4 : σ1.get x4 = some (.cells 26 [u, v, w] 0 0 (some 0) [])) (hd : SP Eda 33 true σ1 (fun z => c.nx.toNat ≤ z) v D) (hlf : sum daSz D < lf) (hBB : sum daSz D < BB)
    {T : Tr V → H → Prop} {τ : Tr V} {v1 v3 : V} (f1 : τ.get (pk 1) = some v1) (f3 : τ.get (pk 3) = some v3) (f4 : τ.get (pk 4) = some (.ptr x4 0 0)) (f32 : τ.get (pk 32) = some (.int .i64 D.length)) (f33 : τ.get (pk 33) = some (.int .i64 0)) :
    NR (kBlk 2 (exec cf lf 121 (.loop b3_7) τ σ [])) (fun τ' σ' => Wt c σ1 σ' ∧ τ'.get (pk 1) = some v1 ∧ τ'.get (pk 3) = some v3 ∧ τ'.get (pk 4) = some (.ptr x4 0 0)) T := by
  have hlen := sum_len daSz D
  refine range_rule (l := 34) (i := 33) (nn := 32) (k := 84) (id := 2) (id' := 3) (B := y3_7) (N := D.length)
    (fun j τ' σ' => Wt c σ1 σ' ∧ τ'.get (pk 1) = some v1 ∧ τ'.get (pk 3) = some v3 ∧ τ'.get (pk 4) = some (.ptr x4 0 0)) _ T (by decide) (by decide) (by decide) (by decide) (by decide) (by decide) (by decide) (by omega) (by unfold BB at hBB; omega) ?_ ?_ ?_ f33 f32
  · rintro j τ' σ' hj ⟨hW, g1, g3, g4⟩ g33 g32
    obtain ⟨x, hx⟩ : ∃ s', D[j]? = some s' := ⟨_, List.getElem?_eq_getElem hj⟩
    have hsz := sum_mem (f := daSz) hx
    have hxx : daSz x = sum coSz x.2 + x.1.length + 1 := rfl
    obtain ⟨xd, vd, od, ch, d1, ⟨a, rfl, ha⟩, d3⟩ := Wt.el hd hx
    have lv := hW.var hlo h4 (by decide) (by decide) (i := 1) rfl hd.nostr
    have lc := (d3 σ' hW).1 (by decide) (by decide) 1 a rfl ha.nostr
    simp only [y3_7, QA, Nat.reduceAdd, Nat.reduceLeDiff, Nat.reduceEqDiff, QZ, g4, g33, lv, d1, lc, ha.len]
    refine NR_blk ((wr_cons (i := j) hW hlo h4 hd hx (by omega) (by omega) (by simp only [QA, Nat.reduceEqDiff, g4]) (by simp only [QA, Nat.reduceEqDiff]) (by simp only [QA, Nat.reduceEqDiff]) (by simp only [QA, Nat.reduceEqDiff])).mono ?_ (fun _ _ h => h))
    rintro τ2 σ2 ⟨hW2, hF2⟩
    have r1 := hF2.get (s := 1) (v := v1) (by decide) (by simp only [QA, Nat.reduceEqDiff, g1])
    have r3 := hF2.get (s := 3) (v := v3) (by decide) (by simp only [QA, Nat.reduceEqDiff, g3])
    have r4 := hF2.get (s := 4) (v := .ptr x4 0 0) (by decide) (by simp only [QA, Nat.reduceEqDiff, g4])
    have r32 := hF2.get (s := 32) (v := .int .i64 D.length) (by decide) (by simp only [QA, Nat.reduceEqDiff, g32])
    have r33 := hF2.get (s := 33) (v := .int .i64 j) (by decide) (by simp only [QA, Nat.reduceEqDiff, g33])
    exact ⟨r33, r32, hW2, by simp only [r1], by simp only [r3], by simp only [r4]⟩
  · rintro τ' σ' ⟨hW, g1, g3, g4⟩
    exact ⟨hW, by simp only [QA, Nat.reduceEqDiff, g1], by simp only [QA, Nat.reduceEqDiff, g3], by simp only [QA, Nat.reduceEqDiff, g4]⟩
  · exact ⟨hW, f1, f3, f4⟩

def Ws9 : List Nat := [10, 98, 99, 100, 101, 102, 103, 104, 105, 106, 107, 108, 109, 110]
/-- the sorts of a function -/
theorem wr_args {lf : Nat} {cf : CallF} {c σ1 σ : H} {x4 : Pos} {u v w : V} {F : List Fu} {x : Fu} {i : Nat} (hW : Wt c σ1 σ) (hlo : c.nx.toNat ≤ x4.toNat) (h4 : σ1.get x4 = some (.cells 26 [u, v, w] 0 0 (some 0) [])) (hf : SP Efu 44 true σ1 (fun z => c.nx.toNat ≤ z) w F) (hx : F[i]? = some x) (hlf : x.2.1.length < lf) (hBB : x.2.1.length < BB)
    {T : Tr V → H → Prop} {τ : Tr V} (f4 : τ.get (pk 4) = some (.ptr x4 0 0)) (f9 : τ.get (pk 9) = some (.int .i64 i)) (f97 : τ.get (pk 97) = some (.int .i64 x.2.1.length)) (f98 : τ.get (pk 98) = some (.int .i64 0)) :
    NR (kBlk 10 (exec cf lf 121 (.loop b3_9) τ σ [])) (fun τ' σ' => Wt c σ1 σ' ∧ Fr Ws9 τ τ') T := by
  obtain ⟨xd, vd, od, ch, d1, ⟨a, dd, rfl, ha, _⟩, d3⟩ := Wt.el hf hx
  refine range_rule (l := 99) (i := 98) (nn := 97) (k := 110) (id := 10) (id' := 11) (B := y3_9) (N := x.2.1.length)
    (fun j τ' σ' => Wt c σ1 σ' ∧ Fr Ws9 τ τ') _ T (by decide) (by decide) (by decide) (by decide) (by decide) (by decide) (by decide) hlf (by unfold BB at hBB; omega) ?_ ?_ ?_ f98 f97
  · rintro j τ' σ' hj ⟨hW, hF⟩ g98 g97
    have g4 := hF.get (by decide) f4
    have g9 := hF.get (by decide) f9
    obtain ⟨z, hz⟩ : ∃ s', x.2.1[j]? = some s' := ⟨_, List.getElem?_eq_getElem hj⟩
    obtain ⟨xs, vs, os, ch3, s1, _, s3⟩ := Wt.el ha hz
    have lv := hW.var hlo h4 (by decide) (by decide) (i := 2) rfl hf.nostr
    have lc := (d3 σ' hW).1 (by decide) (by decide) 1 a rfl ha.nostr
    obtain ⟨σ2, q5, q6⟩ := (s3 σ' hW).2.2 (.inr rfl) [.int .i64 99, .int .i64 0, .str [], .nils] rfl rfl
    have bd : kBuild [.int .i64 0, .int .i64 0, .str [], .nils] (some [(0, 1, .int .i64 99)]) = some (.agg [.int .i64 99, .int .i64 0, .str [], .nils]) := rfl
    simp only [y3_9, QA, Nat.reduceAdd, Nat.reduceLeDiff, Nat.reduceEqDiff, QZ, g4, g9, g97, g98, lv, d1, lc, s1, bd, q5]
    refine ⟨q6, ?_⟩
    repeat refine Fr.set ?_ (by decide)
    exact hF
  · rintro τ' σ' ⟨hW, hF⟩
    exact ⟨hW, hF.set (by decide)⟩
  · exact ⟨hW, Fr.refl _ _⟩
/-- the functions -/
theorem wr_funs {lf : Nat} {cf : CallF} {c σ1 σ : H} {x4 : Pos} {u v w : V} {F : List Fu} (hW : Wt c σ1 σ) (hlo : c.nx.toNat ≤ x4.toNat) (h4 : σ1.get x4 = some (.cells 26 [u, v, w] 0 0 (some 0) [])) (hf : SP Efu 44 true σ1 (fun z => c.nx.toNat ≤ z) w F) (hlf : sum fuSz F < lf) (hBB : sum fuSz F < BB)
    {T : Tr V → H → Prop} {τ : Tr V} {v1 v3 : V} (f1 : τ.get (pk 1) = some v1) (f3 : τ.get (pk 3) = some v3) (f4 : τ.get (pk 4) = some (.ptr x4 0 0)) (f87 : τ.get (pk 87) = some (.int .i64 F.length)) (f88 : τ.get (pk 88) = some (.int .i64 0)) :
    NR (kBlk 8 (exec cf lf 121 (.loop b3_11) τ σ [])) (fun τ' σ' => Wt c σ1 σ' ∧ τ'.get (pk 1) = some v1 ∧ τ'.get (pk 3) = some v3) T := by
  have hlen := sum_len fuSz F
  refine range_rule (l := 89) (i := 88) (nn := 87) (k := 116) (id := 8) (id' := 9) (B := y3_11) (N := F.length)
    (fun j τ' σ' => Wt c σ1 σ' ∧ τ'.get (pk 1) = some v1 ∧ τ'.get (pk 3) = some v3 ∧ τ'.get (pk 4) = some (.ptr x4 0 0)) _ T (by decide) (by decide) (by decide) (by decide) (by decide) (by decide) (by decide) (by omega) (by unfold BB at hBB; omega) ?_ ?_ ?_ f88 f87
  · rintro j τ' σ' hj ⟨hW, g1, g3, g4⟩ g88 g87
    obtain ⟨x, hx⟩ : ∃ s', F[j]? = some s' := ⟨_, List.getElem?_eq_getElem hj⟩
    have hsz := sum_mem (f := fuSz) hx
    have hxx : fuSz x = S.szL x.2.1 + x.2.2.sz + x.1.length + 1 := rfl
    have hal := S.szL_len x.2.1
    obtain ⟨xd, vd, od, ch, d1, ⟨a, dd, rfl, ha, _⟩, d3⟩ := Wt.el hf hx
    have lv := hW.var hlo h4 (by decide) (by decide) (i := 2) rfl hf.nostr
    have lc := (d3 σ' hW).1 (by decide) (by decide) 1 a rfl ha.nostr
    simp only [y3_11, QA, Nat.reduceAdd, Nat.reduceLeDiff, Nat.reduceEqDiff, QZ, g4, g88, lv, d1, lc, ha.len]
    refine NR_in (wr_args (i := j) hW hlo h4 hf hx (by omega) (by omega) (by simp only [QA, Nat.reduceEqDiff, g4]) (by simp only [QA, Nat.reduceEqDiff]) (by simp only [QA, Nat.reduceEqDiff]) (by simp only [QA, Nat.reduceEqDiff])) ?_
    rintro τ2 σ2 ⟨hW2, hF2⟩
    have r1 := hF2.get (s := 1) (v := v1) (by decide) (by simp only [QA, Nat.reduceEqDiff, g1])
    have r3 := hF2.get (s := 3) (v := v3) (by decide) (by simp only [QA, Nat.reduceEqDiff, g3])
    have r4 := hF2.get (s := 4) (v := .ptr x4 0 0) (by decide) (by simp only [QA, Nat.reduceEqDiff, g4])
    have r9 := hF2.get (s := 9) (v := .int .i64 j) (by decide) (by simp only [QA, Nat.reduceEqDiff])
    have r87 := hF2.get (s := 87) (v := .int .i64 F.length) (by decide) (by simp only [QA, Nat.reduceEqDiff, g87])
    have r88 := hF2.get (s := 88) (v := .int .i64 j) (by decide) (by simp only [QA, Nat.reduceEqDiff, g88])
    have lv2 := hW2.var hlo h4 (by decide) (by decide) (i := 2) rfl hf.nostr
    obtain ⟨σ3, q5, q6⟩ := (d3 σ2 hW2).2.1 (by decide) (by decide) 0 x.1 [63] rfl
    simp only [QA, Nat.reduceAdd, Nat.reduceLeDiff, Nat.reduceEqDiff, QZ, r1, r3, r4, r9, r87, r88, lv2, d1, q5]
    exact q6
  · rintro τ' σ' ⟨hW, g1, g3, g4⟩
    exact ⟨hW, by simp only [QA, Nat.reduceEqDiff, g1], by simp only [QA, Nat.reduceEqDiff, g3]⟩
  · exact ⟨hW, f1, f3, f4⟩
end Go.Proofs.YtfgghbikbaopjaaGreatDoorEng

namespace Go.Proofs.YtfgghbikbaopjaaGreatDoorEng
open Go
set_option maxRecDepth 100000
set_option linter.unusedSimpArgs false

theorem c3_at : T1.code 3 = some c3 := by kernel_rfl
set_option maxHeartbeats 1000000 in
/-- THE LAW, on the machine. -/
theorem own_run {lf m : Nat} {σ : H} {o : Bool} {Q : Nat → Prop} {u d f : V} {g : Sg} (hw : WfH σ) (hu : SP Est 9 o σ Q u g.us) (hd : SP Eda 33 o σ Q d g.ds) (hf : SP Efu 44 o σ Q f g.fs) (hlf : 2 * sgSz g + 4 < lf) (hlf2 : 35 < lf) (hBB : 2 * sgSz g + 4 < BB) (hm : sgSz g ≤ m) :
    ∃ σ', call T1 lf (m + 10) 3 [.agg [u, d, f]] σ = .ret (.bool true) σ' := by
  have hsg : sgSz g = sum List.length g.us + sum daSz g.ds + sum fuSz g.fs + 1 := rfl
  have hlu := sum_len List.length g.us
  have key : ∃ v σ', call T1 lf (m + 10) 3 [.agg [u, d, f]] σ = .ret v σ' ∧ v = .bool true := by
    refine call_rt1 (p := pk 2) (Post := fun v _ => v = .bool true) rfl c3_at (by simp [c3]) rfl fun cf hcf => ?_
    generalize hτ : bindArgs [.agg [u, d, f]] .h .lf = τ0
    have h0 : τ0.get (pk 0) = some (.agg [u, d, f]) := by rw [← hτ]; rfl
    clear hτ
    have al : ∀ σ, cf 7 [] σ = .ret (.bool true) σ := fun σ => by rw [hcf, call_intr (g := iTrue) rfl]; rfl
    have hKa := Keep.new σ (.cells 26 [u, d, f] 0 0 (some 0) [])
    have ga := (Keep.refl (σ.new (.cells 26 [u, d, f] 0 0 (some 0) []))).at
    have hw1 := hKa.2.2 hw
    generalize hσ1 : σ.new (.cells 26 [u, d, f] 0 0 (some 0) []) = σ1 at *
    have hu1 := hu.keep hKa
    have hd1 := hd.keep hKa
    have hf1 := hf.keep hKa
    have lg1 := (At.var ga).ldg (n := 3) rfl
    obtain ⟨v, σ2, z1, z2, z3⟩ := declared_call (lf := lf) (m := m) hw1 hu1 hd1 hf1 hlf hlf2 hBB hm
    have hw2 := z2.2.2 hw1
    rw [← hcf] at z1
    rcases z3 with rfl | ⟨xe, rfl, hE⟩
    · have e1 : kBin .eql (.sc .ptr) (some .nilp) (some .nilp) = some (.bool true) := rfl
      simp only [c3, QA, Nat.reduceAdd, Nat.reduceLeDiff, Nat.reduceEqDiff, QZ, e_box, h0, hσ1, lg1, z1, al, e1]
    · have e1 : kBin .eql (.sc .ptr) (some (.ptr xe 0 0)) (some .nilp) = some (.bool false) := rfl
      obtain ⟨l, σ3, s1, s2, u', v', w', rfl, hu3, hd3, hf3⟩ := sig_call (lf := lf) (m := m + 6) hw2 hE (by omega) (by omega) (by omega)
      have hw3 := s2.2.2 hw2
      obtain ⟨σ4, k1, k2, k3⟩ := var_new σ3 26 3 (zs := [.nils, .nils, .nils]) (c := [u', v', w']) rfl rfl (by rw [List.all_cons, List.all_cons, List.all_cons, hu3.one, hd3.one, hf3.one]; rfl)
      have hK24 := s2.trans k2
      have hu4 := hu3.keep k2
      have hd4 := hd3.keep k2
      have hf4 := hf3.keep k2
      have hlo : σ2.nx.toNat ≤ σ3.nx.toNat := s2.1
      have lu4 : ldv σ4 (.ptr σ3.nx 0 0) = some u' := ldk k3 rfl
      rw [← hcf] at s1
      simp only [c3, QA, Nat.reduceAdd, Nat.reduceLeDiff, Nat.reduceEqDiff, QZ, e_box, h0, hσ1, lg1, z1, al, e1, s1, k1, lu4, hu4.len]
      refine Rt_seqNR (wr_users (c := σ2) (σ1 := σ4) (x4 := σ3.nx) (Wt.refl hK24) hlo k3 hu4 (by omega) (by omega) (v1 := .ptr σ.nx 0 0) (v3 := .ptr xe 0 0) (by simp only [QA, Nat.reduceEqDiff]) (by simp only [QA, Nat.reduceEqDiff]) (by simp only [QA, Nat.reduceEqDiff]) (by simp only [QA, Nat.reduceEqDiff]) (by simp only [QA, Nat.reduceEqDiff])) ?_
      rintro τ σ5 ⟨hW5, g1, g3, g4⟩
      have lv5 := hW5.var hlo k3 (by decide) (by decide) (i := 1) rfl hd4.nostr
      simp only [QA, Nat.reduceAdd, Nat.reduceLeDiff, QZ, g4, lv5, hd4.len]
      refine Rt_seqNR (wr_datas (c := σ2) (σ1 := σ4) (x4 := σ3.nx) hW5 hlo k3 hd4 (by omega) (by omega) (v1 := .ptr σ.nx 0 0) (v3 := .ptr xe 0 0) (by simp only [QA, Nat.reduceEqDiff, g1]) (by simp only [QA, Nat.reduceEqDiff, g3]) (by simp only [QA, Nat.reduceEqDiff, g4]) (by simp only [QA, Nat.reduceEqDiff]) (by simp only [QA, Nat.reduceEqDiff])) ?_
      rintro τ σ6 ⟨hW6, g1, g3, g4⟩
      have lv6 := hW6.var hlo k3 (by decide) (by decide) (i := 2) rfl hf4.nostr
      simp only [QA, Nat.reduceAdd, Nat.reduceLeDiff, QZ, g4, lv6, hf4.len]
      refine Rt_seqNR (wr_funs (c := σ2) (σ1 := σ4) (x4 := σ3.nx) hW6 hlo k3 hf4 (by omega) (by omega) (v1 := .ptr σ.nx 0 0) (v3 := .ptr xe 0 0) (by simp only [QA, Nat.reduceEqDiff, g1]) (by simp only [QA, Nat.reduceEqDiff, g3]) (by simp only [QA, Nat.reduceEqDiff, g4]) (by simp only [QA, Nat.reduceEqDiff]) (by simp only [QA, Nat.reduceEqDiff])) ?_
      rintro τ σ7 ⟨hW7, g1, g3⟩
      have hK27 := hW7.keep
      have hw7 := hK27.2.2 hw2
      have hE7 := hE.keep hw2 hK27
      have hK17 := z2.trans hK27
      have ga7 := hK17.get_some hw1 ga
      have lg7 := (At.var ga7).ldg (n := 3) rfl
      obtain ⟨l, σ8, s3, s4, u8, v8, w8, rfl, hu8, hd8, hf8⟩ := sig_call (lf := lf) (m := m + 6) hw7 hE7 (by omega) (by omega) (by omega)
      have hw8 := s4.2.2 hw7
      have hK18 := hK17.trans s4
      obtain ⟨σ9, s5, s6⟩ := sameSig_call (lf := lf) (m := m + 6) hw8 hu8 hd8 hf8 ((hu1.keep hK18).low (Q' := fun _ => True) fun _ _ => trivial) ((hd1.keep hK18).low (Q' := fun _ => True) fun _ _ => trivial) ((hf1.keep hK18).low (Q' := fun _ => True) fun _ _ => trivial) (by omega) (by omega) (by omega)
      rw [← hcf] at s3 s5
      simp only [QA, Nat.reduceAdd, Nat.reduceLeDiff, Nat.reduceEqDiff, QD, w_1g, w_1gk, g1, g3, lg7, s3, s5, ne_eq, not_false_eq_true, Nat.zero_ne_one]
      rw [if_pos]
      · simp only [QA, Nat.reduceEqDiff]
      · rw [owe_keepR ga7 hw7 (fun s h => by
          simp only [List.reverse_cons, List.reverse_nil, List.nil_append, List.cons_append, List.drop_zero, List.take_succ_cons, List.take_zero, List.mem_cons, List.not_mem_nil, or_false] at h
          rcases h with rfl | rfl
          · exact Keep.refl _
          · exact s4)]
        rfl
  obtain ⟨v, σ', h1, rfl⟩ := key
  exact ⟨σ', h1⟩
end Go.Proofs.YtfgghbikbaopjaaGreatDoorEng

