/- Layer 9 run on symbols: what BitsBack wants beside Parse. (Numbers of seat r2.) -/
import Derived.Test.YtahgfodccndcjaaGreatB2
namespace Go.Proofs.YtahgfodccndcjaaGreatEng
open Go
set_option maxRecDepth 100000
set_option linter.unusedSimpArgs false

theorem w_drw (cf : CallF) (lf n : Nat) (ops : List DO) (τ : Tr V) (σ : H) (d : List Df) : exec cf lf n (.drw ops) τ σ d = runDrw cf n ops τ σ d [] [] := rfl
theorem w_nil (cf : CallF) (n : Nat) (τ : Tr V) (σ : H) (d : List Df) (es : List H) (os : List Owe) : runDrw cf n [] τ σ d es os = if os.all (oweOk (σ :: es).reverse) then .nx τ σ d else .bad := rfl
def kD0 (cf : CallF) (n : Nat) (r : List DO) (d : List Df) (es : List H) (os : List Owe) : R → R
  | .nx τ' σ' _ => runDrw cf n r τ' σ' d es os
  | _ => .bad
theorem w_0 (cf : CallF) (n : Nat) (co : CO) (k lo hi : Nat) (tl : Bool) (r : List DO) (τ : Tr V) (σ : H) (d : List Df) (es : List H) (os : List Owe) :
    runDrw cf n (⟨co, k, 0, lo, hi, tl⟩ :: r) τ σ d es os = kD0 cf n r d es os (stepOp cf n co τ σ d) := by
  simp only [runDrw]; cases stepOp cf n co τ σ d <;> rfl
theorem w_3 (cf : CallF) (n : Nat) (co : CO) (k lo hi : Nat) (tl : Bool) (r : List DO) (τ : Tr V) (σ : H) (d : List Df) (es : List H) (os : List Owe) :
    runDrw cf n (⟨co, k, 3, lo, hi, tl⟩ :: r) τ σ d es os = kD0 cf n r d es os (stepOp cf n co τ σ d) := by
  simp only [runDrw]; cases stepOp cf n co τ σ d <;> rfl
theorem w_0nx (cf : CallF) (n : Nat) (r : List DO) (d d' : List Df) (es : List H) (os : List Owe) (τ : Tr V) (σ : H) : kD0 cf n r d es os (.nx τ σ d') = runDrw cf n r τ σ d es os := rfl
def kD1 (cf : CallF) (n : Nat) (r : List DO) (σ : H) (d : List Df) (es : List H) (os : List Owe) : R → R
  | .nx τ' _ _ => runDrw cf n r τ' σ d es os
  | _ => .bad
theorem w_1s (cf : CallF) (n : Nat) (co : CO) (k lo : Nat) (tl : Bool) (r : List DO) (τ : Tr V) (σ : H) (d : List Df) (es : List H) (os : List Owe) :
    runDrw cf n (⟨co, k, 1, lo, lo, tl⟩ :: r) τ σ d es os = kD1 cf n r σ d es os (stepOp cf n co τ σ d) := by
  simp only [runDrw, if_true]; cases stepOp cf n co τ σ d <;> rfl
theorem w_1nx (cf : CallF) (n : Nat) (r : List DO) (σ σ' : H) (d d' : List Df) (es : List H) (os : List Owe) (τ : Tr V) : kD1 cf n r σ d es os (.nx τ σ' d') = runDrw cf n r τ σ d es os := rfl
def owe1 (σ : H) (lo hi : Nat) (os : List Owe) : V → List Owe
  | .ptr x _ _ => ⟨x, lo, hi, σ.stamp x⟩ :: os
  | _ => os
def kDl (cf : CallF) (n : Nat) (r : List DO) (p : Pos) (τ : Tr V) (σ : H) (d : List Df) (es : List H) (os : List Owe) (lo hi : Nat) (q : V) : Option V → R
  | some v => kD1 cf n r σ d es (owe1 σ lo hi os q) (kPut n p τ σ d (some v))
  | none => .bad
def kDL (cf : CallF) (n : Nat) (r : List DO) (p : Pos) (τ : Tr V) (σ : H) (d : List Df) (es : List H) (os : List Owe) (lo hi : Nat) : Option V → R
  | some q => kDl cf n r p τ σ d es os lo hi q (ldv σ q)
  | none => .bad
theorem w_1l (cf : CallF) (n : Nat) (p : Pos) (a : Arg) (k lo hi : Nat) (hl : lo ≠ hi) (tl : Bool) (r : List DO) (τ : Tr V) (σ : H) (d : List Df) (es : List H) (os : List Owe) :
    runDrw cf n (⟨⟨some p, .r (.load none a), none⟩, k, 1, lo, hi, tl⟩ :: r) τ σ d es os = kDL cf n r p τ σ d es os lo hi (a.ev τ) := by
  simp only [runDrw, s_R, e_ld, guardV, if_neg hl, ROp.foot]
  cases ha : a.ev τ with
  | none => rfl
  | some q =>
    simp only [k_bind, kDL, kDl]
    cases q with
    | ptr x v o =>
      cases ldv σ (.ptr x v o) with
      | none => rfl
      | some u => simp only []; cases kPut n p τ σ d (some u) <;> rfl
    | rop c o =>
      cases ldv σ (.rop c o) with
      | none => rfl
      | some u => simp only []; cases kPut n p τ σ d (some u) <;> rfl
    | _ => rfl
theorem w_1lk (cf : CallF) (n : Nat) (r : List DO) (p : Pos) (τ : Tr V) (σ : H) (d : List Df) (es : List H) (os : List Owe) (lo hi : Nat) (q : V) : kDL cf n r p τ σ d es os lo hi (some q) = kDl cf n r p τ σ d es os lo hi q (ldv σ q) := rfl
theorem w_1ls (cf : CallF) (n : Nat) (r : List DO) (p : Pos) (τ : Tr V) (σ : H) (d : List Df) (es : List H) (os : List Owe) (lo hi : Nat) (q v : V) : kDl cf n r p τ σ d es os lo hi q (some v) = kD1 cf n r σ d es (owe1 σ lo hi os q) (kPut n p τ σ d (some v)) := rfl
def kD2 (cf : CallF) (n : Nat) (r : List DO) (σ : H) (es : List H) (os : List Owe) (tl : Bool) : R → R
  | .nx τ' σ' d' => runDrw cf n r τ' σ' d' (σ :: es) os
  | .pn v _ σ' d' => if tl && os.all (oweOk (σ :: es).reverse) then .pn v .lf σ' d' else .bad
  | _ => .bad
theorem w_2 (cf : CallF) (n : Nat) (co : CO) (k lo hi : Nat) (tl : Bool) (r : List DO) (τ : Tr V) (σ : H) (d : List Df) (es : List H) (os : List Owe) :
    runDrw cf n (⟨co, k, 2, lo, hi, tl⟩ :: r) τ σ d es os = kD2 cf n r σ es os tl (stepOp cf n co τ σ d) := by
  simp only [runDrw]; cases stepOp cf n co τ σ d <;> rfl
theorem w_2nx (cf : CallF) (n : Nat) (r : List DO) (σ σ' : H) (es : List H) (os : List Owe) (tl : Bool) (τ : Tr V) (d : List Df) : kD2 cf n r σ es os tl (.nx τ σ' d) = runDrw cf n r τ σ' d (σ :: es) os := rfl
/-- what was read where nothing turned -/
theorem owe_ok {σ : H} {lo hi : Nat} {os : List Owe} {q v : V} (h : ldv σ q = some v) {es : List H} (he : ∀ σ' ∈ es, σ' = σ) : (owe1 σ lo hi os q).all (oweOk es) = os.all (oweOk es) := by
  cases q with
  | ptr x ver o =>
    simp only [owe1, List.all_cons]
    have : oweOk es ⟨x, lo, hi, σ.stamp x⟩ = true := by
      simp only [oweOk, List.all_eq_true]
      intro σ' h'
      rw [he σ' (List.mem_of_mem_drop (List.mem_of_mem_take h'))]
      have : ∃ n, σ.stamp x = some n := by
        simp only [ldv, blkCells] at h
        split at h
        · rename_i c hc
          split at hc
          · rename_i hg
            obtain ⟨n, hn⟩ := get_some_m hg
            exact ⟨n, by simp [H.stamp, hn]⟩
          · cases hc
        · cases h
      obtain ⟨n, hn⟩ := this
      simp [hn]
    rw [this, Bool.true_and]
  | _ => rfl
theorem e_orU (q : EqT) (x y : Nat) (hx : x < 18446744073709551616) (hy : y < 18446744073709551616) : kBin .or q (some (.int .u64 x)) (some (.int .u64 y)) = some (.int .u64 (x ||| y : Nat)) := by
  rw [e_int _ _ _ _ _ rfl]
  simp only [ibin]
  congr 2
  have hxy : x ||| y < 18446744073709551616 := Nat.or_lt_two_pow (n := 64) hx hy
  have e : (BitVec.ofInt IntKind.u64.bits (x : Int) ||| BitVec.ofInt IntKind.u64.bits (y : Int)).toNat = x ||| y := by
    simp only [BitVec.toNat_or]
    have h1 : ∀ n : Nat, n < 18446744073709551616 → (BitVec.ofInt IntKind.u64.bits (n : Int)).toNat = n := by
      intro n hn
      simp [IntKind.bits]; omega
    rw [h1 x hx, h1 y hy]
  rw [e, wrapU, Nat.mod_eq_of_lt hxy]

theorem e_ixk (k : IntKind) {s : List Nat} {i : Nat} (h : i < s.length) : kIx (some (.str s)) (some (.int k (i : Nat))) = some (.int .u8 (s.getD i 0 : Nat)) := by
  simp only [kIx]
  rw [if_pos (Int.natCast_nonneg i)]
  simp [h, List.getElem?_eq_getElem h]
/-- A list that grows: nothing yet, or a slice of new memory, to its end. -/
def Acc (f : Nat → V) (ty : Nat) (σ0 σ : H) (v : V) (D : List Nat) : Prop :=
  (D = [] ∧ v = .nils) ∨ ∃ x ver minv ex, v = .sl x ver 0 D.length none 1 ∧ σ.get x = some (.cells ty (D.map f) ver minv (some 0) ex) ∧ σ0.nx.toNat ≤ x.toNat ∧ x.toNat < σ.nx.toNat
theorem Acc.UG {f : Nat → V} {ty : Nat} {σ0 σ : H} {v : V} {D : List Nat} (h : Acc f ty σ0 σ v D) : UG f σ v D := by
  rcases h with ⟨rfl, rfl⟩ | ⟨x, ver, minv, ex, rfl, hg, _, _⟩
  · exact UG.nils f σ
  · refine ⟨rfl, rfl, ?_⟩
    simp only [slCells, blkCells, hg, visib, if_true, cut, Nat.zero_add, Nat.mul_one, List.length_map]
    rw [if_pos (Nat.le_refl _), List.drop_zero, List.take_of_length_le (by simp)]
theorem Acc.app {f : Nat → V} (hf : ∀ n, (f n).one = true) {ty eb : Nat} {σ0 σ : H} {v : V} {D : List Nat} {w : Nat} (_hw : WfH σ) (h : Acc f ty σ0 σ v D) (hK : Keep σ0 σ) (hb : (D.length + 1) * eb ≤ mostBytes) (hb2 : D.length + 1 ≤ mostBytes) :
    ∃ v' σ', appV (σ.new (.cells ty [f w] 0 0 (some 0) [])) ty 1 eb v (.sl σ.nx 0 0 1 (some 1) 0) = .ok v' σ' ∧ Acc f ty σ0 σ' v' (D ++ [w]) ∧ Keep σ0 σ' := by
  have hy : Go.Proofs.YtahgfodccndcjaaGreatEng.UG f (σ.new (.cells ty [f w] 0 0 (some 0) [])) (.sl σ.nx 0 0 1 (some 1) 0) [w] := UG.one (by rw [H.get_new, if_pos rfl])
  have hK1 := hK.trans (Keep.new σ (.cells ty [f w] 0 0 (some 0) []))
  rcases h with ⟨rfl, rfl⟩ | ⟨x, ver, minv, ex, rfl, hg, h1, h2⟩
  · refine ⟨_, _, app_nil hy (by simp) (by simpa using hb) (by simpa using hb2), ?_, hK1.trans (Keep.new _ _)⟩
    refine .inr ⟨_, 0, 0, [], rfl, by rw [H.get_new, if_pos rfl]; rfl, hK1.1, by simp only [nx_new]; omega⟩
  · have hx : (σ.new (.cells ty [f w] 0 0 (some 0) [])).get x = some (.cells ty (D.map f) ver minv (some 0) ex) := by
      rw [H.get_new, if_neg (fun e => by rw [e] at h2; omega)]; exact hg
    refine ⟨_, _, app_end hf hy hx hb hb2, ?_, hK1.put h1 (by rw [nx_new]; omega) _⟩
    refine .inr ⟨x, ver + 1, minv, _, by simp, by rw [H.get_put, if_pos rfl], h1, by rw [nx_put, nx_new]; omega⟩
/-- a loop within a loop -/
theorem NXT_in {cf : CallF} {lf n id j : Nat} {b : CC} {r : R} {N A X T : Tr V → H → Prop} (h : Nx r N) (k : ∀ τ σ, N τ σ → NXT id (exec cf lf n b τ σ []) A X T) : NXT id (kSeq cf lf n b (kBlk j r)) A X T := by
  obtain ⟨τ, σ, rfl, hN⟩ := h.elim
  exact k τ σ hN
/-- a variable of two cells: the end, where both are written -/
theorem fin_cell {f : Nat → V} {ty : Nat} {a b : V} (hfa : ∀ n, f n ≠ a) (hfb : ∀ n, f n ≠ b) {σ σ1 : H} (hK : Keep (σ.new (.cells ty [a, b] 0 0 (some 0) [])) σ1) {v w : V} (hv : v.one = true) (hw' : w.one = true) :
    ∃ σ2, stV σ1 2 (.ptr σ.nx 0 0) (.agg [v, w]) = .ok undefV σ2 ∧ blkCells σ2 σ.nx 0 = some [v, w] ∧ Keep σ σ2 ∧ (∀ a A, UG f σ1 a A → UG f σ2 a A) := by
  have hnx0 : σ.nx.toNat < (σ.new (.cells ty [a, b] 0 0 (some 0) [])).nx.toNat := by rw [nx_new]; omega
  have hg1 : σ1.get σ.nx = some (.cells ty [a, b] 0 0 (some 0) []) := by rw [hK.get hnx0, H.get_new, if_pos rfl]
  refine ⟨_, st2 hg1 hv hw', by simp only [blkCells, H.get_put, if_true, visib], ((Keep.new σ _).trans hK).put (Nat.le_refl _) (Nat.lt_of_lt_of_le hnx0 hK.1) _, fun s A hU => ?_⟩
  obtain ⟨u1, u2, u3⟩ := hU
  refine ⟨u1, u2, ?_⟩
  cases s with
  | sl x ver o len cap es =>
    simp only [slCells, blkCells] at u3 ⊢
    by_cases e : x = σ.nx
    · subst e
      rw [hg1] at u3
      rw [H.get_put, if_pos rfl]
      simp only [visib] at u3 ⊢
      by_cases hver : ver = 0
      · subst hver
        simp only [if_true] at u3 ⊢
        obtain ⟨c1, c2⟩ := cut_some u3
        cases A with
        | nil =>
          simp only [List.length_nil, Nat.zero_mul, Nat.add_zero, cut, List.take_zero, List.map_nil] at c1 ⊢
          rw [if_pos (by simpa using c1)]
        | cons n A =>
          exfalso
          have hm : f n ∈ ((n :: A).map f) := by simp
          rw [c2] at hm
          have := List.mem_of_mem_drop (List.mem_of_mem_take hm)
          simp [hfa, hfb] at this
      · rw [if_neg hver, if_neg (by omega)] at u3
        simp at u3
    · rw [H.get_put, if_neg e]; exact u3
  | nils => exact u3
  | ros => exact u3
  | _ => simp [okSl] at u1

def kBox (ty : Nat) : Option V → Option (AK × Blk)
  | some v => some (.ptr, .cells ty v.cells 0 0 (some 0) [])
  | none => none
theorem e_box (τ : Tr V) (ty : Nat) (a : Arg) : AOp.ev τ (.box ty a) = kBox ty (a.ev τ) := by
  simp only [AOp.ev]; cases a.ev τ <;> rfl
theorem e_box2 (ty : Nat) (v w : V) : kBox ty (some (.agg [v, w])) = some (.ptr, .cells ty [v, w] 0 0 (some 0) []) := rfl
def fadV (off : Nat) : V → Option V
  | .ptr x v o => some (.ptr x v (o + off))
  | .rop c o => some (.rop c (o + off))
  | _ => none
theorem e_faddr (τ : Tr V) (off : Nat) (a : Arg) : POp.ev τ (.faddr off a) = kBind (fadV off) (a.ev τ) := by
  simp only [POp.ev]
  cases a.ev τ with
  | none => rfl
  | some v => cases v <;> rfl
theorem e_fadp (off o : Nat) (x : Pos) (v : Nat) : fadV off (.ptr x v o) = some (.ptr x v (o + off)) := rfl
def ldg (σ : H) (n : Nat) : V → Option V
  | .ptr x v o => match blkCells σ x v with
    | some c => pick1 (some n) c o
    | none => none
  | .rop c o => pick1 (some n) c o
  | _ => none
theorem e_lg (τ : Tr V) (σ : H) (n : Nat) (a : Arg) : ROp.ev τ σ (.load (some n) a) = kBind (ldg σ n) (a.ev τ) := by
  simp only [ROp.ev]
  cases a.ev τ with
  | none => rfl
  | some v => cases v <;> rfl
theorem ldg2 {σ : H} {x : Pos} {ty ver minv : Nat} {v w : V} {ex : List Nat} (h : σ.get x = some (.cells ty [v, w] ver minv (some 0) ex)) : ldg σ 2 (.ptr x ver 0) = some (.agg [v, w]) := by
  simp only [ldg, blkCells, h, visib, if_true]; rfl
theorem ldg2' {σ : H} {x : Pos} {v w : V} (h : blkCells σ x 0 = some [v, w]) : ldg σ 2 (.ptr x 0 0) = some (.agg [v, w]) := by
  simp only [ldg, h]; rfl
theorem ld20 {σ : H} {x : Pos} {ty ver minv : Nat} {v w : V} {ex : List Nat} (h : σ.get x = some (.cells ty [v, w] ver minv (some 0) ex)) : ldv σ (.ptr x ver 0) = some v := by
  simp only [ldv, blkCells, h, visib, if_true]; rfl
theorem ld21 {σ : H} {x : Pos} {ty ver minv : Nat} {v w : V} {ex : List Nat} (h : σ.get x = some (.cells ty [v, w] ver minv (some 0) ex)) : ldv σ (.ptr x ver 1) = some w := by
  simp only [ldv, blkCells, h, visib, if_true]; rfl
theorem Keep.at {σ σ' : H} {b : Blk} (h : Keep (σ.new b) σ') : σ'.get σ.nx = some b := by
  rw [h.get (x := σ.nx) (by rw [nx_new]; omega), H.get_new, if_pos rfl]
/-- a result that lies in a variable of two cells -/
theorem call_rc {T : Tab} {f : Nat} {c : CFun} {p : Pos} {lf m : Nat} {args : List V} {σ : H} {Post : V → V → H → Prop} (hi : T.intr f = none) (hc : T.code f = some c) (hl : args.length ≤ c.n) (hr : c.res = [.cell p (some 2)])
    (h : ∀ cf, cf = call T lf m → Rt (exec cf lf c.n c.body (bindArgs args .h .lf) σ []) fun τ σ' => ∃ x v w, τ.get p = some (.ptr x 0 0) ∧ blkCells σ' x 0 = some [v, w] ∧ Post v w σ') :
    ∃ v w σ', call T lf (m + 1) f args σ = .ret (.agg [v, w]) σ' ∧ Post v w σ' := by
  obtain ⟨τ, σ', h1, x, v, w, h2, h3, h5⟩ := (h _ rfl).elim
  refine ⟨v, w, σ', ?_, h5⟩
  rw [call_def hi hc lf m args σ hl, h1, fin_rt, hr]
  simp [retOf, resV, resAll, resOne, h2, h3, pick1, cut]

theorem wd_neB (n : Nat) (b : Bool) : wd n ≠ .bool b := by simp [wd]
theorem wd_neN (n : Nat) : wd n ≠ .nils := by simp [wd]
theorem wd_neI (n : Nat) : wd n ≠ .int .i64 0 := by simp [wd]
def kB21 (z0 : V) : Option V → Option V
  | some w => if w.cells.length = 1 then some (.agg (z0 :: w.cells)) else none
  | _ => none
theorem e_build21 (τ : Tr V) (z0 z1 : V) (b : Arg) : POp.ev τ (.build [z0, z1] [(1, 1, b)]) = kB21 z0 (b.ev τ) := by
  simp only [POp.ev, evParts]
  cases b.ev τ with
  | none => rfl
  | some w =>
    simp only [kB21]
    cases hw : w.cells with
    | nil => simp [fillL, hw]
    | cons d0 d =>
      cases d with
      | nil => simp [fillL, hw]
      | cons => simp [fillL, hw]

theorem e_quo64 (q : EqT) (i : Nat) (h : i < 4611686018427387904) : kBin .quo q (some (.int .i64 i)) (some (.int .i64 64)) = some (.int .i64 (i / 64 : Nat)) := by
  rw [e_quo _ _ _ _ (by decide)]
  have : (i : Int).tdiv 64 = ((i / 64 : Nat) : Int) := by
    rw [Int.tdiv_eq_ediv_of_nonneg (Int.natCast_nonneg i)]; rfl
  rw [this, wrap_nat (by omega)]
theorem e_rem64 (q : EqT) (i : Nat) : kBin .rem q (some (.int .i64 i)) (some (.int .i64 64)) = some (.int .i64 (i % 64 : Nat)) := by
  rw [e_rem _ _ _ _ (by decide)]
  have : (i : Int).tmod 64 = ((i % 64 : Nat) : Int) := by
    rw [Int.tmod_eq_emod_of_nonneg (Int.natCast_nonneg i)]; rfl
  rw [this]

/-- two results that lie in variables of two cells, and one more -/
theorem call_rcct {T : Tab} {f : Nat} {c : CFun} {p q t : Pos} {lf m : Nat} {args : List V} {σ : H} {Post : V → V → V → V → V → H → Prop} (hi : T.intr f = none) (hc : T.code f = some c) (hl : args.length ≤ c.n) (hr : c.res = [.cell p (some 2), .cell q (some 2), .t t])
    (h : ∀ cf, cf = call T lf m → Rt (exec cf lf c.n c.body (bindArgs args .h .lf) σ []) fun τ σ' => ∃ x y v w v' w' u, τ.get p = some (.ptr x 0 0) ∧ blkCells σ' x 0 = some [v, w] ∧ τ.get q = some (.ptr y 0 0) ∧ blkCells σ' y 0 = some [v', w'] ∧ τ.get t = some u ∧ Post v w v' w' u σ') :
    ∃ v w v' w' u σ', call T lf (m + 1) f args σ = .ret (.tup [.agg [v, w], .agg [v', w'], u]) σ' ∧ Post v w v' w' u σ' := by
  obtain ⟨τ, σ', h1, x, y, v, w, v', w', u, h2, h3, h4, h5, h6, h7⟩ := (h _ rfl).elim
  refine ⟨v, w, v', w', u, σ', ?_, h7⟩
  rw [call_def hi hc lf m args σ hl, h1, fin_rt, hr]
  simp [retOf, resV, resAll, resOne, h2, h3, h4, h5, h6, pick1, cut]
theorem call_rcc {T : Tab} {f : Nat} {c : CFun} {p q : Pos} {lf m : Nat} {args : List V} {σ : H} {Post : V → V → V → V → H → Prop} (hi : T.intr f = none) (hc : T.code f = some c) (hl : args.length ≤ c.n) (hr : c.res = [.cell p (some 2), .cell q (some 2)])
    (h : ∀ cf, cf = call T lf m → Rt (exec cf lf c.n c.body (bindArgs args .h .lf) σ []) fun τ σ' => ∃ x y v w v' w', τ.get p = some (.ptr x 0 0) ∧ blkCells σ' x 0 = some [v, w] ∧ τ.get q = some (.ptr y 0 0) ∧ blkCells σ' y 0 = some [v', w'] ∧ Post v w v' w' σ') :
    ∃ v w v' w' σ', call T lf (m + 1) f args σ = .ret (.tup [.agg [v, w], .agg [v', w']]) σ' ∧ Post v w v' w' σ' := by
  obtain ⟨τ, σ', h1, x, y, v, w, v', w', h2, h3, h4, h5, h7⟩ := (h _ rfl).elim
  refine ⟨v, w, v', w', σ', ?_, h7⟩
  rw [call_def hi hc lf m args σ hl, h1, fin_rt, hr]
  simp [retOf, resV, resAll, resOne, h2, h3, h4, h5, pick1, cut]

/- reads whose order is open, over calls that make new memory alone -/
def kDG (cf : CallF) (n : Nat) (r : List DO) (p : Pos) (τ : Tr V) (σ : H) (d : List Df) (es : List H) (os : List Owe) (lo hi g : Nat) : Option V → R
  | some q => kDl cf n r p τ σ d es os lo hi q (ldg σ g q)
  | none => .bad
theorem w_1g (cf : CallF) (n : Nat) (p : Pos) (a : Arg) (k lo hi g : Nat) (hl : lo ≠ hi) (tl : Bool) (r : List DO) (τ : Tr V) (σ : H) (d : List Df) (es : List H) (os : List Owe) :
    runDrw cf n (⟨⟨some p, .r (.load (some g) a), none⟩, k, 1, lo, hi, tl⟩ :: r) τ σ d es os = kDG cf n r p τ σ d es os lo hi g (a.ev τ) := by
  simp only [runDrw, s_R, e_lg, guardV, if_neg hl, ROp.foot]
  cases ha : a.ev τ with
  | none => rfl
  | some q =>
    simp only [k_bind, kDG, kDl]
    cases q with
    | ptr x v o =>
      cases ldg σ g (.ptr x v o) with
      | none => rfl
      | some u => simp only []; cases kPut n p τ σ d (some u) <;> rfl
    | rop c o =>
      cases ldg σ g (.rop c o) with
      | none => rfl
      | some u => simp only []; cases kPut n p τ σ d (some u) <;> rfl
    | _ => rfl
theorem w_1gk (cf : CallF) (n : Nat) (r : List DO) (p : Pos) (τ : Tr V) (σ : H) (d : List Df) (es : List H) (os : List Owe) (lo hi g : Nat) (q : V) : kDG cf n r p τ σ d es os lo hi g (some q) = kDl cf n r p τ σ d es os lo hi q (ldg σ g q) := rfl
/-- what was read before memory was made alone -/
theorem owe_keep {σ : H} {lo hi : Nat} {os : List Owe} {x : Pos} {v o : Nat} {es : List H} {b : Blk} (hb : σ.get x = some b) (hw : WfH σ) (he : ∀ σ' ∈ es, Keep σ σ') : (owe1 σ lo hi os (.ptr x v o)).all (oweOk es) = os.all (oweOk es) := by
  simp only [owe1, List.all_cons]
  have : oweOk es ⟨x, lo, hi, σ.stamp x⟩ = true := by
    simp only [oweOk, List.all_eq_true]
    intro σ' h'
    rw [(he σ' (List.mem_of_mem_drop (List.mem_of_mem_take h'))).stamp (hw x b hb)]
    obtain ⟨n, hn⟩ := get_some_m hb
    have : σ.stamp x = some n := by simp [H.stamp, hn]
    rw [this]
    simp
  rw [this, Bool.true_and]
end Go.Proofs.YtahgfodccndcjaaGreatEng
