/- Symbolic runs: numbers, heaps that keep what they held. -/
import Derived.Test.YtahgfodccndcjaaGreatSym1
namespace Go.Proofs.YtahgfodccndcjaaGreatEng
open Go

theorem wrap_nat {n : Nat} (h : n < 9223372036854775808) : IntKind.i64.wrap (n : Int) = n := by
  simp [IntKind.wrap, IntKind.bits, IntKind.signed]; omega
theorem wrap_sub {n : Nat} (h0 : 0 < n) (h : n < 9223372036854775808) : IntKind.i64.wrap ((n : Int) - 1) = ((n - 1 : Nat) : Int) := by
  rw [← wrap_nat (n := n - 1) (by omega)]; congr 1; omega
theorem wrap_add {n k : Nat} (h : n + k < 9223372036854775808) : IntKind.i64.wrap ((n : Int) + (k : Int)) = ((n + k : Nat) : Int) := by
  rw [← wrap_nat (n := n + k) h]; congr 1
theorem wrap_add1 {n : Nat} (h : n + 1 < 9223372036854775808) : IntKind.i64.wrap ((n : Int) + 1) = ((n + 1 : Nat) : Int) := wrap_add (k := 1) h
theorem wrapU64 (n : Nat) : IntKind.u64.wrap (n : Int) = ((n % 18446744073709551616 : Nat) : Int) := by
  simp [IntKind.wrap, IntKind.bits, IntKind.signed]

/-- All blocks have been made. -/
def WfH (σ : H) : Prop := ∀ x b, σ.get x = some b → x.toNat < σ.nx.toNat
/-- What was there is there, as it was. -/
def Keep (σ σ' : H) : Prop := σ.nx.toNat ≤ σ'.nx.toNat ∧ (∀ x : Pos, x.toNat < σ.nx.toNat → σ'.m.get x = σ.m.get x) ∧ (WfH σ → WfH σ')
theorem Keep.get {σ σ' : H} (h : Keep σ σ') {x : Pos} (hx : x.toNat < σ.nx.toNat) : σ'.get x = σ.get x := H.get_of_m (h.2.1 x hx)
theorem Keep.stamp {σ σ' : H} (h : Keep σ σ') {x : Pos} (hx : x.toNat < σ.nx.toNat) : σ'.stamp x = σ.stamp x := by unfold H.stamp; rw [h.2.1 x hx]
theorem Keep.refl (σ : H) : Keep σ σ := ⟨Nat.le_refl _, fun _ _ => rfl, id⟩
theorem Keep.trans {a b c : H} (h : Keep a b) (h' : Keep b c) : Keep a c :=
  ⟨Nat.le_trans h.1 h'.1, fun x hx => (h'.2.1 x (Nat.lt_of_lt_of_le hx h.1)).trans (h.2.1 x hx), fun w => h'.2.2 (h.2.2 w)⟩
theorem nx_new (σ : H) (b : Blk) : (σ.new b).nx.toNat = σ.nx.toNat + 1 := Pos.toNat_succ _
theorem nx_put (σ : H) (x : Pos) (b : Blk) : (σ.put x b).nx = σ.nx := rfl
theorem Keep.new (σ : H) (b : Blk) : Keep σ (σ.new b) := by
  refine ⟨by rw [nx_new]; omega, fun x hx => ?_, fun w x b' h => ?_⟩
  · rw [H.m_new, if_neg]; rintro rfl; omega
  · rw [nx_new]
    rw [H.get_new] at h
    by_cases e : x = σ.nx
    · subst e; omega
    · rw [if_neg e] at h; have := w x b' h; omega
/-- a write to a block made later -/
theorem Keep.put {σ0 σ : H} (h : Keep σ0 σ) {x : Pos} (hx : σ0.nx.toNat ≤ x.toNat) (hx2 : x.toNat < σ.nx.toNat) (b : Blk) : Keep σ0 (σ.put x b) := by
  refine ⟨h.1, fun y hy => ?_, fun w y b' hy => ?_⟩
  · rw [H.m_put, if_neg (by rintro rfl; omega)]; exact h.2.1 y hy
  · rw [H.get_put] at hy
    show y.toNat < σ.nx.toNat
    by_cases e : y = x
    · subst e; exact hx2
    · rw [if_neg e] at hy; exact h.2.2 w y b' hy

section
variable {f : Nat → V}
theorem UG.keep {σ σ' : H} {a : V} {L : List Nat} (h : UG f σ a L) (w : WfH σ) (k : Keep σ σ') : UG f σ' a L := by
  obtain ⟨h1, h2, h3⟩ := h
  refine ⟨h1, h2, ?_⟩
  cases a with
  | sl x v o len cap es =>
    simp only [slCells, blkCells] at h3 ⊢
    cases hg : σ.get x with
    | none => rw [hg] at h3; simp at h3
    | some b => rw [k.get (w x b hg), hg]; rw [hg] at h3; exact h3
  | nils => exact h3
  | ros => exact h3
  | _ => simp [okSl] at h1

theorem UG.nils (f : Nat → V) (σ : H) : UG f σ .nils [] := ⟨trivial, rfl, rfl⟩
/-- a new block of words, its slice whole -/
theorem UG.new (σ : H) (ty : Nat) (L : List Nat) (v : Nat) (fz : Option Nat) (ex : List Nat) (cap : Option Nat) (es : Nat) (rest : List V) (hcap : okSl (.sl σ.nx v 0 L.length cap es)) :
    UG f (σ.new (.cells ty (L.map f ++ rest) v v fz ex)) (.sl σ.nx v 0 L.length cap es) L := by
  refine ⟨hcap, rfl, ?_⟩
  simp only [slCells, blkCells, H.get_new, if_true, visib, cut, Nat.mul_one, Nat.zero_add, List.length_append, List.length_map]
  rw [if_pos (by omega)]
  simp
theorem UG.put (σ : H) (x : Pos) (ty : Nat) (L : List Nat) (v m : Nat) (fz : Option Nat) (ex : List Nat) (cap : Option Nat) (es : Nat) (rest : List V) (hcap : okSl (.sl x v 0 L.length cap es)) :
    UG f (σ.put x (.cells ty (L.map f ++ rest) v m fz ex)) (.sl x v 0 L.length cap es) L := by
  refine ⟨hcap, rfl, ?_⟩
  simp only [slCells, blkCells, H.get_put, if_true, visib, cut, Nat.mul_one, Nat.zero_add, List.length_append, List.length_map]
  rw [if_pos (by omega)]
  simp

theorem slCells_take {σ : H} {a : V} {L : List V} {n m : Nat} (h : slCells σ 1 n a = some L) (hm : m ≤ n) (hs : ∀ s, a ≠ .str s) : slCells σ 1 m a = some (L.take m) := by
  have key : ∀ {c : List V} {o : Nat}, cut c o (n * 1) = some L → cut c o (m * 1) = some (L.take m) := by
    intro c o hc
    obtain ⟨h4, h5⟩ := cut_some hc
    unfold cut
    rw [if_pos (by omega), h5, List.take_take]
    congr 2; omega
  cases a with
  | nils =>
    simp only [slCells] at h ⊢
    split at h
    · rename_i e; subst e; have : m = 0 := by omega
      subst this; simp
    · cases h
  | sl x v o len cap es =>
    simp only [slCells] at h ⊢
    split at h
    · exact key h
    · cases h
  | ros c o len cap => exact key h
  | str s => exact absurd rfl (hs s)
  | _ => simp [slCells] at h
theorem bnd_nat (n dflt most : Nat) (h : n ≤ most) : bnd (some (.int .i64 n)) dflt most = some n := by
  simp only [bnd]
  rw [if_pos ⟨Int.natCast_nonneg n, by omega⟩]; simp

theorem bnd_none (d m : Nat) : bnd none d m = some d := rfl
/-- a[:n:n] -/
theorem UG.take2 {σ : H} {a : V} {L : List Nat} (h : UG f σ a L) {n : Nat} (hn : n ≤ L.length) :
    ∃ a', vslsl 1 a none (some (.int .i64 n)) (some (.int .i64 n)) = some a' ∧ UG f σ a' (L.take n) := by
  obtain ⟨h1, h2, h3⟩ := h
  have hlen : (L.take n).length = n := by simp; omega
  cases a with
  | nils =>
    simp [slLen] at h2
    have hn0 : n = 0 := by omega
    subst hn0
    exact ⟨.nils, by simp [vslsl, bnd], trivial, by simp [slLen], by simp [slCells]⟩
  | sl x v o len cap es =>
    simp [slLen] at h2
    subst h2
    have h4 := slCells_take h3 hn (by simp)
    cases cap with
    | some c =>
      have h1' : L.length ≤ c := h1
      refine ⟨_, by simp only [vslsl, bnd_nat n c c (by omega), bnd_nat n L.length n (Nat.le_refl _), bnd_none]; rfl, ?_⟩
      refine ⟨by simp [okSl], by simp [slLen]; omega, ?_⟩
      rw [hlen, List.map_take]
      by_cases hz : n = 0
      · subst hz
        simp only [slCells, blkCells] at h4 h3 ⊢
        split at h3 <;> simp_all
      · simp only [slCells, Nat.zero_mul, Nat.add_zero, ite_self] at h4 ⊢
        exact h4
    | none =>
      have h1' : es = 1 := h1
      subst h1'
      refine ⟨_, by simp only [vslsl, if_true, bnd_nat n 0 L.length hn, bnd_nat n L.length n (Nat.le_refl _), bnd_none]; rfl, ?_⟩
      refine ⟨by simp [okSl], by simp [slLen]; omega, ?_⟩
      rw [hlen, List.map_take]
      simp only [slCells, Nat.zero_mul, Nat.add_zero, ite_self] at h4 ⊢
      exact h4
  | ros c o len cap =>
    simp [slLen] at h2
    subst h2
    have h1' : L.length ≤ cap := h1
    have h4 := slCells_take h3 hn (by simp)
    refine ⟨_, by simp only [vslsl, bnd_nat n cap cap (by omega), bnd_nat n L.length n (Nat.le_refl _), bnd_none]; rfl, ?_⟩
    refine ⟨by simp [okSl], by simp [slLen]; omega, ?_⟩
    rw [hlen, List.map_take]
    simp only [slCells, Nat.zero_mul, Nat.add_zero, ite_self] at h4 ⊢
    exact h4
  | _ => simp [okSl] at h1
/-- a[:n] -/
theorem UG.take1 {σ : H} {a : V} {L : List Nat} (h : UG f σ a L) {n : Nat} (hn : n ≤ L.length) :
    ∃ a', vslsl 1 a none (some (.int .i64 n)) none = some a' ∧ UG f σ a' (L.take n) := by
  obtain ⟨h1, h2, h3⟩ := h
  have hlen : (L.take n).length = n := by simp; omega
  cases a with
  | nils =>
    simp [slLen] at h2
    have hn0 : n = 0 := by omega
    subst hn0
    exact ⟨.nils, by simp [vslsl, bnd], trivial, by simp [slLen], by simp [slCells]⟩
  | sl x v o len cap es =>
    simp [slLen] at h2
    subst h2
    have h4 := slCells_take h3 hn (by simp)
    cases cap with
    | some c =>
      have h1' : L.length ≤ c := h1
      refine ⟨_, by simp only [vslsl, bnd_nat n L.length c (by omega), bnd_none]; rfl, ?_⟩
      refine ⟨by simp [okSl]; omega, by simp [slLen]; omega, ?_⟩
      rw [hlen, List.map_take]
      simp only [slCells, Nat.zero_mul, Nat.add_zero, ite_self] at h4 ⊢
      exact h4
    | none =>
      have h1' : es = 1 := h1
      subst h1'
      refine ⟨_, by simp only [vslsl, if_true, bnd_nat n L.length L.length hn, bnd_none]; rfl, ?_⟩
      refine ⟨by simp [okSl], by simp [slLen]; omega, ?_⟩
      rw [hlen, List.map_take]
      simp only [slCells, Nat.zero_mul, Nat.add_zero] at h4 ⊢
      exact h4
  | ros c o len cap =>
    simp [slLen] at h2
    subst h2
    have h1' : L.length ≤ cap := h1
    have h4 := slCells_take h3 hn (by simp)
    refine ⟨_, by simp only [vslsl, bnd_nat n L.length cap (by omega), bnd_none]; rfl, ?_⟩
    refine ⟨by simp [okSl]; omega, by simp [slLen]; omega, ?_⟩
    rw [hlen, List.map_take]
    simp only [slCells, Nat.zero_mul, Nat.add_zero, ite_self] at h4 ⊢
    exact h4
  | _ => simp [okSl] at h1

/- loops written out -/
def kLoop (cf : CallF) (lf n : Nat) (c : CC) (j : Nat) : R → R
  | .nx τ σ d => loopN (exec cf lf n c) j τ σ d
  | r => r
theorem s_loop1 (cf : CallF) (lf n : Nat) (c : CC) (τ : Tr V) (σ : H) (d : List Df) : exec cf (lf + 1) n (.loop c) τ σ d = kLoop cf (lf + 1) n c lf (exec cf (lf + 1) n c τ σ d) := by
  rw [exec_loop]; simp only [loopN]; cases exec cf (lf + 1) n c τ σ d <;> rfl
theorem s_loop2 (cf : CallF) (lf n : Nat) (c : CC) (j : Nat) (τ : Tr V) (σ : H) (d : List Df) : loopN (exec cf lf n c) (j + 1) τ σ d = kLoop cf lf n c j (exec cf lf n c τ σ d) := by
  simp only [loopN]; cases exec cf lf n c τ σ d <;> rfl
theorem s_loop_nx (cf : CallF) (lf n : Nat) (c : CC) (j : Nat) (τ : Tr V) (σ : H) (d : List Df) : kLoop cf lf n c j (.nx τ σ d) = loopN (exec cf lf n c) j τ σ d := rfl
theorem s_loop_ex (cf : CallF) (lf n : Nat) (c : CC) (j i : Nat) (τ : Tr V) (σ : H) (d : List Df) : kLoop cf lf n c j (.ex i τ σ d) = .ex i τ σ d := rfl
theorem s_loop_rt (cf : CallF) (lf n : Nat) (c : CC) (j : Nat) (τ : Tr V) (σ : H) (d : List Df) : kLoop cf lf n c j (.rt τ σ d) = .rt τ σ d := rfl

theorem UG.cells1 {σ : H} {a : V} {L : List Nat} (h : UG f σ a L) : a.cells = [a] := by
  obtain ⟨h1, _, _⟩ := h
  cases a <;> first | rfl | simp [okSl] at h1
theorem e_bs1s {ty : Nat} {a : V} (h : a.cells = [a]) : kBs1 ty (some a) = some (.sl 1 1, .cells ty [a] 0 0 (some 0) []) := by
  simp [kBs1, h]
theorem UG.nonnil {σ : H} {a : V} {L : List Nat} (h : UG f σ a L) (hn : L ≠ []) : kBin .eql (.sc .slice) (some a) (some .nils) = some (.bool false) := by
  obtain ⟨h1, h2, _⟩ := h
  cases a with
  | nils => simp [slLen] at h2; exact absurd (List.eq_nil_of_length_eq_zero h2.symm) hn
  | sl => rfl
  | ros => rfl
  | _ => simp [okSl] at h1
theorem UG.slice {σ : H} {a : V} {L : List Nat} (h : UG f σ a L) : strOne 1 a = true := by
  obtain ⟨h1, _, _⟩ := h
  cases a <;> first | rfl | simp [okSl] at h1
theorem UG.one {σ : H} {x : Pos} {ty : Nat} {n : Nat} {v m : Nat} {fz : Option Nat} {ex : List Nat} (h : σ.get x = some (.cells ty [f n] v m fz ex)) : UG f σ (.sl x v 0 1 (some 1) 0) [n] := by
  refine ⟨Nat.le_refl _, rfl, ?_⟩
  simp only [slCells, blkCells, h, visib, if_true]
  rfl
/-- append to an empty slice: a new row -/
theorem app_new {σ : H} {ty eb : Nat} {x : Pos} {y : V} {B : List Nat} (hy : UG f σ y B) (hB : B ≠ []) (hb : B.length * eb ≤ mostBytes) (hb2 : B.length ≤ mostBytes) {c : List V} (hx : blkCells σ x 0 = some c) :
    appV σ ty 1 eb (.sl x 0 0 0 (some 0) 0) y = .ok (.sl σ.nx 0 0 B.length none 1) (σ.new (.cells ty (B.map f) 0 0 (some 0) [])) := by
  have hn : B.length ≠ 0 := fun e => hB (List.eq_nil_of_length_eq_zero e)
  unfold appV
  rw [if_pos hy.slice, hy.2.1]
  simp only [hy.2.2, vapp, if_neg hn]
  rw [if_neg (by omega)]
  simp only [slCells, hx, cut, Nat.zero_mul, Nat.add_zero, Nat.zero_le, if_true, List.take_zero, List.nil_append, Nat.zero_add, vgrow]
  rw [if_pos ⟨hb, hb2, Nat.one_pos⟩]
  rfl
theorem app_nil {σ : H} {ty eb : Nat} {y : V} {B : List Nat} (hy : UG f σ y B) (hB : B ≠ []) (hb : B.length * eb ≤ mostBytes) (hb2 : B.length ≤ mostBytes) :
    appV σ ty 1 eb .nils y = .ok (.sl σ.nx 0 0 B.length none 1) (σ.new (.cells ty (B.map f) 0 0 (some 0) [])) := by
  have hn : B.length ≠ 0 := fun e => hB (List.eq_nil_of_length_eq_zero e)
  unfold appV
  rw [if_pos hy.slice, hy.2.1]
  simp only [hy.2.2, vapp, if_neg hn, vgrow]
  rw [if_pos ⟨hb, hb2, Nat.one_pos⟩]
  rfl
/-- append of one element within the capacity -/
theorem app_in (hf : ∀ n, (f n).one = true) {σ : H} {ty ty' eb : Nat} {x : Pos} {k cap ver : Nat} {C : List Nat} {rest : List V} {r : V} {y : V} {w minv : Nat} {ex : List Nat} (hy : UG f σ y [w]) (hx : σ.get x = some (.cells ty' (C.map f ++ r :: rest) ver minv (some 0) ex)) (hk : k = C.length) (hc : k + 1 ≤ cap) :
    appV σ ty 1 eb (.sl x ver 0 k (some cap) 0) y = .ok (.sl x ver 0 (k + 1) (some cap) 0) (σ.put x (.cells ty' ((C ++ [w]).map f ++ rest) ver ver (some 0) ex)) := by
  subst hk
  unfold appV
  have h3 := hy.2.2
  simp only [List.length_singleton, List.map_cons, List.map_nil] at h3
  rw [if_pos hy.slice, hy.2.1]
  simp only [List.length_singleton, h3, vapp]
  rw [if_neg (by decide), if_pos hc]
  simp only [putCells, hx, Nat.mul_one, Nat.zero_add]
  rw [if_pos ⟨trivial, Nat.zero_le _, by simp, by simp [hf]⟩]
  have hd : List.drop (C.length + 1) (List.map f C) = [] := List.drop_eq_nil_of_le (by simp)
  simp [HR.of, List.drop_append, hd]
/-- append of one element at the end of a row of unknown capacity -/
theorem app_end (hf : ∀ n, (f n).one = true) {σ : H} {ty eb : Nat} {x : Pos} {ver : Nat} {C : List Nat} {y : V} {w minv : Nat} {ex : List Nat} (hy : UG f σ y [w]) (hx : σ.get x = some (.cells ty (C.map f) ver minv (some 0) ex)) (hb : (C.length + 1) * eb ≤ mostBytes) (hb2 : C.length + 1 ≤ mostBytes) :
    appV σ ty 1 eb (.sl x ver 0 C.length none 1) y = .ok (.sl x (ver + 1) 0 (C.length + 1) none 1) (σ.put x (.cells ty ((C ++ [w]).map f) (ver + 1) minv (some 0) (C.length :: ex))) := by
  unfold appV
  have h3 := hy.2.2
  simp only [List.length_singleton, List.map_cons, List.map_nil] at h3
  rw [if_pos hy.slice, hy.2.1]
  simp only [List.length_singleton, h3, vapp]
  rw [if_neg (by decide)]
  simp only [hx, Nat.mul_one, Nat.zero_add, List.length_map]
  rw [if_pos ⟨trivial, trivial, trivial, Nat.one_pos, hb, hb2, Nat.zero_le _, Nat.le_refl _, by simp [hf]⟩]
  simp [HR.of]
/-- a write -/
theorem st_at {σ : H} {ty : Nat} {x : Pos} {ver minv o : Nat} {c : List V} {ex : List Nat} {k : IntKind} {n : Int} (hx : σ.get x = some (.cells ty c ver minv (some 0) ex)) (ho : o < c.length) :
    stV σ 1 (.ptr x ver o) (.int k n) = .ok undefV (σ.put x (.cells ty (c.set o (.int k n)) ver ver (some 0) ex)) := by
  simp only [stV, V.cells, List.length_singleton, if_true, putCells, hx]
  rw [if_pos ⟨trivial, Nat.zero_le _, by omega, rfl⟩]
  simp only [List.append_assoc, List.singleton_append]
  rw [List.set_eq_take_append_cons_drop, if_pos ho]

end
theorem U.nils (σ : H) : U σ .nils [] := UG.nils wd σ
theorem ba1 (a : V) : (bindArgs [a] .h .lf).get (pk 0) = some a := rfl
theorem ba2a (a b : V) : (bindArgs [a, b] .h .lf).get (pk 0) = some a := rfl
theorem ba2b (a b : V) : (bindArgs [a, b] .h .lf).get (pk 1) = some b := rfl
end Go.Proofs.YtahgfodccndcjaaGreatEng
