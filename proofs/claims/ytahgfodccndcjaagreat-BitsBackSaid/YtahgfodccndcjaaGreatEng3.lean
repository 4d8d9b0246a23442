/- The engine, part 3: maps; how abstract values and heaps stand for real ones. -/
import Derived.Test.YtahgfodccndcjaaGreatEng2
import Derived.Laws.Sem
namespace Go.Proofs.YtahgfodccndcjaaGreatEng
open Go

namespace Pos
theorem toNat_pos : ∀ p : Pos, 0 < p.toNat
  | h => by simp [toNat]
  | o p => by have := toNat_pos p; simp [toNat]; omega
  | i p => by simp [toNat]
theorem toNat_inj : ∀ {p q : Pos}, p.toNat = q.toNat → p = q
  | h, h, _ => rfl
  | h, o q, e => by have := toNat_pos q; simp [toNat] at e; omega
  | h, i q, e => by have := toNat_pos q; simp [toNat] at e; omega
  | o p, h, e => by have := toNat_pos p; simp [toNat] at e; omega
  | o p, o q, e => by rw [toNat_inj (p := p) (q := q) (by simp [toNat] at e; omega)]
  | o p, i q, e => by simp [toNat] at e; omega
  | i p, h, e => by have := toNat_pos p; simp [toNat] at e; omega
  | i p, o q, e => by simp [toNat] at e; omega
  | i p, i q, e => by rw [toNat_inj (p := p) (q := q) (by simp [toNat] at e; omega)]
theorem toNat_succ : ∀ p : Pos, p.succ.toNat = p.toNat + 1
  | h => rfl
  | o p => by simp [succ, toNat]
  | i p => by have := toNat_succ p; simp [succ, toNat]; omega
theorem toNat_ofNat : ∀ n, (ofNat n).toNat = n + 1
  | 0 => rfl
  | n + 1 => by simp [ofNat, toNat_succ, toNat_ofNat n]
theorem ofNat_inj {a b : Nat} (e : ofNat a = ofNat b) : a = b := by
  have := congrArg toNat e
  simp [toNat_ofNat] at this
  exact this
end Pos

namespace Tr
variable {α : Type}
theorem get_lf (p : Pos) : (lf : Tr α).get p = none := by cases p <;> rfl
theorem get_one : ∀ (p q : Pos) (a : α), (one p a).get q = if q = p then some a else none
  | .h, .h, a => rfl
  | .h, .o q, a => by simp [one, get]
  | .h, .i q, a => by simp [one, get]
  | .o p, .h, a => by simp [one, get]
  | .o p, .o q, a => by simp [one, get, get_one p q a]
  | .o p, .i q, a => by simp [one, get]
  | .i p, .h, a => by simp [one, get]
  | .i p, .o q, a => by simp [one, get]
  | .i p, .i q, a => by simp [one, get, get_one p q a]
theorem get_set : ∀ (t : Tr α) (p q : Pos) (a : α), (t.set p a).get q = if q = p then some a else t.get q
  | lf, p, q, a => by simp [set, get_one, get_lf]
  | nd l v r, .h, .h, a => rfl
  | nd l v r, .h, .o q, a => by simp [set, get]
  | nd l v r, .h, .i q, a => by simp [set, get]
  | nd l v r, .o p, .h, a => by simp [set, get]
  | nd l v r, .o p, .o q, a => by simp [set, get, get_set l p q a]
  | nd l v r, .o p, .i q, a => by simp [set, get]
  | nd l v r, .i p, .h, a => by simp [set, get]
  | nd l v r, .i p, .o q, a => by simp [set, get]
  | nd l v r, .i p, .i q, a => by simp [set, get, get_set r p q a]
end Tr

namespace H
theorem get_put (σ : H) (x y : Pos) (b : Blk) : (σ.put x b).get y = if y = x then some b else σ.get y := by
  unfold get put
  rw [Tr.get_set]
  by_cases h : y = x <;> simp [h]
theorem get_new (σ : H) (y : Pos) (b : Blk) : (σ.new b).get y = if y = σ.nx then some b else σ.get y := by
  unfold get new
  rw [Tr.get_set]
  by_cases h : y = σ.nx <;> simp [h]
theorem m_put (σ : H) (x y : Pos) (b : Blk) : (σ.put x b).m.get y = if y = x then some (σ.ck, b) else σ.m.get y := Tr.get_set _ _ _ _
theorem m_new (σ : H) (y : Pos) (b : Blk) : (σ.new b).m.get y = if y = σ.nx then some (σ.ck, b) else σ.m.get y := Tr.get_set _ _ _ _
theorem get_of_m {σ σ' : H} {x : Pos} (h : σ'.m.get x = σ.m.get x) : σ'.get x = σ.get x := by simp [get, h]
end H

/- ---- places, environments ---- -/

/-- Where a version of a block lies: the cell of number lo at the head of the block 'blk', which has 'size' cells; its elements take 'esz' cells. -/
structure Place where
  blk : Nat
  lo : Nat
  size : Nat
  esz : Nat

structure Env where
  w0 : World
  pl : Pos → Nat → Option Place

def Place.addr (p : Place) (o : Nat) : Addr := ⟨p.blk, o - p.lo, none⟩

/-- An abstract value stands for a real one. -/
inductive VR (E : Env) : V → Value → Prop
  | bool (b) : VR E (.bool b) (.bool b)
  | int (k n) : VR E (.int k n) (.int k n)
  | str (s : ByteArray) : VR E (.str (s.data.toList.map (·.toNat))) (.string s)
  | nilp : VR E .nilp (.pointer none)
  | ptr (x v o p) (h : E.pl x v = some p) (hl : p.lo ≤ o) : VR E (.ptr x v o) (.pointer (some (p.addr o)))
  | rop (c : List V) (o : Nat) (b k : Nat) (f : Nat → Value) (hb : b < E.w0.heap.size)
      (hc : ∀ (i : Nat) v, c[i]? = some v → E.w0.cell? ⟨b, k + i, none⟩ = some (f i)) (hv : ∀ (i : Nat) v, c[i]? = some v → VR E v (f i)) :
      VR E (.rop c o) (.pointer (some ⟨b, k + o, none⟩))
  | nils : VR E .nils (.slice none 0 0)
  | sl (x v o len cap es ccap p a) (h : E.pl x v = some p) (hl : p.lo ≤ o) (hlen : len ≤ ccap) (ha : ccap = 0 ∨ a = p.addr o)
      (hc : match cap with | some c => ccap = c | none => es = p.esz ∧ (o - p.lo) + ccap * es = p.size) :
      VR E (.sl x v o len cap es) (.slice (some a) len ccap)
  | ros (c : List V) (o len cap : Nat) (b k : Nat) (f : Nat → Value) (a : Addr) (hb : b < E.w0.heap.size) (hlen : len ≤ cap) (ha : cap = 0 ∨ a = ⟨b, k + o, none⟩)
      (hc : ∀ (i : Nat) v, c[i]? = some v → E.w0.cell? ⟨b, k + i, none⟩ = some (f i)) (hv : ∀ (i : Nat) v, c[i]? = some v → VR E v (f i)) :
      VR E (.ros c o len cap) (.slice (some a) len cap)
  | fn (f : Nat) (a b : List V) (A B : Array Value) (ha : a.length = A.size) (hb : b.length = B.size)
      (hva : ∀ (i : Nat) v cv, a[i]? = some v → A[i]? = some cv → VR E v cv) (hvb : ∀ (i : Nat) v cv, b[i]? = some v → B[i]? = some cv → VR E v cv) :
      VR E (.fn f a b) (.func (.func f) A B)
  | nilf : VR E .nilf .nilFunc
  | mapn : VR E .mapn (.map none)
  | map (x p) (h : E.pl x 0 = some p) : VR E (.map x) (.map (some p.blk))
  | it (x p) (h : E.pl x 0 = some p) : VR E (.it x) (.pointer (some ⟨p.blk, 0, none⟩))
  | iface (t v cv) (h : VR E v cv) : VR E (.iface t v) (.iface t cv)
  | nili : VR E .nili .nilIface
  | agg (c : List V) (C : Array Value) (hl : c.length = C.size) (h : ∀ (i : Nat) v cv, c[i]? = some v → C[i]? = some cv → VR E v cv) : VR E (.agg c) (.agg C)
  | tup (c : List V) (C : Array Value) (hl : c.length = C.size) (h : ∀ (i : Nat) v cv, c[i]? = some v → C[i]? = some cv → VR E v cv) : VR E (.tup c) (.tuple C)
  | any (cv) (h : cv.oneCell' = true) : VR E .any cv

/-- Lists. -/
def VRL (E : Env) (c : List V) (C : List Value) : Prop := c.length = C.length ∧ ∀ (i : Nat) v cv, c[i]? = some v → C[i]? = some cv → VR E v cv

theorem VRL.nil {E : Env} : VRL E [] [] := ⟨rfl, fun _ _ _ h => by simp at h⟩
theorem VRL.cons {E : Env} {v : V} {cv : Value} {c : List V} {C : List Value} (h : VR E v cv) (hr : VRL E c C) : VRL E (v :: c) (cv :: C) := by
  refine ⟨by simp [hr.1], fun i v' cv' h1 h2 => ?_⟩
  cases i with
  | zero => simp at h1 h2; subst h1; subst h2; exact h
  | succ i => simp at h1 h2; exact hr.2 i _ _ h1 h2
theorem VRL.head {E : Env} {v : V} {cv : Value} {c : List V} {C : List Value} (h : VRL E (v :: c) (cv :: C)) : VR E v cv := h.2 0 _ _ rfl rfl
theorem VRL.tail {E : Env} {v : V} {cv : Value} {c : List V} {C : List Value} (h : VRL E (v :: c) (cv :: C)) : VRL E c C :=
  ⟨by have := h.1; simpa using this, fun i v' cv' h1 h2 => h.2 (i + 1) _ _ (by simpa using h1) (by simpa using h2)⟩
theorem VRL.nil_left {E : Env} {C : List Value} (h : VRL E [] C) : C = [] := by
  have := h.1; simp at this; exact List.eq_nil_of_length_eq_zero this.symm
theorem VRL.cons_left {E : Env} {v : V} {c : List V} {C : List Value} (h : VRL E (v :: c) C) : ∃ cv C', C = cv :: C' ∧ VR E v cv ∧ VRL E c C' := by
  cases C with
  | nil => have := h.1; simp at this
  | cons cv C' => exact ⟨cv, C', rfl, h.head, h.tail⟩
theorem VRL.append {E : Env} {a b : List V} {A B : List Value} (h : VRL E a A) (h' : VRL E b B) : VRL E (a ++ b) (A ++ B) := by
  induction a generalizing A with
  | nil => rw [h.nil_left]; simpa using h'
  | cons v a ih =>
    obtain ⟨cv, C', rfl, hv, hr⟩ := h.cons_left
    exact .cons hv (ih hr)
theorem VRL.get {E : Env} {c : List V} {C : List Value} (h : VRL E c C) {i : Nat} {v : V} (hv : c[i]? = some v) : ∃ cv, C[i]? = some cv ∧ VR E v cv := by
  have hi : i < c.length := by
    rcases Nat.lt_or_ge i c.length with h | h
    · exact h
    · simp [List.getElem?_eq_none h] at hv
  have : C[i]? = some (C[i]'(h.1 ▸ hi)) := List.getElem?_eq_getElem _
  exact ⟨_, this, h.2 i _ _ hv this⟩
theorem VRL.take {E : Env} {c : List V} {C : List Value} (h : VRL E c C) (n : Nat) : VRL E (c.take n) (C.take n) := by
  refine ⟨by simp [h.1], fun i v cv h1 h2 => ?_⟩
  rw [List.getElem?_take] at h1 h2
  split at h1
  · rename_i hlt
    rw [if_pos hlt] at h2
    exact h.2 i _ _ h1 h2
  · simp at h1
theorem VRL.drop {E : Env} {c : List V} {C : List Value} (h : VRL E c C) (n : Nat) : VRL E (c.drop n) (C.drop n) := by
  refine ⟨by simp [h.1], fun i v cv h1 h2 => ?_⟩
  rw [List.getElem?_drop] at h1 h2
  exact h.2 _ _ _ h1 h2
theorem VRL.reverse_cons {E : Env} {v : V} {cv : Value} {c : List V} {C : List Value} (h : VR E v cv) (hr : VRL E c C) : VRL E (c ++ [v]) (C ++ [cv]) := hr.append (.cons h .nil)

def Env.le (E E' : Env) : Prop := E'.w0 = E.w0 ∧ ∀ x v p, E.pl x v = some p → E'.pl x v = some p
theorem Env.le.refl (E : Env) : E.le E := ⟨rfl, fun _ _ _ h => h⟩
theorem Env.le.trans {E E' E'' : Env} (h : E.le E') (h' : E'.le E'') : E.le E'' := ⟨h'.1.trans h.1, fun x v p hp => h'.2 x v p (h.2 x v p hp)⟩

theorem VR.mono {E E' : Env} (h : E.le E') {v : V} {cv : Value} (hv : VR E v cv) : VR E' v cv := by
  induction hv with
  | bool b => exact .bool b
  | int k n => exact .int k n
  | str s => exact .str s
  | nilp => exact .nilp
  | ptr x v o p hp hl => exact .ptr x v o p (h.2 _ _ _ hp) hl
  | rop c o b k f hb hc _ ih => exact .rop c o b k f (h.1 ▸ hb) (fun i v hi => h.1 ▸ hc i v hi) ih
  | nils => exact .nils
  | sl x v o len cap es ccap p a hp hl hlen ha hc => exact .sl x v o len cap es ccap p a (h.2 _ _ _ hp) hl hlen ha hc
  | ros c o len cap b k f a hb hlen ha hc _ ih => exact .ros c o len cap b k f a (h.1 ▸ hb) hlen ha (fun i v hi => h.1 ▸ hc i v hi) ih
  | fn f a b A B ha hb _ _ iha ihb => exact .fn f a b A B ha hb iha ihb
  | nilf => exact .nilf
  | mapn => exact .mapn
  | map x p hp => exact .map x p (h.2 _ _ _ hp)
  | it x p hp => exact .it x p (h.2 _ _ _ hp)
  | iface t v cv _ ih => exact .iface t v cv ih
  | nili => exact .nili
  | agg c C hl _ ih => exact .agg c C hl ih
  | tup c C hl _ ih => exact .tup c C hl ih
  | any cv hc => exact .any cv hc
theorem VRL.mono {E E' : Env} (h : E.le E') {c : List V} {C : List Value} (hv : VRL E c C) : VRL E' c C :=
  ⟨hv.1, fun i v cv h1 h2 => (hv.2 i v cv h1 h2).mono h⟩

theorem VR.agg_inv {E : Env} {c : List V} {cv : Value} (h : VR E (.agg c) cv) : ∃ C : Array Value, cv = .agg C ∧ VRL E c C.toList := by
  cases h with
  | agg _ C hl h => exact ⟨C, rfl, by simpa using hl, fun i v cv h1 h2 => h i v cv h1 (by simpa using h2)⟩
theorem VR.tup_inv {E : Env} {c : List V} {cv : Value} (h : VR E (.tup c) cv) : ∃ C : Array Value, cv = .tuple C ∧ VRL E c C.toList := by
  cases h with
  | tup _ C hl h => exact ⟨C, rfl, by simpa using hl, fun i v cv h1 h2 => h i v cv h1 (by simpa using h2)⟩
theorem VR.mk_agg {E : Env} {c : List V} {C : Array Value} (h : VRL E c C.toList) : VR E (.agg c) (.agg C) :=
  .agg c C (by simpa using h.1) fun i v cv h1 h2 => h.2 i v cv h1 (by simpa using h2)
theorem VR.mk_tup {E : Env} {c : List V} {C : Array Value} (h : VRL E c C.toList) : VR E (.tup c) (.tuple C) :=
  .tup c C (by simpa using h.1) fun i v cv h1 h2 => h.2 i v cv h1 (by simpa using h2)
theorem VR.undef (E : Env) : VR E undefV undef := .mk_tup .nil

theorem VR.cells {E : Env} {v : V} {cv : Value} (h : VR E v cv) : VRL E v.cells cv.cells.toList := by
  have one : ∀ {v : V} {cv : Value}, VR E v cv → v.cells = [v] → cv.cells = #[cv] → VRL E v.cells cv.cells.toList := by
    intro v cv h h1 h2
    rw [h1, h2]; exact .cons h .nil
  cases h with
  | agg c C hl hc => exact ⟨by simpa [V.cells, Value.cells] using hl, fun i v cv h1 h2 => hc i v cv h1 (by simpa [Value.cells] using h2)⟩
  | any cv hc => exact one (.any cv hc) rfl (by cases cv <;> simp_all [Value.oneCell', Value.cells])
  | bool b => exact one (.bool b) rfl rfl
  | int k n => exact one (.int k n) rfl rfl
  | str s => exact one (.str s) rfl rfl
  | nilp => exact one .nilp rfl rfl
  | ptr x v o p hp hl => exact one (.ptr x v o p hp hl) rfl rfl
  | rop c o b k f hb hc hv => exact one (.rop c o b k f hb hc hv) rfl rfl
  | nils => exact one .nils rfl rfl
  | sl x v o len cap es ccap p a hp hl hlen ha hc => exact one (.sl x v o len cap es ccap p a hp hl hlen ha hc) rfl rfl
  | ros c o len cap b k f a hb hlen ha hc hv => exact one (.ros c o len cap b k f a hb hlen ha hc hv) rfl rfl
  | fn f a b A B ha hb hva hvb => exact one (.fn f a b A B ha hb hva hvb) rfl rfl
  | nilf => exact one .nilf rfl rfl
  | mapn => exact one .mapn rfl rfl
  | map x p hp => exact one (.map x p hp) rfl rfl
  | it x p hp => exact one (.it x p hp) rfl rfl
  | iface t v cv h => exact one (.iface t v cv h) rfl rfl
  | nili => exact one .nili rfl rfl
  | tup c C hl hc => exact one (.tup c C hl hc) rfl rfl

theorem VR.oneCell {E : Env} {v : V} {cv : Value} (h : VR E v cv) (h1 : v.one = true) : cv.oneCell' = true := by
  cases h <;> first | rfl | assumption | (simp [V.one] at h1)

end Go.Proofs.YtahgfodccndcjaaGreatEng
