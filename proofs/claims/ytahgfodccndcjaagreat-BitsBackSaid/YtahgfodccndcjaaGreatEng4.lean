/- The engine, part 4: abstract heaps and worlds; new memory, writing. -/
import Derived.Test.YtahgfodccndcjaaGreatEng3
namespace Go.Proofs.YtahgfodccndcjaaGreatEng
open Go

/-- The version may be read. -/
def live (σ : H) (x : Pos) (v : Nat) : Prop :=
  match σ.get x with
  | some (.cells _ c ver minv _ ex) => (visib c ver minv ex v).isSome = true
  | some _ => v = 0
  | none => False

/-- The contents c lie at the place. -/
def PlaceOk (P : Program) (E : Env) (w : World) (ty : Nat) (c : List V) (p : Place) : Prop :=
  ∃ arr fro, w.heap[p.blk]? = some (.cells arr ty fro) ∧ arr.size = p.size ∧ szOf P ty = some p.esz ∧ c.length - p.lo ≤ p.size ∧
    ∀ (i : Nat) v, c[i]? = some v → p.lo ≤ i → ∃ cv, arr[i - p.lo]? = some cv ∧ VR E v cv

def Unfrozen (w : World) (fz : Option Nat) (p : Place) : Prop :=
  match fz with
  | none => True
  | some f => ∀ arr ty lo hi, w.heap[p.blk]? = some (.cells arr ty (lo, hi)) → hi ≤ f - p.lo ∨ lo = hi

theorem Unfrozen.mono {w w' : World} {fz : Option Nat} {p : Place} (h : Unfrozen w fz p) (hw : w'.heap[p.blk]? = w.heap[p.blk]?) : Unfrozen w' fz p := by
  cases fz with
  | none => trivial
  | some f => intro arr ty lo hi hb; rw [hw] at hb; exact h arr ty lo hi hb
def ObjOk (E : Env) (w : World) (p : Place) : Blk → Prop
  | .cells .. => True
  | .sit s pos => ∃ ba : ByteArray, w.heap[p.blk]? = some (.stringIter ba pos) ∧ s = ba.data.toList.map (·.toNat)
  | .mp es => ∃ (ents : Array MapEntry) (clock : Nat), w.heap[p.blk]? = some (.map ents clock) ∧ VRL E (es.map (·.1)) (ents.toList.map (·.key)) ∧ VRL E (es.map (·.2)) (ents.toList.map (·.val))

structure HRel (P : Program) (E : Env) (σ : H) (w : World) : Prop where
  old : ∀ b, b < E.w0.heap.size → w.heap[b]? = E.w0.heap[b]?
  sz : E.w0.heap.size ≤ w.heap.size
  os : w.os = E.w0.os
  tape : w.tape = E.w0.tape
  out : w.output = E.w0.output
  rng : ∀ x v p, E.pl x v = some p → E.w0.heap.size ≤ p.blk ∧ p.blk < w.heap.size
  fr : ∀ x v p, E.pl x v = some p → x.toNat < σ.nx.toNat
  nx : ∀ x, σ.nx.toNat ≤ x.toNat → σ.m.get x = none
  st : ∀ x n b, σ.m.get x = some (n, b) → n < σ.ck
  vers : ∀ x ty c ver minv fz ex, σ.get x = some (.cells ty c ver minv fz ex) → ∀ v, ver < v → E.pl x v = none
  cel : ∀ x ty c ver minv fz ex, σ.get x = some (.cells ty c ver minv fz ex) → ∀ v cv p, visib c ver minv ex v = some cv → E.pl x v = some p →
    PlaceOk P E w ty cv p ∧ (v = ver → Unfrozen w fz p)
  exs : ∀ x ty c ver minv fz ex, σ.get x = some (.cells ty c ver minv fz ex) → ∀ v e, minv ≤ v → v < ver → ex[ver - 1 - v]? = some e → e ≤ c.length
  same : ∀ x v u p q, E.pl x v = some p → E.pl x u = some q → p.blk = q.blk → p.lo = q.lo
  obj : ∀ x b p, σ.get x = some b → E.pl x 0 = some p → ObjOk E w p b
  dis : ∀ x y v u p q, x ≠ y → live σ x v → live σ y u → E.pl x v = some p → E.pl y u = some q → p.blk ≠ q.blk

structure Ext (E : Env) (σ : H) (w : World) (E' : Env) (σ' : H) (w' : World) : Prop where
  le : E.le E'
  nx : σ.nx.toNat ≤ σ'.nx.toNat
  ck : σ.ck ≤ σ'.ck
  evo : ∀ x n b, σ'.m.get x = some (n, b) → σ.m.get x = some (n, b) ∨ σ.ck ≤ n
  pend : ∀ x, x.toNat < σ.nx.toNat → (∀ v, E.pl x v = none) → (∀ v, E'.pl x v = none) ∧ σ'.m.get x = σ.m.get x
  wsz : w.heap.size ≤ w'.heap.size

theorem Ext.refl (E : Env) (σ : H) (w : World) : Ext E σ w E σ w :=
  ⟨.refl E, Nat.le_refl _, Nat.le_refl _, fun _ _ _ h => .inl h, fun _ _ h => ⟨h, rfl⟩, Nat.le_refl _⟩
theorem Ext.trans {E E' E'' : Env} {σ σ' σ'' : H} {w w' w'' : World} (h : Ext E σ w E' σ' w') (h' : Ext E' σ' w' E'' σ'' w'') : Ext E σ w E'' σ'' w'' where
  le := h.le.trans h'.le
  nx := Nat.le_trans h.nx h'.nx
  ck := Nat.le_trans h.ck h'.ck
  evo := fun x n b hx => by
    rcases h'.evo x n b hx with h1 | h1
    · exact h.evo x n b h1
    · exact .inr (Nat.le_trans h.ck h1)
  pend := fun x hx hp => by
    obtain ⟨h1, h2⟩ := h.pend x hx hp
    obtain ⟨h3, h4⟩ := h'.pend x (Nat.lt_of_lt_of_le hx h.nx) h1
    exact ⟨h3, h4.trans h2⟩
  wsz := Nat.le_trans h.wsz h'.wsz

theorem live_of_get {σ σ' : H} {x : Pos} (h : σ'.get x = σ.get x) (v : Nat) : live σ' x v ↔ live σ x v := by
  unfold live; rw [h]

theorem get_some_m {σ : H} {x : Pos} {b : Blk} (h : σ.get x = some b) : ∃ n, σ.m.get x = some (n, b) := by
  unfold H.get at h
  split at h
  · rename_i n b' hm
    simp at h; subst h; exact ⟨n, hm⟩
  · simp at h
theorem get_none_m {σ : H} {x : Pos} (h : σ.m.get x = none) : σ.get x = none := by simp [H.get, h]

theorem HRel.get_lt {P : Program} {E : Env} {σ : H} {w : World} (h : HRel P E σ w) {x : Pos} {b : Blk} (hx : σ.get x = some b) : x.toNat < σ.nx.toNat := by
  rcases Nat.lt_or_ge x.toNat σ.nx.toNat with h1 | h1
  · exact h1
  · rw [get_none_m (h.nx x h1)] at hx; simp at hx
theorem HRel.live_lt {P : Program} {E : Env} {σ : H} {w : World} (h : HRel P E σ w) {x : Pos} {v : Nat} (hx : live σ x v) : x.toNat < σ.nx.toNat := by
  unfold live at hx
  cases hg : σ.get x with
  | none => rw [hg] at hx; exact hx.elim
  | some b => exact h.get_lt hg

/-- Only the world's counters turn. -/
theorem HRel.sameHeap {P : Program} {E : Env} {σ : H} {w w' : World} (h : HRel P E σ w) (hh : w'.heap = w.heap) (ho : w'.os = w.os) (ht : w'.tape = w.tape) (hu : w'.output = w.output) : HRel P E σ w' where
  old := by rw [hh]; exact h.old
  sz := by rw [hh]; exact h.sz
  os := ho.trans h.os
  tape := ht.trans h.tape
  out := hu.trans h.out
  rng := by rw [hh]; exact h.rng
  fr := h.fr
  nx := h.nx
  st := h.st
  vers := h.vers
  cel := by
    intro x ty c ver minv fz ex hg v cv p hv hp
    obtain ⟨h1, h2⟩ := h.cel x ty c ver minv fz ex hg v cv p hv hp
    refine ⟨?_, fun e => ?_⟩
    · unfold PlaceOk at *; rw [hh]; exact h1
    · exact (h2 e).mono (by rw [hh])
  exs := h.exs
  same := h.same
  obj := by
    intro x b p hg hp
    have := h.obj x b p hg hp
    cases b with
    | cells => trivial
    | sit => simpa [ObjOk, hh] using this
    | mp => simpa [ObjOk, hh] using this
  dis := h.dis

theorem HRel.drawn {P : Program} {E : Env} {σ : H} {w : World} (h : HRel P E σ w) (n : Nat) : HRel P E σ { w with drawn := n } := h.sameHeap rfl rfl rfl rfl

/-- A new block of the abstract heap that stands for nothing yet. -/
theorem HRel.newAbs {P : Program} {E : Env} {σ : H} {w : World} (h : HRel P E σ w) (b : Blk)
    (hb : ∀ ty c ver minv fz ex, b = .cells ty c ver minv fz ex → ∀ v e, minv ≤ v → v < ver → ex[ver - 1 - v]? = some e → e ≤ c.length) : HRel P E (σ.new b) w where
  old := h.old
  sz := h.sz
  os := h.os
  tape := h.tape
  out := h.out
  rng := h.rng
  fr := fun x v p hp => by simp only [H.new, Pos.toNat_succ]; have := h.fr x v p hp; omega
  nx := fun x hx => by
    simp only [H.new, Pos.toNat_succ] at hx
    rw [H.m_new, if_neg]
    · exact h.nx x (by omega)
    · rintro rfl; omega
  st := fun x n b' hx => by
    rw [H.m_new] at hx
    simp only [H.new]
    by_cases hx' : x = σ.nx
    · rw [if_pos hx'] at hx; simp at hx; omega
    · rw [if_neg hx'] at hx; have := h.st x n b' hx; omega
  vers := fun x ty c ver minv fz ex hg v hv => by
    rw [H.get_new] at hg
    by_cases hx : x = σ.nx
    · cases hp : E.pl x v with
      | none => rfl
      | some p => have := h.fr x v p hp; subst hx; omega
    · rw [if_neg hx] at hg; exact h.vers x ty c ver minv fz ex hg v hv
  cel := fun x ty c ver minv fz ex hg v cv p hv hp => by
    rw [H.get_new] at hg
    by_cases hx : x = σ.nx
    · have := h.fr x v p hp; subst hx; omega
    · rw [if_neg hx] at hg; exact h.cel x ty c ver minv fz ex hg v cv p hv hp
  exs := fun x ty c ver minv fz ex hg v e h1 h2 h3 => by
    rw [H.get_new] at hg
    by_cases hx : x = σ.nx
    · rw [if_pos hx] at hg; simp at hg; exact hb ty c ver minv fz ex hg v e h1 h2 h3
    · rw [if_neg hx] at hg; exact h.exs x ty c ver minv fz ex hg v e h1 h2 h3
  same := h.same
  obj := fun x b' p hg hp => by
    rw [H.get_new] at hg
    by_cases hx : x = σ.nx
    · have := h.fr x 0 p hp; subst hx; omega
    · rw [if_neg hx] at hg; exact h.obj x b' p hg hp
  dis := fun x y v u p q hne hx hy hp hq => by
    have hx' : x ≠ σ.nx := by have := h.fr x v p hp; rintro rfl; omega
    have hy' : y ≠ σ.nx := by have := h.fr y u q hq; rintro rfl; omega
    exact h.dis x y v u p q hne ((live_of_get (by rw [H.get_new, if_neg hx']) v).1 hx) ((live_of_get (by rw [H.get_new, if_neg hy']) u).1 hy) hp hq

def Env.put (E : Env) (x : Pos) (v : Nat) (p : Place) : Env := { E with pl := fun y u => if y = x ∧ u = v then some p else E.pl y u }
theorem Env.put_self (E : Env) (x : Pos) (v : Nat) (p : Place) : (E.put x v p).pl x v = some p := by simp [Env.put]
theorem Env.put_ne (E : Env) {x y : Pos} {v u : Nat} (p : Place) (h : ¬ (y = x ∧ u = v)) : (E.put x v p).pl y u = E.pl y u := by simp only [Env.put, if_neg h]
theorem Env.le_put {E : Env} {x : Pos} {v : Nat} (p : Place) (h : E.pl x v = none) : E.le (E.put x v p) :=
  ⟨rfl, fun y u q hq => by
    by_cases e : y = x ∧ u = v
    · obtain ⟨rfl, rfl⟩ := e; rw [h] at hq; simp at hq
    · rw [Env.put_ne _ _ e]; exact hq⟩

def World.push (w : World) (o : Obj) : World := { w with heap := w.heap.push o }
theorem push_lt {w : World} {o : Obj} {b : Nat} (h : b < w.heap.size) : (World.push w o).heap[b]? = w.heap[b]? := by
  simp only [World.push]; rw [Array.getElem?_push, if_neg (by omega)]
theorem push_at (w : World) (o : Obj) : (World.push w o).heap[w.heap.size]? = some o := by simp [World.push]

/-- A block just made, as it lies at a place. -/
def Fresh (P : Program) (E : Env) (o : Obj) (p : Place) : Blk → Prop
  | .cells ty c ver minv fz ex => ver = 0 ∧ minv = 0 ∧ ex = [] ∧ p.lo = 0 ∧ szOf P ty = some p.esz ∧
      ∃ arr fro, o = .cells arr ty fro ∧ (fz = none ∨ fro = (0, 0)) ∧ arr.size = p.size ∧ c.length ≤ p.size ∧ ∀ (i : Nat) v, c[i]? = some v → ∃ cv, arr[i]? = some cv ∧ VR E v cv
  | .sit s pos => ∃ ba : ByteArray, o = .stringIter ba pos ∧ s = ba.data.toList.map (·.toNat)
  | .mp es => es = [] ∧ ∃ clock, o = .map #[] clock

theorem Fresh.exs {P : Program} {E : Env} {o : Obj} {p : Place} {b : Blk} (h : Fresh P E o p b) : ∀ ty c ver minv fz ex, b = .cells ty c ver minv fz ex → ∀ v e, minv ≤ v → v < ver → ex[ver - 1 - v]? = some e → e ≤ c.length := by
  rintro ty c ver minv fz ex rfl v e _ h2 _
  have := h.1; omega

theorem PlaceOk.mono {P : Program} {E E' : Env} {w w' : World} {ty : Nat} {c : List V} {p : Place} (h : PlaceOk P E w ty c p) (hE : E.le E') (hw : w'.heap[p.blk]? = w.heap[p.blk]?) : PlaceOk P E' w' ty c p := by
  obtain ⟨arr, fro, h1, h2, h3, h4, h5⟩ := h
  refine ⟨arr, fro, by rw [hw]; exact h1, h2, h3, h4, fun i v hv hl => ?_⟩
  obtain ⟨cv, h6, h7⟩ := h5 i v hv hl
  exact ⟨cv, h6, h7.mono hE⟩
theorem ObjOk.mono {E E' : Env} {w w' : World} {p : Place} {b : Blk} (h : ObjOk E w p b) (hE : E.le E') (hw : w'.heap[p.blk]? = w.heap[p.blk]?) : ObjOk E' w' p b := by
  cases b with
  | cells => trivial
  | sit s pos => simpa [ObjOk, hw] using h
  | mp es =>
    obtain ⟨ents, clock, h1, h2, h3⟩ := h
    exact ⟨ents, clock, by rw [hw]; exact h1, h2.mono hE, h3.mono hE⟩

theorem visib_zero {c : List V} {v : Nat} {cv : List V} (h : visib c 0 0 [] v = some cv) : v = 0 ∧ cv = c := by
  unfold visib at h
  split at h
  · rename_i e; simp at h; exact ⟨e, h.symm⟩
  · split at h
    · rename_i h'; omega
    · simp at h
theorem visib_self {c : List V} {ver minv : Nat} {ex : List Nat} : visib c ver minv ex ver = some c := by simp [visib]
theorem visib_le {c : List V} {ver minv v : Nat} {ex : List Nat} {cv : List V} (h : visib c ver minv ex v = some cv) : v ≤ ver := by
  unfold visib at h
  split at h
  · omega
  · split at h
    · omega
    · simp at h

/-- A block that stood for nothing gets its place: the real block is just made. -/
theorem HRel.place {P : Program} {E : Env} {σ : H} {w : World} (h : HRel P E σ w) {x : Pos} {b : Blk} {o : Obj} {p : Place} (hx : σ.get x = some b)
    (hp : ∀ v, E.pl x v = none) (hb : p.blk = w.heap.size) (hF : Fresh P E o p b) : HRel P (E.put x 0 p) σ (World.push w o) := by
  have hle : E.le (E.put x 0 p) := Env.le_put p (hp 0)
  have hold : ∀ y u q, E.pl y u = some q → (World.push w o).heap[q.blk]? = w.heap[q.blk]? := fun y u q hq => push_lt (h.rng y u q hq).2
  have hsz : (World.push w o).heap.size = w.heap.size + 1 := by simp [World.push]
  have pl_cases : ∀ y u q, (E.put x 0 p).pl y u = some q → (y = x ∧ u = 0 ∧ q = p) ∨ (E.pl y u = some q ∧ y ≠ x) := by
    intro y u q hq
    by_cases e : y = x ∧ u = 0
    · obtain ⟨rfl, rfl⟩ := e; rw [Env.put_self] at hq; simp at hq; exact .inl ⟨rfl, rfl, hq.symm⟩
    · rw [Env.put_ne _ _ e] at hq
      refine .inr ⟨hq, ?_⟩
      rintro rfl
      rw [hp u] at hq; simp at hq
  have hnew : (World.push w o).heap[p.blk]? = some o := by rw [hb]; exact push_at w o
  refine { old := ?_, sz := ?_, os := h.os, tape := h.tape, out := h.out, rng := ?_, fr := ?_, nx := h.nx, st := h.st, vers := ?_, cel := ?_, exs := h.exs, same := ?_, obj := ?_, dis := ?_ }
  · intro k hk
    have hk' : k < E.w0.heap.size := hk
    rw [push_lt (Nat.lt_of_lt_of_le hk' h.sz)]; exact h.old k hk'
  · rw [hsz]; have := h.sz; show E.w0.heap.size ≤ _; omega
  · intro y u q hq
    rcases pl_cases y u q hq with ⟨_, _, rfl⟩ | ⟨hq', _⟩
    · rw [hsz, hb]; exact ⟨h.sz, by omega⟩
    · have := h.rng y u q hq'; rw [hsz]; exact ⟨this.1, by omega⟩
  · intro y u q hq
    rcases pl_cases y u q hq with ⟨rfl, _, rfl⟩ | ⟨hq', _⟩
    · exact h.get_lt hx
    · exact h.fr y u q hq'
  · intro y ty c ver minv fz ex hg v hv
    by_cases e : y = x ∧ v = 0
    · obtain ⟨rfl, rfl⟩ := e; omega
    · rw [Env.put_ne _ _ e]; exact h.vers y ty c ver minv fz ex hg v hv
  · intro y ty c ver minv fz ex hg v cv q hv hq
    rcases pl_cases y v q hq with ⟨rfl, rfl, rfl⟩ | ⟨hq', _⟩
    · rw [hg] at hx; simp at hx; subst hx
      obtain ⟨rfl, rfl, rfl, hl, hes, arr, fro, rfl, hfro, ha, hc, hcell⟩ := hF
      obtain ⟨_, rfl⟩ := visib_zero hv
      refine ⟨⟨arr, fro, hnew, ha, hes, by rw [hl]; omega, fun i v' hv' _ => ?_⟩, fun _ => ?_⟩
      · obtain ⟨cv', h1, h2⟩ := hcell i v' hv'
        exact ⟨cv', by rw [hl]; simpa using h1, h2.mono hle⟩
      · cases fz with
        | none => trivial
        | some f =>
          intro arr' ty' lo hi hb'
          rw [hnew] at hb'
          rcases hfro with h0 | rfl
          · simp at h0
          · simp at hb'; exact .inr (by omega)
    · obtain ⟨h1, h2⟩ := h.cel y ty c ver minv fz ex hg v cv q hv hq'
      exact ⟨h1.mono hle (hold y v q hq'), fun e => (h2 e).mono (hold y v q hq')⟩
  · intro y v u q r hq hr hqr
    rcases pl_cases y v q hq with ⟨rfl, rfl, rfl⟩ | ⟨hq', hne⟩ <;> rcases pl_cases y u r hr with ⟨h1, rfl, rfl⟩ | ⟨hr', hne'⟩
    · rfl
    · exact absurd rfl hne'
    · exact absurd h1 hne
    · exact h.same y v u q r hq' hr' hqr
  · intro y b' q hg hq
    rcases pl_cases y 0 q hq with ⟨rfl, _, rfl⟩ | ⟨hq', _⟩
    · rw [hg] at hx; simp at hx; subst hx
      cases b' with
      | cells => trivial
      | sit s pos => obtain ⟨ba, rfl, hs⟩ := hF; exact ⟨ba, hnew, hs⟩
      | mp es => obtain ⟨rfl, clock, rfl⟩ := hF; exact ⟨#[], clock, hnew, .nil, .nil⟩
    · exact (h.obj y b' q hg hq').mono hle (hold y 0 q hq')
  · intro y z v u q r hne hy hz hq hr
    rcases pl_cases y v q hq with ⟨rfl, _, rfl⟩ | ⟨hq', _⟩ <;> rcases pl_cases z u r hr with ⟨rfl, _, rfl⟩ | ⟨hr', _⟩
    · exact absurd rfl hne
    · have := (h.rng z u r hr').2; omega
    · have := (h.rng y v q hq').2; omega
    · exact h.dis y z v u q r hne hy hz hq' hr'

theorem HRel.nx_free {P : Program} {E : Env} {σ : H} {w : World} (h : HRel P E σ w) (v : Nat) : E.pl σ.nx v = none := by
  cases hp : E.pl σ.nx v with
  | none => rfl
  | some p => have := h.fr σ.nx v p hp; omega

theorem Ext.newAbs {E : Env} {σ : H} {w : World} (b : Blk) : Ext E σ w E (σ.new b) w where
  le := .refl E
  nx := by simp [H.new, Pos.toNat_succ]
  ck := by simp [H.new]
  evo := fun x n b' hx => by
    rw [H.m_new] at hx
    by_cases e : x = σ.nx
    · rw [if_pos e] at hx; simp at hx; exact .inr (by omega)
    · rw [if_neg e] at hx; exact .inl hx
  pend := fun x hx hp => ⟨hp, by rw [H.m_new, if_neg]; rintro rfl; omega⟩
  wsz := Nat.le_refl _

/-- A new block of both. -/
theorem HRel.alloc {P : Program} {E : Env} {σ : H} {w : World} (h : HRel P E σ w) {b : Blk} {o : Obj} {p : Place} (hb : p.blk = w.heap.size) (hF : Fresh P E o p b) :
    HRel P (E.put σ.nx 0 p) (σ.new b) (World.push w o) ∧ Ext E σ w (E.put σ.nx 0 p) (σ.new b) (World.push w o) := by
  refine ⟨(h.newAbs b (Fresh.exs hF)).place (by rw [H.get_new, if_pos rfl]) h.nx_free hb hF, ?_⟩
  have h1 : Ext E σ w E (σ.new b) w := Ext.newAbs b
  exact { le := Env.le_put p (h.nx_free 0), nx := h1.nx, ck := h1.ck, evo := h1.evo,
          pend := fun x hx hp => ⟨fun v => by rw [Env.put_ne]; exact hp v; rintro ⟨rfl, _⟩; omega, (h1.pend x hx hp).2⟩,
          wsz := by simp [World.push] }

end Go.Proofs.YtahgfodccndcjaaGreatEng
