/- The engine, part 25: regions whose order is open: every order comes to what the chosen one comes to. -/
import Derived.Test.YtahgfodccndcjaaGreatEng24
namespace Go.Proofs.YtahgfodccndcjaaGreatEng
open Go

/-- How a heap comes from another. -/
structure Evo (σ σ' : H) : Prop where
  nx : σ.nx.toNat ≤ σ'.nx.toNat
  ck : σ.ck ≤ σ'.ck
  evo : ∀ x n b, σ'.m.get x = some (n, b) → σ.m.get x = some (n, b) ∨ σ.ck ≤ n
theorem Evo.refl (σ : H) : Evo σ σ := ⟨Nat.le_refl _, Nat.le_refl _, fun _ _ _ h => .inl h⟩
theorem Evo.trans {a b c : H} (h : Evo a b) (h' : Evo b c) : Evo a c :=
  ⟨Nat.le_trans h.nx h'.nx, Nat.le_trans h.ck h'.ck, fun x n bl hx => by
    rcases h'.evo x n bl hx with h1 | h1
    · exact h.evo x n bl h1
    · exact .inr (Nat.le_trans h.ck h1)⟩
theorem Ext.toEvo {E E' : Env} {σ σ' : H} {w w' : World} (h : Ext E σ w E' σ' w') : Evo σ σ' := ⟨h.nx, h.ck, h.evo⟩
structure Wf (σ : H) : Prop where
  nx : ∀ x : Pos, σ.nx.toNat ≤ x.toNat → σ.m.get x = none
  st : ∀ x n b, σ.m.get x = some (n, b) → n < σ.ck
theorem HRel.wf {P : Program} {E : Env} {σ : H} {w : World} (h : HRel P E σ w) : Wf σ := ⟨h.nx, h.st⟩

theorem AOp_blk {τ : Tr V} {q : AOp} {k : AK} {b : Blk} (h : q.ev τ = some (k, b)) : ∀ ty c ver minv fz ex, b = .cells ty c ver minv fz ex → ∀ v e, minv ≤ v → v < ver → ex[ver - 1 - v]? = some e → e ≤ c.length := by
  rintro ty c ver minv fz ex rfl v e _ h2 _
  have : ver = 0 := by
    cases q with
    | alloc => simp [AOp.ev] at h; exact h.2.2.2.1.symm ▸ rfl
    | box => simp only [AOp.ev] at h; split at h <;> simp at h; exact h.2.2.2.1.symm ▸ rfl
    | bslice =>
      simp only [AOp.ev] at h
      split at h
      · split at h <;> simp at h
        exact h.2.2.2.1.symm ▸ rfl
      · simp at h
    | mkmap => simp [AOp.ev] at h
    | mksl =>
      simp only [AOp.ev] at h
      split at h
      · split at h
        · split at h <;> simp at h
          exact h.2.2.2.1.symm ▸ rfl
        · simp at h
      · simp at h
    | range => simp only [AOp.ev] at h; split at h <;> simp at h
  omega

theorem blkCells_congr {σ σ' : H} {x : Pos} (h : σ.get x = σ'.get x) (v : Nat) : blkCells σ x v = blkCells σ' x v := by unfold blkCells; rw [h]

theorem ROp_same {τ : Tr V} {q : ROp} {σ σ' : H} (hf : q.foot τ = some none ∨ ∃ x, q.foot τ = some (some x) ∧ σ.get x = σ'.get x) : q.ev τ σ = q.ev τ σ' := by
  cases q with
  | load ag a =>
    simp only [ROp.foot] at hf
    simp only [ROp.ev]
    cases ha : a.ev τ with
    | none => rfl
    | some u => cases u <;> simp [ha] at hf <;> simp only [blkCells, hf]
  | b2s a =>
    simp only [ROp.foot] at hf
    simp only [ROp.ev]
    cases ha : a.ev τ with
    | none => rfl
    | some u => cases u <;> simp [ha] at hf <;> simp only [slCells, blkCells, hf]
  | lookup z ok eq m k =>
    simp only [ROp.foot] at hf
    simp only [ROp.ev]
    cases ha : m.ev τ with
    | none => rfl
    | some u => cases u <;> simp [ha] at hf <;> simp only [hf]
  | lenm m =>
    simp only [ROp.foot] at hf
    simp only [ROp.ev]
    cases ha : m.ev τ with
    | none => rfl
    | some u => cases u <;> simp [ha] at hf <;> simp only [hf]
  | cpu a =>
    simp only [ROp.foot] at hf
    simp only [ROp.ev]
    cases ha : a.ev τ with
    | none => rfl
    | some u => cases u <;> simp [ha] at hf <;> simp only [blkCells, hf]
  | cup u sz a =>
    simp only [ROp.foot] at hf
    simp only [ROp.ev]
    cases ha : a.ev τ with
    | none => rfl
    | some uu =>
      cases uu <;> simp [ha] at hf <;> try rfl
      rename_i x _ _
      have : headOf σ u sz x = headOf σ' u sz x := by unfold headOf; rw [hf]
      simp only [this]

theorem ROp_foot {τ : Tr V} {q : ROp} {σ : H} {v : V} (h : q.ev τ σ = some v) : q.foot τ = some none ∨ ∃ x b, q.foot τ = some (some x) ∧ σ.get x = some b := by
  have blk : ∀ {x : Pos} {u : Nat} {c : List V}, blkCells σ x u = some c → ∃ b, σ.get x = some b := by
    intro x u c h
    unfold blkCells at h
    split at h
    · rename_i hg; exact ⟨_, hg⟩
    · simp at h
  cases q with
  | load ag a =>
    simp only [ROp.ev] at h
    split at h
    · rename_i x u o ha
      split at h
      · rename_i c hc
        obtain ⟨b, hb⟩ := blk hc
        exact .inr ⟨x, b, by simp [ROp.foot, ha], hb⟩
      · simp at h
    · rename_i c o ha; exact .inl (by simp [ROp.foot, ha])
    · simp at h
  | b2s a =>
    simp only [ROp.ev] at h
    split at h
    · rename_i s ha
      cases s <;> simp [slLen, slCells] at h
      · exact .inl (by simp [ROp.foot, ha])
      · rename_i x u o len cap es
        cases hc : blkCells σ x u with
        | none => simp [hc] at h
        | some c =>
          obtain ⟨b, hb⟩ := blk hc
          exact .inr ⟨x, b, by simp [ROp.foot, ha], hb⟩
      · exact .inl (by simp [ROp.foot, ha])
    · simp at h
  | lookup z ok eq m k =>
    simp only [ROp.ev] at h
    split at h
    · rename_i x ha
      split at h
      · split at h
        · split at h
          · rename_i es hg; exact .inr ⟨x, _, by simp [ROp.foot, ha], hg⟩
          · simp at h
        · simp at h
      · simp at h
    · simp at h
  | lenm m =>
    simp only [ROp.ev] at h
    split at h
    · rename_i ha; exact .inl (by simp [ROp.foot, ha])
    · rename_i x ha
      split at h
      · rename_i es hg; exact .inr ⟨x, _, by simp [ROp.foot, ha], hg⟩
      · simp at h
    · simp at h
  | cpu a =>
    simp only [ROp.ev] at h
    split at h
    · rename_i ha; exact .inl (by simp [ROp.foot, ha])
    · rename_i x u o ha
      split at h
      · rename_i c hc
        obtain ⟨b, hb⟩ := blk hc
        exact .inr ⟨x, b, by simp [ROp.foot, ha], hb⟩
      · simp at h
    · simp at h
  | cup u sz a =>
    simp only [ROp.ev] at h
    split at h
    · rename_i ha; exact .inl (by simp [ROp.foot, ha])
    · rename_i x u o ha
      split at h
      · rename_i hc
        have := hc.2.2
        unfold headOf at this
        split at this
        · rename_i hg; exact .inr ⟨x, _, by simp [ROp.foot, ha], hg⟩
        · simp at this
      · simp at h
    · simp at h

theorem ROp_grow {τ : Tr V} {q : ROp} {σ σ' : H} {v : V} (h : q.ev τ σ = some v) (hg : ∀ x b, σ.get x = some b → σ'.get x = some b) : q.ev τ σ' = some v := by
  rw [← h]
  refine (ROp_same ?_).symm
  rcases ROp_foot h with h1 | ⟨x, b, h1, h2⟩
  · exact .inl h1
  · exact .inr ⟨x, h1, by rw [h2, hg x b h2]⟩

section
variable {P : Program} {G : Nat → Option V} {ops : Array Oper} {B : List Nat} {ds : List DO} {cf : CallF} {n : Nat} {r : R}

/-- What a step that does not act leaves of heap and deferred calls. -/
theorem step_still (F : DF P G ops B ds) (X : Trace cf n ds r) {p : Nat} {d : DO} (hp : p < X.L) (hd : ds[p]? = some d) (hk : d.kind ≠ 2) :
    X.D (p + 1) = X.D p ∧ ((X.S (p + 1) = X.S p ∧ ¬ ∃ q, d.co.op = .a q ∧ guardV (X.T p) d.co.gd = some true) ∨
      ∃ q k b, d.co.op = .a q ∧ guardV (X.T p) d.co.gd = some true ∧ q.ev (X.T p) = some (k, b) ∧ X.S (p + 1) = (X.S p).new b) := by
  obtain ⟨o, ho, hco, hkk⟩ := F.mem p d hd
  have hst := X.step p d hp hd
  unfold stepOp at hst
  split at hst
  · simp at hst
  · rename_i hg
    split at hst
    · simp at hst
      exact ⟨hst.2.2.symm, .inl ⟨hst.2.1.symm, by rintro ⟨q, _, h2⟩; rw [hg] at h2; simp at h2⟩⟩
    · simp at hst
  · rename_i hg
    split at hst
    · rename_i q hq
      split at hst
      · split at hst
        · simp at hst
          exact ⟨hst.2.2.symm, .inl ⟨hst.2.1.symm, by rintro ⟨q', h1, _⟩; rw [hq] at h1; simp at h1⟩⟩
        · simp at hst
      · simp at hst
    · rename_i q hq
      split at hst
      · split at hst
        · simp at hst
          exact ⟨hst.2.2.symm, .inl ⟨hst.2.1.symm, by rintro ⟨q', h1, _⟩; rw [hq] at h1; simp at h1⟩⟩
        · simp at hst
      · simp at hst
    · rename_i q hq
      split at hst
      · rename_i k b hv
        split at hst
        · simp at hst
          exact ⟨hst.2.2.symm, .inr ⟨q, k, b, hq, hg, hv, hst.2.1.symm⟩⟩
        · simp at hst
      · simp at hst
    · rename_i q hq
      rw [hq] at hkk; exact absurd hkk hk

/-- What a step writes. -/
theorem step_put (F : DF P G ops B ds) (X : Trace cf n ds r) {p : Nat} {d : DO} {o : Oper} (hp : p < X.L) (hd : ds[p]? = some d) (ho : ops[d.at_]? = some o) :
    d.co.op = cOp P G o ∧ (∃ g, cGuard ops o.guard = some g ∧ d.co.gd = g) ∧ d.co.dst = o.dst.map Pos.ofNat ∧ ∃ v, putD n (X.T p) (o.dst.map Pos.ofNat) v = some (X.T (p + 1)) := by
  obtain ⟨o', ho', hco, hkk⟩ := F.mem p d hd
  rw [ho] at ho'; simp at ho'; subst ho'
  have hst := X.step p d hp hd
  rcases cOper_cases P G ops o with hb | ⟨g, hg, hb⟩
  · rw [hco, hb] at hst; simp [stepOp, guardV, POp.ev] at hst
  · rw [hco, hb]
    refine ⟨rfl, ⟨g, hg, rfl⟩, rfl, ?_⟩
    rw [hco, hb] at hst
    unfold stepOp at hst
    simp only at hst
    split at hst
    · simp at hst
    · split at hst
      · rename_i τ' hτ; simp at hst; exact ⟨_, by rw [hτ, hst.1]⟩
      · simp at hst
    · split at hst
      · split at hst
        · split at hst
          · rename_i τ' hτ; simp at hst; exact ⟨_, by rw [hτ, hst.1]⟩
          · simp at hst
        · simp at hst
      · split at hst
        · split at hst
          · rename_i τ' hτ; simp at hst; exact ⟨_, by rw [hτ, hst.1]⟩
          · simp at hst
        · simp at hst
      · split at hst
        · split at hst
          · rename_i τ' hτ; simp at hst; exact ⟨_, by rw [hτ, hst.1]⟩
          · simp at hst
        · simp at hst
      · split at hst
        · simp at hst
        · split at hst
          · rename_i τ' hτ; simp at hst; exact ⟨_, by rw [hτ, hst.1]⟩
          · simp at hst
        · split at hst
          · split at hst
            · rename_i τ' hτ; simp at hst; exact ⟨_, by rw [hτ, hst.1]⟩
            · simp at hst
          · simp at hst
          · simp at hst
        · split at hst
          · rename_i τ' hτ; simp at hst; exact ⟨_, by rw [hτ, hst.1]⟩
          · simp at hst
        · simp at hst
        · simp at hst

/-- The operation at a place writes the temporary. -/
def Wr (ops : Array Oper) (ds : List DO) (p t : Nat) : Prop := ∃ d o, ds[p]? = some d ∧ ops[d.at_]? = some o ∧ o.dst = some t

theorem Wr.uniq (F : DF P G ops B ds) {p q t : Nat} (h : Wr ops ds p t) (h' : Wr ops ds q t) : p = q := by
  obtain ⟨d, o, h1, h2, h3⟩ := h
  obtain ⟨d', o', h1', h2', h3'⟩ := h'
  rcases Nat.lt_trichotomy p q with hlt | he | hlt
  · exact absurd h3' (F.uniq _ _ o o' (F.ord.ord p q d d' hlt h1 h1').2.1 h2 h2' t h3)
  · exact he
  · exact absurd h3 (F.uniq _ _ o' o (F.ord.ord q p d' d hlt h1' h1).2.1 h2' h2 t h3')

theorem at_inj (F : DF P G ops B ds) {p q : Nat} {d x : DO} (hp : ds[p]? = some d) (hq : ds[q]? = some x) (h : d.at_ = x.at_) : p = q := by
  rcases Nat.lt_trichotomy p q with hlt | he | hlt
  · exact absurd h (F.ord.ord p q d x hlt hp hq).2.1
  · exact he
  · exact absurd h.symm (F.ord.ord q p x d hlt hq hp).2.1

theorem T_keep (F : DF P G ops B ds) (X : Trace cf n ds r) {p t : Nat} : ∀ {q : Nat}, p ≤ q → q ≤ X.L → (∀ k, p ≤ k → k < q → ¬ Wr ops ds k t) → (X.T q).get (Pos.ofNat t) = (X.T p).get (Pos.ofNat t) := by
  intro q
  induction q with
  | zero => intro h1 _ _; have : p = 0 := by omega
            subst this; rfl
  | succ q ih =>
    intro h1 h2 h3
    rcases Nat.lt_or_ge p (q + 1) with hlt | hge
    · have hq : q < ds.length := by have := X.le; omega
      obtain ⟨d, hd⟩ : ∃ d, ds[q]? = some d := ⟨_, List.getElem?_eq_getElem hq⟩
      obtain ⟨o, ho, _⟩ := F.mem q d hd
      obtain ⟨_, _, _, v, hv⟩ := step_put F X (by omega) hd ho
      rw [putD_get hv, if_neg (fun e => h3 q (by omega) (by omega) ⟨d, o, hd, ho, e⟩)]
      exact ih (by omega) (by omega) (fun k a b => h3 k a (by omega))
    · have : p = q + 1 := by omega
      subst this; rfl

/-- The next place that acts, or the end. -/
theorem nextH (ds : List DO) (L : Nat) : ∀ (m p : Nat), p + m = L → ∃ C, p ≤ C ∧ C ≤ L ∧ (C = L ∨ ∃ d, ds[C]? = some d ∧ d.kind = 2) ∧ ∀ (k : Nat) (d : DO), p ≤ k → k < C → ds[k]? = some d → d.kind ≠ 2
  | 0, p, h => ⟨p, Nat.le_refl _, by omega, .inl (by omega), fun k d a b => by omega⟩
  | m + 1, p, h => by
    by_cases hk : ∃ d, ds[p]? = some d ∧ d.kind = 2
    · exact ⟨p, Nat.le_refl _, by omega, .inr hk, fun k d a b => by omega⟩
    · obtain ⟨C, h1, h2, h3, h4⟩ := nextH ds L m (p + 1) (by omega)
      refine ⟨C, by omega, h2, h3, fun k d a b hd => ?_⟩
      rcases Nat.lt_or_ge p k with hlt | hge
      · exact h4 k d hlt b hd
      · have : k = p := by omega
        subst this; exact fun e => hk ⟨d, hd, e⟩

/-- New memory that is made at the place. -/
def Crt (ds : List DO) (T : Nat → Tr V) (p : Nat) (b : Blk) : Prop := ∃ d q k, ds[p]? = some d ∧ d.co.op = .a q ∧ guardV (T p) d.co.gd = some true ∧ q.ev (T p) = some (k, b)

/-- Over places that do not act, the heap only grows. -/
theorem advance (F : DF P G ops B ds) (X : Trace cf n ds r) {E : Env} {w : World} {p : Nat} (h : HRel P E (X.S p) w) : ∀ {C : Nat}, p ≤ C → C ≤ X.L → (∀ (k : Nat) (d : DO), p ≤ k → k < C → ds[k]? = some d → d.kind ≠ 2) →
    HRel P E (X.S C) w ∧ Ext E (X.S p) w E (X.S C) w ∧ X.D C = X.D p ∧ (∀ k, p ≤ k → k ≤ C → Wf (X.S k) ∧ Evo (X.S p) (X.S k)) ∧ (∀ k l, p ≤ k → k ≤ l → l ≤ C → Evo (X.S k) (X.S l) ∧ ∀ x b, (X.S k).get x = some b → (X.S l).get x = some b) ∧
      ∀ k b, p ≤ k → k < C → Crt ds X.T k b → (X.S C).get (X.S k).nx = some b ∧ ∀ v, E.pl (X.S k).nx v = none := by
  intro C
  induction C with
  | zero =>
    intro h1 h2 _
    have : p = 0 := by omega
    subst this
    refine ⟨h, .refl _ _ _, rfl, fun k a b => ?_, fun k l a b c => ?_, fun k b a c => by omega⟩
    · have e : k = 0 := by omega
      rw [e]; exact ⟨h.wf, .refl _⟩
    · have e1 : k = 0 := by omega
      have e2 : l = 0 := by omega
      rw [e1, e2]; exact ⟨.refl _, fun _ _ h => h⟩
  | succ C ih =>
    intro h1 h2 h3
    rcases Nat.lt_or_ge p (C + 1) with hlt | hge
    · obtain ⟨g1, g2, g3, g4, g5, g6⟩ := ih (by omega) (by omega) (fun k d a b => h3 k d a (by omega))
      have hC : C < ds.length := by have := X.le; omega
      obtain ⟨d, hd⟩ : ∃ d, ds[C]? = some d := ⟨_, List.getElem?_eq_getElem hC⟩
      obtain ⟨hD, hS⟩ := step_still F X (by omega) hd (h3 C d (by omega) (by omega) hd)
      -- the step itself
      have key : HRel P E (X.S (C + 1)) w ∧ Ext E (X.S C) w E (X.S (C + 1)) w ∧ (∀ x b, (X.S C).get x = some b → (X.S (C + 1)).get x = some b) ∧ ∀ b, Crt ds X.T C b → (X.S (C + 1)).get (X.S C).nx = some b := by
        rcases hS with ⟨e, hno⟩ | ⟨q, k, b, hq, hg, hv, e⟩
        · rw [e]
          refine ⟨g1, .refl _ _ _, fun _ _ h => h, fun b hc => ?_⟩
          obtain ⟨d', q, k, hd', hq, hg, _⟩ := hc
          rw [hd] at hd'; simp at hd'; subst hd'
          exact absurd ⟨q, hq, hg⟩ hno
        · rw [e]
          refine ⟨g1.newAbs b (AOp_blk hv), Ext.newAbs b, fun x b' hx => ?_, fun b' hc => ?_⟩
          · rw [H.get_new, if_neg]
            · exact hx
            · rintro rfl
              rw [get_none_m (g1.nx _ (Nat.le_refl _))] at hx; simp at hx
          · obtain ⟨d', q', k', hd', hq', hg', hv'⟩ := hc
            rw [hd] at hd'; simp at hd'; subst hd'
            rw [hq] at hq'; simp at hq'; subst hq'
            rw [hv] at hv'; simp at hv'
            rw [H.get_new, if_pos rfl, hv'.2]
      obtain ⟨k1, k2, k3, k4⟩ := key
      refine ⟨k1, g2.trans k2, hD.trans g3, fun k a b => ?_, fun k l a b c => ?_, fun k b a c hc => ?_⟩
      · rcases Nat.lt_or_ge k (C + 1) with hk | hk
        · exact g4 k a (by omega)
        · have : k = C + 1 := by omega
          subst this; exact ⟨k1.wf, (g2.trans k2).toEvo⟩
      · rcases Nat.lt_or_ge l (C + 1) with hl | hl
        · exact g5 k l a b (by omega)
        · have : l = C + 1 := by omega
          subst this
          rcases Nat.lt_or_ge k (C + 1) with hk | hk
          · obtain ⟨e1, e2⟩ := g5 k C a (by omega) (Nat.le_refl _)
            exact ⟨e1.trans k2.toEvo, fun x b hx => k3 x b (e2 x b hx)⟩
          · have : k = C + 1 := by omega
            subst this; exact ⟨.refl _, fun _ _ h => h⟩
      · rcases Nat.lt_or_ge k C with hk | hk
        · obtain ⟨e1, e2⟩ := g6 k b a hk hc
          exact ⟨k3 _ _ e1, e2⟩
        · have : k = C := by omega
          subst this
          exact ⟨k4 b hc, g1.nx_free⟩
    · have : p = C + 1 := by omega
      subst this
      refine ⟨h, .refl _ _ _, rfl, fun k a b => ?_, fun k l a b c => ?_, fun k b a c => by omega⟩
      · have e : k = C + 1 := by omega
        rw [e]; exact ⟨h.wf, .refl _⟩
      · have e1 : k = C + 1 := by omega
        have e2 : l = C + 1 := by omega
        rw [e1, e2]; exact ⟨.refl _, fun _ _ h => h⟩

end
end Go.Proofs.YtahgfodccndcjaaGreatEng
