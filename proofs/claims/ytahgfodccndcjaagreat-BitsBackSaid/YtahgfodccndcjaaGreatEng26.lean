/- The engine, part 26: regions whose order is open: the invariant. -/
import Derived.Test.YtahgfodccndcjaaGreatEng25
namespace Go.Proofs.YtahgfodccndcjaaGreatEng
open Go

theorem getD_put {l : Array Bool} {j : Nat} (hj : j < l.size) (i : Nat) : (l.setIfInBounds j true).getD i false = true ↔ i = j ∨ l.getD i false = true := by
  by_cases h : i = j
  · subst h; simp [hj]
  · rw [getD_set_ne false (fun e => h e.symm)]; simp [h]

section
variable {P : Program} {G : Nat → Option V} {ops : Array Oper} {B : List Nat} {ds : List DO} {cf : CallF} {n : Nat} {r : R} {w0 : World}

/-- What holds while the operations are done in some order: 'C': the place of what acts next. -/
structure Inv (P : Program) (ops : Array Oper) (B : List Nat) (ds : List DO) (X : Trace cf n ds r) (w0 : World) (E0 : Env) (wi : World) (l : Array Bool) (E : Env) (a : Act) (w : World) (C : Nat) : Prop where
  lsz : l.size = ops.size
  clo : ∀ i j, i < ops.size → l.getD j false = true → bef B i j = true → l.getD i false = true
  hC : C ≤ X.L
  kC : C = X.L ∨ ∃ d, ds[C]? = some d ∧ d.kind = 2
  dnL : ∀ (p : Nat) (d : DO), ds[p]? = some d → l.getD d.at_ false = true → p < X.L
  dn2 : ∀ (p : Nat) (d : DO), ds[p]? = some d → d.kind = 2 → (l.getD d.at_ false = true ↔ p < C)
  h0 : E.w0 = w0
  rel : HRel P E (X.S C) w
  ext : Ext E0 (X.S 0) wi E (X.S C) w
  sz : n ≤ a.tmps.size
  df : DfL E (X.D C) a.defers
  vd : ∀ (p : Nat) (d : DO) (t : Nat), ds[p]? = some d → Wr ops ds p t → l.getD d.at_ false = true → ∀ v, (X.T (p + 1)).get (Pos.ofNat t) = some v → VR E v (a.tmps.getD t undef)
  vu : ∀ t : Nat, (∀ (p : Nat) (d : DO), ds[p]? = some d → Wr ops ds p t → l.getD d.at_ false ≠ true) → ∀ v, (X.T 0).get (Pos.ofNat t) = some v → VR E v (a.tmps.getD t undef)
  pd : ∀ (p : Nat) (d : DO) (b : Blk), p < C → ds[p]? = some d → l.getD d.at_ false ≠ true → Crt ds X.T p b → (X.S C).get (X.S p).nx = some b ∧ ∀ v, E.pl (X.S p).nx v = none
  hs : ∀ p, p ≤ C → Wf (X.S p)
  hv : ∀ p q, p ≤ q → q ≤ C → Evo (X.S p) (X.S q)

/-- An operation is done. -/
theorem Inv.upd (F : DF P G ops B ds) {X : Trace cf n ds r} {E0 E E' : Env} {wi w w' : World} {l : Array Bool} {a : Act} {C C' : Nat} (I : Inv P ops B ds X w0 E0 wi l E a w C) {p : Nat} {d : DO} {o : Oper} (hd : ds[p]? = some d) (ho : ops[d.at_]? = some o)
    (hp : p < X.L) (hpre : ∀ e ∈ o.after, Region.binds .any e = true → l.getD e.on false = true) (_hund : l.getD d.at_ false ≠ true) (hCC : C' ≤ X.L) (kC' : C' = X.L ∨ ∃ d, ds[C']? = some d ∧ d.kind = 2)
    (hcase : (C' = C ∧ d.kind ≠ 2) ∨ (p = C ∧ d.kind = 2 ∧ C < C' ∧ ∀ (k : Nat) (x : DO), C < k → k < C' → ds[k]? = some x → x.kind ≠ 2)) (hle : E.le E') (hrel : HRel P E' (X.S C') w') (hext : Ext E0 (X.S 0) wi E' (X.S C') w')
    {dd : List Deferred} (hdf : DfL E' (X.D C') dd) {cv : Value} (hcv : ∀ t v, o.dst = some t → (X.T (p + 1)).get (Pos.ofNat t) = some v → VR E' v cv)
    (hpd : ∀ (q : Nat) (x : DO) (b : Blk), q < C' → ds[q]? = some x → q ≠ p → l.getD x.at_ false ≠ true → Crt ds X.T q b → (X.S C').get (X.S q).nx = some b ∧ ∀ v, E'.pl (X.S q).nx v = none)
    (hhs : ∀ q, q ≤ C' → Wf (X.S q)) (hhv : ∀ q q', q ≤ q' → q' ≤ C' → Evo (X.S q) (X.S q')) :
    Inv P ops B ds X w0 E0 wi (l.setIfInBounds d.at_ true) E' (({ a with defers := dd } : Act).put o.dst cv) w' C' := by
  have hj : d.at_ < l.size := by rw [I.lsz]; exact (Array.getElem?_eq_some_iff.1 ho).1
  have hl : ∀ i, (l.setIfInBounds d.at_ true).getD i false = true ↔ i = d.at_ ∨ l.getD i false = true := getD_put hj
  have hwr : ∀ t, o.dst = some t → Wr ops ds p t := fun t ht => ⟨d, o, hd, ho, ht⟩
  have hwr' : ∀ t, Wr ops ds p t → o.dst = some t := by
    rintro t ⟨d', o', h1, h2, h3⟩
    rw [hd] at h1; simp at h1; subst h1
    rw [ho] at h2; simp at h2; subst h2; exact h3
  have hsize : n ≤ ({ a with defers := dd } : Act).tmps.size := I.sz
  refine { lsz := by simpa using I.lsz, clo := ?_, hC := hCC, kC := kC', dnL := ?_, dn2 := ?_, h0 := hle.1.trans I.h0, rel := hrel, ext := hext, sz := by rw [put_size]; exact I.sz, df := by rw [put_defers]; exact hdf, vd := ?_, vu := ?_, pd := ?_, hs := hhs, hv := hhv }
  · intro i j hi hlj hb
    rw [hl] at hlj ⊢
    rcases hlj with rfl | hlj
    · obtain ⟨e, he, hbind, hor⟩ := F.conv i d.at_ o hi ho hb
      have hon := hpre e he hbind
      right
      rcases hor with rfl | hor
      · exact hon
      · exact I.clo i e.on hi hon hor
    · exact .inr (I.clo i j hi hlj hb)
  · intro q x hx hlx
    rw [hl] at hlx
    rcases hlx with e | hlx
    · have := at_inj F hx hd e; omega
    · exact I.dnL q x hx hlx
  · intro q x hx hk
    rw [hl]
    have hold := I.dn2 q x hx hk
    rcases hcase with ⟨rfl, hk2⟩ | ⟨rfl, hk2, hlt, hbtw⟩
    · constructor
      · rintro (e | h)
        · have := at_inj F hx hd e; subst this; rw [hd] at hx; simp at hx; subst hx; exact absurd hk hk2
        · exact hold.1 h
      · exact fun h => .inr (hold.2 h)
    · constructor
      · rintro (e | h)
        · have := at_inj F hx hd e; omega
        · have := hold.1 h; omega
      · intro h
        rcases Nat.lt_trichotomy q p with h1 | h1 | h1
        · exact .inr (hold.2 h1)
        · subst h1; rw [hd] at hx; simp at hx; subst hx; exact .inl rfl
        · exact absurd hk (hbtw q x h1 h hx)
  · intro q x t hx hw hlx v hv
    rw [put_getD]
    rw [hl] at hlx
    by_cases e : q = p
    · subst e
      have ht := hwr' t hw
      obtain ⟨_, _, _, u, hu⟩ := step_put F X hp hd ho
      have hlt : t < n := by
        rw [ht] at hu
        exact putD_lt hu
      rw [if_pos ⟨ht, by omega⟩]
      exact hcv t v ht hv
    · have hne : o.dst ≠ some t := fun ht => e (Wr.uniq F hw (hwr t ht))
      rw [if_neg (fun h => hne h.1)]
      refine (I.vd q x t hx hw ?_ v hv).mono hle
      rcases hlx with e' | h
      · exact absurd (at_inj F hx hd e') e
      · exact h
  · intro t hno v hv
    rw [put_getD]
    have hne : o.dst ≠ some t := fun ht => hno p d hd (hwr t ht) ((hl _).2 (.inl rfl))
    rw [if_neg (fun h => hne h.1)]
    exact (I.vu t (fun q x hx hw hlx => hno q x hx hw ((hl _).2 (.inr hlx))) v hv).mono hle
  · intro q x b hq hx hlx hc
    rw [ne_eq, hl] at hlx
    refine hpd q x b hq hx (fun e => ?_) (fun h => hlx (.inr h)) hc
    subst e; rw [hd] at hx; simp at hx; subst hx; exact hlx (.inl rfl)

/-- What is looked at stands for what the chosen run looks at. -/
theorem Inv.looks (F : DF P G ops B ds) {X : Trace cf n ds r} {E0 E : Env} {wi w : World} {l : Array Bool} {a : Act} {C : Nat} (I : Inv P ops B ds X w0 E0 wi l E a w C) {p : Nat} {d : DO} {o : Oper} (hd : ds[p]? = some d) (ho : ops[d.at_]? = some o)
    (hp : p ≤ X.L) (hpre : ∀ i, i < ops.size → bef B i d.at_ = true → l.getD i false = true) (hund : l.getD d.at_ false ≠ true) : TR E (X.T p) a (YtahgfodccndcjaaGreatEng.looks ops o) := by
  intro t ht v hv
  have idx : ∀ {q : Nat} {x : DO}, ds[q]? = some x → x.at_ < ops.size := fun {q x} hx => by
    obtain ⟨o', ho', _⟩ := F.mem q x hx
    exact (Array.getElem?_eq_some_iff.1 ho').1
  by_cases hw : ∃ q, Wr ops ds q t
  · obtain ⟨q, hw⟩ := hw
    have hw0 := hw
    obtain ⟨x, o', hx, ho', hdst⟩ := hw
    have keep0 : ∀ {m : Nat}, m ≤ X.L → (m ≤ q) → (X.T m).get (Pos.ofNat t) = (X.T 0).get (Pos.ofNat t) := fun {m} hm hmq =>
      T_keep F X (Nat.zero_le _) hm fun k _ hk hwk => by have := Wr.uniq F hwk hw0; omega
    have undone : l.getD x.at_ false ≠ true → ∀ v, (X.T 0).get (Pos.ofNat t) = some v → VR E v (a.tmps.getD t undef) := fun hu =>
      I.vu t fun q' x' hx' hw' hl' => by
        have := Wr.uniq F hw' hw0; subst this
        rw [hx] at hx'; simp at hx'; subst hx'; exact hu hl'
    by_cases e : q = p
    · subst e
      rw [hd] at hx; simp at hx; subst hx
      rw [keep0 hp (Nat.le_refl _)] at hv
      exact undone hund v hv
    · have hne : x.at_ ≠ d.at_ := fun h => e (at_inj F hx hd h)
      rcases F.look x.at_ d.at_ o' o hne ho' ho t hdst ht with hb | hb
      · have hlx := hpre x.at_ (idx hx) hb
        have hqp : q < p := by
          rcases Nat.lt_trichotomy q p with h | h | h
          · exact h
          · exact absurd h e
          · have := (F.ord.ord p q d x h hd hx).1; rw [hb] at this; simp at this
        refine I.vd q x t hx hw0 hlx v ?_
        rw [← hv]
        exact (T_keep F X (by omega) hp fun k hk _ hwk => by have := Wr.uniq F hwk hw0; omega).symm
      · have hqp : p < q := by
          rcases Nat.lt_trichotomy q p with h | h | h
          · have := (F.ord.ord q p x d h hx hd).1; rw [hb] at this; simp at this
          · exact absurd h e
          · exact h
        rw [keep0 hp (by omega)] at hv
        refine undone (fun hl => ?_) v hv
        exact hund (I.clo d.at_ x.at_ (idx hd) hl hb)
  · have hv' : (X.T 0).get (Pos.ofNat t) = some v := by
      rw [← hv]
      exact (T_keep F X (Nat.zero_le _) hp fun k _ _ hwk => hw ⟨k, hwk⟩).symm
    exact I.vu t (fun q x hx hwq => absurd ⟨q, hwq⟩ hw) v hv'

/-- One operation that acts, whatever else was done. -/
theorem step_gen {E : Env} {τ : Tr V} {σ : H} {D : List Df} {a : Act} {w : World} (hcf : CallOk P w0 cf) (hG : GOk G w0) (h0 : E.w0 = w0) {o : Oper} (hT : TR E τ a (YtahgfodccndcjaaGreatEng.looks ops o)) (h : HRel P E σ w) (hdf : DfL E D a.defers) {K : Act → World → Prop} {Q : Exit → Act → World → Prop}
    (hnx : ∀ τ' σ' D', stepOp cf n (cOper P G ops o) τ σ D = .nx τ' σ' D' → ∀ E1 w1 cv dd v, putD n τ (o.dst.map Pos.ofNat) v = some τ' → VR E1 v cv → HRel P E1 σ' w1 → Ext E σ w E1 σ' w1 → DfL E1 D' dd → K (({ a with defers := dd } : Act).put o.dst cv) w1)
    (hpn : ∀ v τ' σ' D', stepOp cf n (cOper P G ops o) τ σ D = .pn v τ' σ' D' → ∀ E1 w1 cv, VR E1 v cv → HRel P E1 σ' w1 → Ext E σ w E1 σ' w1 → DfL E1 D' a.defers → Q (.panic [{ v := cv, recovered := false }]) a w1)
    (hne : (∃ τ' σ' D', stepOp cf n (cOper P G ops o) τ σ D = .nx τ' σ' D') ∨ ∃ v τ' σ' D', stepOp cf n (cOper P G ops o) τ σ D = .pn v τ' σ' D') :
    if Region.wanted o (yielded ops a.tmps) then o.upon P a K Q ((execOp a.eval o).run P w) else K (a.put o.dst undef) w := by
  rcases cOper_cases P G ops o with hb | ⟨g, hg, hb⟩
  · rw [hb] at hne; simp [stepOp, guardV, POp.ev] at hne
  · rw [hb] at hne hnx hpn
    have hsound := cOp_sound' (o := o) (TR_op hG h0 hT) h
    unfold stepOp at hne hnx hpn
    simp only at hne hnx hpn
    cases hgv : guardV τ g with
    | none => rw [hgv] at hne; simp at hne
    | some b =>
      rw [guard_wanted hT hg hgv]
      rw [hgv] at hne hnx hpn
      cases b with
      | false =>
        simp only [Bool.false_eq_true, if_false]
        simp only at hne hnx
        cases hp : putD n τ (o.dst.map Pos.ofNat) undefV with
        | none => rw [hp] at hne; simp at hne
        | some τ' =>
          rw [hp] at hnx
          exact hnx τ' σ D rfl E w undef a.defers undefV hp (VR.undef E) h (.refl _ _ _) hdf
      | true =>
        simp only [if_true]
        simp only at hne hnx hpn
        cases hop : cOp P G o with
        | p q =>
          rw [hop] at hsound hne hnx
          simp only at hne hnx
          cases hv : q.ev τ with
          | none => rw [hv] at hne; simp at hne
          | some v =>
            rw [hv] at hne hnx
            simp only at hne hnx
            cases hp : putD n τ (o.dst.map Pos.ofNat) v with
            | none => rw [hp] at hne; simp at hne
            | some τ' =>
              rw [hp] at hnx
              exact upon_val (hsound v hv) fun cv hcv => hnx τ' σ D rfl E w cv a.defers v hp hcv h (.refl _ _ _) hdf
        | r q =>
          rw [hop] at hsound hne hnx
          simp only at hne hnx
          cases hv : q.ev τ σ with
          | none => rw [hv] at hne; simp at hne
          | some v =>
            rw [hv] at hne hnx
            simp only at hne hnx
            cases hp : putD n τ (o.dst.map Pos.ofNat) v with
            | none => rw [hp] at hne; simp at hne
            | some τ' =>
              rw [hp] at hnx
              exact upon_val (hsound v hv) fun cv hcv => hnx τ' σ D rfl E w cv a.defers v hp hcv h (.refl _ _ _) hdf
        | a q =>
          rw [hop] at hsound hne hnx
          simp only at hne hnx
          cases hv : q.ev τ with
          | none => rw [hv] at hne; simp at hne
          | some kb =>
            obtain ⟨k, b⟩ := kb
            rw [hv] at hne hnx
            simp only at hne hnx
            cases hp : putD n τ (o.dst.map Pos.ofNat) (k.val σ.nx) with
            | none => rw [hp] at hne; simp at hne
            | some τ' =>
              rw [hp] at hnx
              refine upon_A (hsound k b hv) fun cv ob p hp' hF hV => ?_
              obtain ⟨g1, g2⟩ := h.alloc hp' hF
              exact hnx τ' _ D rfl _ _ cv a.defers _ hp (hV _ _ (Env.put_self _ _ _ _)) g1 g2 (hdf.mono g2.le)
        | h q =>
          rw [hop] at hsound hne hnx hpn
          simp only [DoesC] at hsound
          simp only at hne hnx hpn
          cases hv : q.ev τ σ with
          | bad => rw [hv] at hne; simp at hne
          | ok v σ' =>
            rw [hv] at hsound hne hnx
            simp only at hne hnx
            cases hp : putD n τ (o.dst.map Pos.ofNat) v with
            | none => rw [hp] at hne; simp at hne
            | some τ' =>
              rw [hp] at hnx
              exact upon_ok hsound fun cv w' E' hcv h1 h2 => hnx τ' σ' D rfl E' w' cv a.defers v hp hcv h1 h2 (hdf.mono h2.le)
          | call f args =>
            rw [hv] at hsound hne hnx hpn
            obtain ⟨cargs, he, hargs⟩ := hsound
            have hc := hcf f args σ E w cargs h0 h hargs
            simp only at hne hnx hpn
            cases hr : cf f args σ with
            | bad => rw [hr] at hne; simp at hne
            | ret v σ' =>
              rw [hr] at hc hne hnx
              simp only at hc hne hnx
              cases hp : putD n τ (o.dst.map Pos.ofNat) v with
              | none => rw [hp] at hne; simp at hne
              | some τ' =>
                rw [hp] at hnx
                exact upon_callTo he hc (fun cv w' ⟨E', q1, q2, q3⟩ => hnx τ' σ' D rfl E' w' cv a.defers v hp q1 q2 q3 (hdf.mono q3.le)) (fun _ _ h => h.elim)
            | pan v σ' =>
              rw [hr] at hc hpn
              simp only at hc hpn
              exact upon_callTo he hc (fun _ _ h => h.elim) (fun cv w' ⟨E', q1, q2, q3⟩ => hpn v τ σ' D rfl E' w' cv q1 q2 q3 (hdf.mono q3.le))
          | dfr x =>
            rw [hv] at hsound hne hnx
            simp only at hne hnx
            cases hp : putD n τ (o.dst.map Pos.ofNat) undefV with
            | none => rw [hp] at hne; simp at hne
            | some τ' =>
              rw [hp] at hnx
              exact upon_dfr hsound fun d' hd' => hnx τ' σ (x :: D) rfl E w undef (d' :: a.defers) undefV hp (VR.undef E) h (.refl _ _ _) (.cons hd' hdf)
          | pan v =>
            rw [hv] at hsound hpn
            exact upon_pan hsound fun cv hcv => hpn v τ σ D rfl E w cv hcv h (.refl _ _ _) hdf
          | recover => rw [hv] at hne; simp at hne

theorem Crt_new (F : DF P G ops B ds) (X : Trace cf n ds r) {p : Nat} {b : Blk} (hp : p < X.L) (h : Crt ds X.T p b) : X.S (p + 1) = (X.S p).new b := by
  obtain ⟨d, q, k, hd, hq, hg, hv⟩ := h
  obtain ⟨o, ho, hco, hkk⟩ := F.mem p d hd
  have hk : d.kind ≠ 2 := by rw [hkk, hq]; simp [clsOf]
  obtain ⟨_, ⟨_, hno⟩ | ⟨q', k', b', hq', hg', hv', e⟩⟩ := step_still F X hp hd hk
  · exact absurd ⟨q, hq, hg⟩ hno
  · rw [hq] at hq'; simp at hq'; subst hq'
    rw [hv] at hv'; simp at hv'
    rw [e, hv'.2]

/-- What is read at the place is what was read in the chosen run. -/
theorem Inv.read (F : DF P G ops B ds) {X : Trace cf n ds r} (hR : RdAt ds X.L 0 X.T X.S) {E0 E : Env} {wi w : World} {l : Array Bool} {a : Act} {C : Nat} (I : Inv P ops B ds X w0 E0 wi l E a w C) {p : Nat} {d : DO} (hd : ds[p]? = some d) (hpC : p < C)
    (hund : l.getD d.at_ false ≠ true) {q : ROp} (hq : d.co.op = .r q) (hg : guardV (X.T p) d.co.gd = some true) {v : V} (hv : q.ev (X.T p) (X.S p) = some v) : q.ev (X.T p) (X.S C) = some v := by
  have hpL : p < X.L := Nat.lt_of_lt_of_le hpC I.hC
  obtain ⟨o, ho, hco, hkk⟩ := F.mem p d hd
  have hk1 : d.kind = 1 := by rw [hkk, hq]; rfl
  obtain ⟨hlo, hle, _⟩ := F.ord.lo p d hd
  have hCle : C ≤ ds.length := Nat.le_trans I.hC X.le
  -- not beyond what acts behind it
  have hhi : Hn ds C ≤ d.hi := by
    rcases Nat.lt_or_ge d.hi (Hn ds C) with hlt | hge
    · exfalso
      -- the operation of that number
      have : ∀ m, m ≤ C → d.hi < Hn ds m → ∃ q' x, p < q' ∧ q' < m ∧ ds[q']? = some x ∧ x.kind = 2 ∧ d.hi ≤ Hn ds q' := by
        intro m hm hlt
        obtain ⟨q', x, h1, h2, h3, h4, _⟩ := Hn_last ds (show 0 < Hn ds m by omega)
        refine ⟨q', x, ?_, h1, h2, h3, by omega⟩
        rcases Nat.lt_or_ge p q' with h | h
        · exact h
        · exfalso
          have hm1 : Hn ds q' ≤ Hn ds p := Hn_mono ds h
          rcases Nat.lt_or_ge q' p with h' | h'
          · have := Hn_lt ds h2 h3 h'; omega
          · have : q' = p := by omega
            subst this; rw [hd] at h2; simp at h2; subst h2; omega
      obtain ⟨q', x, h1, h2, h3, h4, h5⟩ := this C (Nat.le_refl _) hlt
      have hb := F.ord.hi p d hd q' x h1 h3 h4 (by omega)
      have hlx := (I.dn2 q' x h3 h4).2 h2
      exact hund (I.clo d.at_ x.at_ (Array.getElem?_eq_some_iff.1 ho).1 hlx hb)
    · exact hge
  by_cases hlh : d.lo = d.hi
  · -- nothing acts in between
    have hmono := Hn_mono ds (Nat.le_of_lt hpC)
    have hno : ∀ (k : Nat) (x : DO), p ≤ k → k < C → ds[k]? = some x → x.kind ≠ 2 := by
      intro k x hk1' hk2' hx hkx
      have h1 := Hn_mono ds hk1'
      have h2 := Hn_lt ds hx hkx hk2'
      omega
    refine ROp_grow hv ?_
    -- the heap only grows over such places
    have grow : ∀ m, p ≤ m → m ≤ C → ∀ x b, (X.S p).get x = some b → (X.S m).get x = some b := by
      intro m
      induction m with
      | zero => intro h1 _ x b hx; have e : p = 0 := by omega
                rw [e] at hx; exact hx
      | succ m ih =>
        intro h1 h2 x b hx
        rcases Nat.lt_or_ge p (m + 1) with hlt | hge
        · have hm := ih (by omega) (by omega) x b hx
          have hmlen : m < ds.length := by omega
          obtain ⟨y, hy⟩ : ∃ y, ds[m]? = some y := ⟨_, List.getElem?_eq_getElem hmlen⟩
          have hmL : m < X.L := by have := I.hC; omega
          obtain ⟨_, ⟨e, _⟩ | ⟨_, _, b', _, _, _, e⟩⟩ := step_still F X hmL hy (hno m y (by omega) (by omega) hy)
          · rw [e]; exact hm
          · rw [e, H.get_new, if_neg]
            · exact hm
            · rintro rfl
              rw [get_none_m ((I.hs m (by omega)).nx _ (Nat.le_refl _))] at hm; simp at hm
        · have e : p = m + 1 := by omega
          rw [← e]; exact hx
    exact grow C (Nat.le_of_lt hpC) (Nat.le_refl _)
  · rcases hR p d q hpL hd hk1 hlh hg hq with h1 | ⟨x, h1, h2⟩
    · rw [← hv]; exact (ROp_same (.inl h1)).symm
    · obtain ⟨m, s1, s2⟩ := h2 C (Nat.le_of_lt hpC) I.hC I.kC (by have := Hn_mono ds (Nat.le_of_lt hpC); omega) (by omega)
      rw [← hv]
      refine (ROp_same (.inr ⟨x, h1, ?_⟩)).symm
      unfold H.stamp at s1 s2
      cases hC : (X.S C).m.get x with
      | none => rw [hC] at s1; simp at s1
      | some nb =>
        obtain ⟨n1, b1⟩ := nb
        rw [hC] at s1; simp at s1; subst s1
        cases hp : (X.S p).m.get x with
        | none => rw [hp] at s2; simp at s2
        | some nb2 =>
          obtain ⟨n2, b2⟩ := nb2
          rw [hp] at s2; simp at s2; subst s2
          have hst := (I.hs p (Nat.le_of_lt hpC)).st x _ _ hp
          rcases (I.hv p C (Nat.le_of_lt hpC) (Nat.le_refl _)).evo x _ _ hC with h | h
          · rw [hp] at h; simp at h
            unfold H.get; rw [hp, hC, h]
          · omega

theorem goDrw_sound {E : Env} {τ : Tr V} {σ : H} {d : List Df} {a : Act} {w : World} (hcf : CallOk P w0 cf) (hG : GOk G w0) (h0 : E.w0 = w0)
    (hok : drwOk ops (Region.before ops).toList (drwOps (Region.before ops).toList (ops.toList.map (cOper P G ops))) = true)
    (hAR : AR E n τ d a) (h : HRel P E σ w) {Q : Exit → Act → World → Prop} (hs : Sat P n E σ w (goDrw cf n (drwOps (Region.before ops).toList (ops.toList.map (cOper P G ops))) τ σ d) Q) :
    wpAny P .any ops Q ops.size (Array.replicate ops.size false) a w := by
  have F := drwOk_spec hok
  generalize drwOps (Region.before ops).toList (ops.toList.map (cOper P G ops)) = ds at F hs
  generalize (Region.before ops).toList = B at F
  unfold goDrw at hs
  have hne : runDrw cf n ds τ σ d [] [] ≠ .bad := by intro e; rw [e] at hs; exact hs
  obtain ⟨X, x1, x2, x3, hR, _⟩ := runDrw_trace ds τ σ d [] [] (fun x hx => by
    obtain ⟨p, hp⟩ := List.mem_iff_getElem?.1 hx
    obtain ⟨_, _, _, hk⟩ := F.mem p x hp
    exact hk) rfl hne
  generalize hrr : runDrw cf n ds τ σ d [] [] = rr at X hs x1 x2 x3 hR
  have hR : RdAt ds X.L 0 X.T X.S := hR
  have idx : ∀ {q : Nat} {x : DO}, ds[q]? = some x → x.at_ < ops.size := fun {q x} hx => by
    obtain ⟨o', ho', _⟩ := F.mem q x hx
    exact (Array.getElem?_eq_some_iff.1 ho').1
  -- all is done
  have fin : ∀ l E1 a1 w1 C, Inv P ops B ds X w0 E w l E1 a1 w1 C → (∀ (p : Nat) (x : DO), ds[p]? = some x → l.getD x.at_ false = true) → Q .normal a1 w1 := by
    intro l E1 a1 w1 C I hall
    rcases X.fin with ⟨hL, hr⟩ | ⟨x, v, τ', σ', d', hx, _⟩
    · have hC : C = X.L := by
        rcases I.kC with e | ⟨x, hx, hk⟩
        · exact e
        · have := (I.dn2 C x hx hk).1 (hall C x hx); omega
      subst hC
      rw [hr] at hs
      have hext := I.ext
      rw [x2] at hext
      refine hs a1 w1 E1 ⟨I.sz, fun t v hv => ?_, I.df⟩ I.rel hext
      by_cases hw : ∃ q, Wr ops ds q t
      · obtain ⟨q, hw⟩ := hw
        have hw0 := hw
        obtain ⟨x, o', hx, _, _⟩ := hw
        have hq : q < X.L := I.dnL q x hx (hall q x hx)
        refine I.vd q x t hx hw0 (hall q x hx) v ?_
        rw [← hv]
        exact (T_keep F X (by omega) (Nat.le_refl _) fun k hk _ hwk => by have := Wr.uniq F hwk hw0; omega).symm
      · refine I.vu t (fun q x hx hwq => absurd ⟨q, hwq⟩ hw) v ?_
        rw [← hv]
        exact (T_keep F X (Nat.zero_le _) (Nat.le_refl _) fun k _ _ hwk => hw ⟨k, hwk⟩).symm
    · have := I.dnL X.L x hx (hall X.L x hx); omega
  -- where nothing is ready, all is done
  have rdy : ∀ l E1 a1 w1 C, Inv P ops B ds X w0 E w l E1 a1 w1 C → Region.ready .any ops l = [] → ∀ (p : Nat) (x : DO), ds[p]? = some x → l.getD x.at_ false = true := by
    intro l E1 a1 w1 C I hr p
    induction p using Nat.strongRecOn with
    | ind p ih =>
      intro x hx
      cases hl : l.getD x.at_ false with
      | true => rfl
      | false =>
        exfalso
        obtain ⟨o, ho, _⟩ := F.mem p x hx
        have hj : x.at_ < l.size := by rw [I.lsz]; exact idx hx
        have : x.at_ ∈ Region.ready .any ops l := by
          rw [mem_ready]
          refine ⟨by simp [hj] at hl ⊢; exact hl, o, ho, fun e he hb => ?_⟩
          obtain ⟨e1, e2⟩ := F.edge x.at_ o ho e he hb
          obtain ⟨q, y, hy, hyat⟩ := F.all e.on e1
          rw [← hyat]
          refine ih q ?_ y hy
          rcases Nat.lt_trichotomy q p with h1 | h1 | h1
          · exact h1
          · subst h1; rw [hx] at hy; simp at hy; subst hy
            have := (F.ord.lo q x hx).2.2
            rw [← hyat] at e2
            rw [e2] at this; simp at this
          · have := (F.ord.ord p q x y h1 hx hy).1
            rw [hyat, e2] at this; simp at this
        rw [hr] at this; simp at this
  -- one step, whichever is ready
  have main : ∀ fuel l E1 a1 w1 C (rem : List Nat), Inv P ops B ds X w0 E w l E1 a1 w1 C → (∀ (p : Nat) (x : DO), ds[p]? = some x → l.getD x.at_ false ≠ true → p ∈ rem) → rem.length ≤ fuel → wpAny P .any ops Q fuel l a1 w1 := by
    intro fuel
    induction fuel with
    | zero =>
      intro l E1 a1 w1 C rem I hrem hlen
      have hrem0 : rem = [] := List.eq_nil_of_length_eq_zero (by omega)
      subst hrem0
      have hall : ∀ (p : Nat) (x : DO), ds[p]? = some x → l.getD x.at_ false = true := fun p x hx => by
        cases hl : l.getD x.at_ false with
        | true => rfl
        | false => have := hrem p x hx (by rw [hl]; simp); simp at this
      refine ⟨?_, fin l E1 a1 w1 C I hall⟩
      cases hr : Region.ready .any ops l with
      | nil => rfl
      | cons j js =>
        exfalso
        have hj : j ∈ Region.ready .any ops l := by rw [hr]; simp
        rw [mem_ready] at hj
        obtain ⟨hu, o, ho, _⟩ := hj
        have hjs := (Array.getElem?_eq_some_iff.1 ho).1
        obtain ⟨p, x, hx, hxat⟩ := F.all j hjs
        have := hall p x hx
        rw [hxat] at this
        have hsz : j < l.size := by rw [I.lsz]; exact hjs
        simp [hsz] at this hu
        rw [this] at hu; simp at hu
    | succ fuel ih =>
      intro l E1 a1 w1 C rem I hrem hlen
      refine ⟨fun hr => fin l E1 a1 w1 C I (rdy l E1 a1 w1 C I hr), fun j hj => ?_⟩
      rw [mem_ready] at hj
      obtain ⟨hu, o, ho, hpre⟩ := hj
      have hjs := (Array.getElem?_eq_some_iff.1 ho).1
      have hsz : j < l.size := by rw [I.lsz]; exact hjs
      obtain ⟨p, dd, hd, hat⟩ := F.all j hjs
      subst hat
      have hund : l.getD dd.at_ false ≠ true := by simp [hsz] at hu ⊢; exact hu
      have hpred : ∀ i, i < ops.size → bef B i dd.at_ = true → l.getD i false = true := by
        intro i hi hb
        obtain ⟨e, he, hbind, hor⟩ := F.conv i dd.at_ o hi ho hb
        have hon := hpre e he hbind
        rcases hor with rfl | hor
        · exact hon
        · exact I.clo i e.on hi hon hor
      have hplen : p < ds.length := (List.getElem?_eq_some_iff.1 hd).1
      -- not beyond what acts next
      have hpC : p ≤ C := by
        rcases Nat.lt_or_ge C p with hlt | hge
        · exfalso
          have hk : ∃ x, ds[C]? = some x ∧ x.kind = 2 := by
            rcases I.kC with e | hk
            · rcases X.fin with ⟨hL, _⟩ | ⟨x, _, _, _, _, hx, hk, _⟩
              · omega
              · exact ⟨x, by rw [e]; exact hx, hk⟩
            · exact hk
          obtain ⟨x, hx, hk⟩ := hk
          have hn := Hn_lt ds hx hk hlt
          obtain ⟨q, y, h1, h2, h3, _, h5⟩ := Hn_last ds (show 0 < Hn ds p by omega)
          have hCq : C ≤ q := by
            rcases Nat.lt_or_ge q C with h' | h'
            · exact absurd hk (h5 C x h' hlt hx)
            · exact h'
          have hb := F.ord.pre' p dd hd q y h1 h2 h3 h5
          have := (I.dn2 q y h2 h3).1 (hpred y.at_ (idx h2) hb)
          omega
        · exact hge
      have hpL : p ≤ X.L := Nat.le_trans hpC I.hC
      have hTR := I.looks F hd ho hpL hpred hund
      -- what is left over
      have next : ∀ E2 a2 w2 C2, Inv P ops B ds X w0 E w (l.setIfInBounds dd.at_ true) E2 a2 w2 C2 → wpAny P .any ops Q fuel (l.setIfInBounds dd.at_ true) a2 w2 := by
        intro E2 a2 w2 C2 I2
        have hmem : p ∈ rem := hrem p dd hd hund
        refine ih _ E2 a2 w2 C2 (rem.erase p) I2 (fun q x hx hnx => ?_) (by rw [List.length_erase_of_mem hmem]; omega)
        have hnx' : ¬ (x.at_ = dd.at_ ∨ l.getD x.at_ false = true) := fun h => hnx ((getD_put hsz x.at_).2 h)
        have hqp : q ≠ p := fun e => by subst e; rw [hd] at hx; simp at hx; subst hx; exact hnx' (.inl rfl)
        exact (List.mem_erase_of_ne hqp).2 (hrem q x hx (fun h => hnx' (.inr h)))
      have hwp : ∀ (K : Act → World → Prop), (if Region.wanted o (yielded ops a1.tmps) then o.upon P a1 K Q ((execOp a1.eval o).run P w1) else K (a1.put o.dst undef) w1) → wpOp P ops Q dd.at_ K a1 w1 := by
        intro K hk
        unfold wpOp
        simp only [ho]
        split
        · rename_i hw; rw [if_pos hw] at hk; exact .inl hk
        · rename_i hw; rw [if_neg hw] at hk; exact hk
      refine hwp _ ?_
      rcases Nat.lt_or_ge p C with hlt | hge
      · -- it does not act
        have hpL' : p < X.L := Nat.lt_of_lt_of_le hlt I.hC
        have hk2 : dd.kind ≠ 2 := fun hk => hund ((I.dn2 p dd hd hk).2 hlt)
        obtain ⟨hop, ⟨g, hg, hgd⟩, hdst, _⟩ := step_put F X hpL' hd ho
        have hst := X.step p dd hpL' hd
        have hsound : DoesC P E1 (X.S C) w1 (X.T p) a1.eval o dd.co.op := by rw [hop]; exact cOp_sound' (TR_op hG I.h0 hTR) I.rel
        -- the same place acts next
        have keep : ∀ E2 w2 cv, E1.le E2 → HRel P E2 (X.S C) w2 → Ext E (X.S 0) w E2 (X.S C) w2 → (∀ t v, o.dst = some t → (X.T (p + 1)).get (Pos.ofNat t) = some v → VR E2 v cv) →
            (∀ (q : Nat) (x : DO) (b : Blk), q < C → ds[q]? = some x → q ≠ p → l.getD x.at_ false ≠ true → Crt ds X.T q b → ∀ v, E2.pl (X.S q).nx v = none) → wpAny P .any ops Q fuel (l.setIfInBounds dd.at_ true) (a1.put o.dst cv) w2 := by
          intro E2 w2 cv hle hrel hext hcv hpd
          exact next E2 _ w2 C (I.upd F hd ho hpL' hpre hund I.hC I.kC (.inl ⟨rfl, hk2⟩) hle hrel hext (I.df.mono hle) hcv
            (fun q x b hq hx hqp hnx hc => ⟨(I.pd q x b hq hx hnx hc).1, hpd q x b hq hx hqp hnx hc⟩) I.hs I.hv)
        have keep0 : ∀ cv, (∀ t v, o.dst = some t → (X.T (p + 1)).get (Pos.ofNat t) = some v → VR E1 v cv) → wpAny P .any ops Q fuel (l.setIfInBounds dd.at_ true) (a1.put o.dst cv) w1 := fun cv hcv =>
          keep E1 w1 cv (.refl _) I.rel I.ext hcv fun q x b hq hx _ hnx hc => (I.pd q x b hq hx hnx hc).2
        have hdv : ∀ {u : V} {cv : Value}, putD n (X.T p) (o.dst.map Pos.ofNat) u = some (X.T (p + 1)) → VR E1 u cv → ∀ t v, o.dst = some t → (X.T (p + 1)).get (Pos.ofNat t) = some v → VR E1 v cv := by
          intro u cv hu hv t v ht hvt
          rw [putD_get hu, if_pos ht] at hvt
          simp at hvt; subst hvt; exact hv
        unfold stepOp at hst
        rw [hdst] at hst
        split at hst
        · simp at hst
        · rename_i hgv
          rw [hgd] at hgv
          rw [guard_wanted hTR hg hgv]
          simp only [Bool.false_eq_true, if_false]
          split at hst
          · rename_i τ' hτ
            simp at hst
            rw [hst.1] at hτ
            exact keep0 undef (hdv hτ (VR.undef _))
          · simp at hst
        · rename_i hgv
          have hgv0 := hgv
          rw [hgd] at hgv
          rw [guard_wanted hTR hg hgv]
          simp only [if_true]
          split at hst
          · rename_i q hq
            rw [hq] at hsound
            split at hst
            · rename_i v hv
              split at hst
              · rename_i τ' hτ
                simp at hst
                rw [hst.1] at hτ
                exact upon_val (hsound v hv) fun cv hcv => keep0 cv (hdv hτ hcv)
              · simp at hst
            · simp at hst
          · rename_i q hq
            rw [hq] at hsound
            split at hst
            · rename_i v hv
              split at hst
              · rename_i τ' hτ
                simp at hst
                rw [hst.1] at hτ
                exact upon_val (hsound v (I.read F hR hd hlt hund hq hgv0 hv)) fun cv hcv => keep0 cv (hdv hτ hcv)
              · simp at hst
            · simp at hst
          · rename_i q hq
            rw [hq] at hsound
            split at hst
            · rename_i k b hv
              split at hst
              · rename_i τ' hτ
                simp at hst
                rw [hst.1] at hτ
                refine upon_A (hsound k b hv) fun cv ob pl hpl hF hV => ?_
                have hcrt : Crt ds X.T p b := ⟨dd, q, k, hd, hq, hgv0, hv⟩
                obtain ⟨hx, hnone⟩ := I.pd p dd b hlt hd hund hcrt
                have hle := Env.le_put (E := E1) (x := (X.S p).nx) (v := 0) pl (hnone 0)
                refine keep _ _ cv hle (I.rel.place hx hnone hpl hF) ?_ ?_ ?_
                · refine { le := I.ext.le.trans hle, nx := I.ext.nx, ck := I.ext.ck, evo := I.ext.evo, pend := fun y hy hyp => ?_, wsz := by have := I.ext.wsz; simp [World.push]; omega }
                  obtain ⟨e1, e2⟩ := I.ext.pend y hy hyp
                  refine ⟨fun v => ?_, e2⟩
                  rw [Env.put_ne]
                  · exact e1 v
                  · rintro ⟨rfl, _⟩
                    have := (I.hv 0 p (Nat.zero_le _) (Nat.le_of_lt hlt)).nx; omega
                · intro t v ht hvt
                  rw [putD_get hτ, if_pos ht] at hvt
                  simp at hvt; subst hvt
                  exact hV _ _ (Env.put_self _ _ _ _)
                · intro q' x b' hq' hx' hqp hnx hc v
                  rw [Env.put_ne]
                  · exact (I.pd q' x b' hq' hx' hnx hc).2 v
                  · rintro ⟨e, _⟩
                    have hnew : ∀ {m1 m2 : Nat} {bb : Blk}, m1 < m2 → m2 ≤ C → Crt ds X.T m1 bb → (X.S m1).nx.toNat < (X.S m2).nx.toNat := by
                      intro m1 m2 bb hm hmC hcc
                      have h1 := Crt_new F X (by have := I.hC; omega) hcc
                      have h2 := (I.hv (m1 + 1) m2 hm hmC).nx
                      rw [h1] at h2
                      simp only [H.new, Pos.toNat_succ] at h2
                      omega
                    rcases Nat.lt_trichotomy q' p with h1 | h1 | h1
                    · have := hnew h1 (Nat.le_of_lt hlt) hc; rw [e] at this; omega
                    · exact hqp h1
                    · have := hnew h1 (Nat.le_of_lt hq') hcrt; rw [e] at this; omega
              · simp at hst
            · simp at hst
          · rename_i q hq
            obtain ⟨_, _, _, hkk⟩ := F.mem p dd hd
            rw [hq] at hkk; exact absurd hkk hk2
      · -- it acts
        have hpC' : p = C := by omega
        subst hpC'
        obtain ⟨o', ho', hco, _⟩ := F.mem p dd hd
        rw [ho] at ho'; simp at ho'; subst ho'
        have hk2 : dd.kind = 2 := by
          rcases I.kC with e | ⟨x, hx, hk⟩
          · rcases X.fin with ⟨hL, _⟩ | ⟨x, _, _, _, _, hx, hk, _⟩
            · omega
            · rw [← e, hd] at hx; simp at hx; subst hx; exact hk
          · rw [hd] at hx; simp at hx; subst hx; exact hk
        rcases Nat.lt_or_ge p X.L with hpL' | hpL'
        · have hst := X.step p dd hpL' hd
          rw [hco] at hst
          refine step_gen hcf hG I.h0 hTR I.rel I.df ?_ ?_ (.inl ⟨_, _, _, hst⟩)
          · intro τ' σ' D' hst' E2 w2 cv ds2 v hput hcv hrel hext hdf
            rw [hst] at hst'
            simp only [R.nx.injEq] at hst'
            obtain ⟨rfl, rfl, rfl⟩ := hst'
            obtain ⟨C', c1, c2, c3, c4⟩ := nextH ds X.L (X.L - (p + 1)) (p + 1) (by omega)
            obtain ⟨v1, v2, v3, v4, v5, v6⟩ := advance F X hrel c1 c2 c4
            refine next E2 _ w2 C' (I.upd F hd ho hpL' hpre hund c2 c3 (.inr ⟨rfl, hk2, by omega, fun k x a b hx => c4 k x (by omega) b hx⟩) hext.le v1 (I.ext.trans (hext.trans v2)) (by rw [v3]; exact hdf) ?_ ?_ ?_ ?_)
            · intro t u ht hu
              rw [putD_get hput, if_pos ht] at hu
              simp at hu; subst hu; exact hcv
            · intro q x b hq hx hqp hnx hc
              rcases Nat.lt_or_ge q p with h1 | h1
              · obtain ⟨e1, e2⟩ := I.pd q x b h1 hx hnx hc
                have hlt := I.rel.get_lt e1
                obtain ⟨e3, e4⟩ := hext.pend _ hlt e2
                have : (X.S (p + 1)).get (X.S q).nx = some b := by rw [H.get_of_m e4]; exact e1
                exact ⟨(v5 (p + 1) C' (Nat.le_refl _) c1 (Nat.le_refl _)).2 _ _ this, e3⟩
              · exact v6 q b (by omega) hq hc
            · intro q hq
              rcases Nat.lt_or_ge p q with h1 | h1
              · exact (v4 q (by omega) hq).1
              · exact I.hs q h1
            · intro q q' hqq hq'
              rcases Nat.lt_or_ge p q with h1 | h1
              · exact (v5 q q' (by omega) hqq hq').1
              · rcases Nat.lt_or_ge p q' with h2 | h2
                · exact ((I.hv q p h1 (Nat.le_refl _)).trans hext.toEvo).trans (v4 q' (by omega) hq').2
                · exact I.hv q q' hqq h2
          · intro v τ' σ' D' hst'
            rw [hst] at hst'; simp at hst'
        · -- it panics
          have hpe : p = X.L := by omega
          rcases X.fin with ⟨hL, _⟩ | ⟨x, v, τ', σ', d', hx, _, _, hst, hr⟩
          · omega
          · rw [← hpe, hd] at hx; simp at hx; subst hx
            rw [← hpe, hco] at hst
            refine step_gen hcf hG I.h0 hTR I.rel I.df ?_ ?_ (.inr ⟨_, _, _, _, hst⟩)
            · intro τ2 σ2 D2 hst'
              rw [hst] at hst'; simp at hst'
            · intro v2 τ2 σ2 D2 hst' E2 w2 cv hcv hrel hext hdf
              rw [hst] at hst'
              simp only [R.pn.injEq] at hst'
              obtain ⟨rfl, rfl, rfl, rfl⟩ := hst'
              rw [hr] at hs
              have hx := I.ext.trans hext
              rw [x2] at hx
              exact hs a1 w2 E2 cv ⟨I.sz, fun t u hu => by rw [Tr.get_lf] at hu; simp at hu, hdf⟩ hrel hx hcv
  -- the beginning
  obtain ⟨C, c1, c2, c3, c4⟩ := nextH ds X.L X.L 0 (by omega)
  have hrel0 : HRel P E (X.S 0) w := by rw [x2]; exact h
  obtain ⟨v1, v2, v3, v4, v5, v6⟩ := advance F X hrel0 c1 c2 c4
  have hnot : ∀ i, (Array.replicate ops.size false).getD i false ≠ true := fun i => by
    rw [Array.getD_eq_getD_getElem?, Array.getElem?_replicate]
    split <;> simp
  refine main ops.size _ E a w C (List.range ds.length) ?_ (fun p x hx _ => List.mem_range.2 (List.getElem?_eq_some_iff.1 hx).1) (by simp [F.len])
  refine { lsz := by simp, clo := fun i j _ h => absurd h (hnot j), hC := c2, kC := c3, dnL := fun p x _ h => absurd h (hnot _), dn2 := fun p x hx hk => ⟨fun h => absurd h (hnot _), fun hp => absurd hk (c4 p x (Nat.zero_le _) hp hx)⟩,
           h0 := h0, rel := v1, ext := v2, sz := hAR.sz, df := by rw [v3, x3]; exact hAR.df, vd := fun p x t _ _ h => absurd h (hnot _), vu := fun t _ v hv => ?_, pd := fun p x b hp _ _ hc => v6 p b (Nat.zero_le _) hp hc, hs := fun p hp => (v4 p (Nat.zero_le _) hp).1, hv := fun p q hpq hq => (v5 p q (Nat.zero_le _) hpq hq).1 }
  rw [x1] at hv
  exact hAR.val t v hv

end
end Go.Proofs.YtahgfodccndcjaaGreatEng
