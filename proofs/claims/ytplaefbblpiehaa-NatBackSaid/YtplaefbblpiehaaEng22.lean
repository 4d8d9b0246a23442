/- The engine, part 22: regions whose order is the text's. -/
import Derived.Test.YtplaefbblpiehaaEng21
namespace Go.Proofs.YtplaefbblpiehaaEng
open Go

/-- All that a step leaves is as Q wants it. -/
def Sat (P : Program) (n : Nat) (E : Env) (σ : H) (w : World) (r : R) (Q : Exit → Act → World → Prop) : Prop :=
  match r with
  | .bad => False
  | .nx τ' σ' d' => ∀ a' w' E', AR E' n τ' d' a' → HRel P E' σ' w' → Ext E σ w E' σ' w' → Q .normal a' w'
  | .ex id τ' σ' d' => ∀ a' w' E', AR E' n τ' d' a' → HRel P E' σ' w' → Ext E σ w E' σ' w' → Q (.exit id) a' w'
  | .rt τ' σ' d' => ∀ a' w' E', AR E' n τ' d' a' → HRel P E' σ' w' → Ext E σ w E' σ' w' → Q .ret a' w'
  | .pn v τ' σ' d' => ∀ a' w' E' cv, AR E' n τ' d' a' → HRel P E' σ' w' → Ext E σ w E' σ' w' → VR E' v cv → Q (.panic [{ v := cv, recovered := false }]) a' w'

theorem Sat.mono {P : Program} {n : Nat} {E E1 : Env} {σ σ1 : H} {w w1 : World} {r : R} {Q : Exit → Act → World → Prop} (h : Sat P n E σ w r Q) (hE : Ext E σ w E1 σ1 w1) : Sat P n E1 σ1 w1 r Q := by
  cases r with
  | bad => exact h
  | nx => exact fun a' w' E' h1 h2 h3 => h a' w' E' h1 h2 (hE.trans h3)
  | ex => exact fun a' w' E' h1 h2 h3 => h a' w' E' h1 h2 (hE.trans h3)
  | rt => exact fun a' w' E' h1 h2 h3 => h a' w' E' h1 h2 (hE.trans h3)
  | pn => exact fun a' w' E' cv h1 h2 h3 => h a' w' E' cv h1 h2 (hE.trans h3)

section
variable {P : Program} {G : Nat → Option V} {E : Env} {n : Nat} {τ : Tr V} {σ : H} {d : List Df} {w : World} {ops : Array Oper} {a : Act} {w0 : World} {cf : CallF}

theorem le_w0 {E E' : Env} (h : E.le E') (h0 : E.w0 = w0) : E'.w0 = w0 := h.1.trans h0

/-- One operation. -/
theorem step_upon (hcf : CallOk P w0 cf) (hG : GOk G w0) (h0 : E.w0 = w0) {o : Oper} (hAR : AR E n τ d a) (h : HRel P E σ w) {Q : Exit → Act → World → Prop} {K : Act → World → Prop}
    (hs : Sat P n E σ w (stepOp cf n (cOper P G ops o) τ σ d) (Exit.then K Q)) :
    if Region.wanted o (yielded ops a.tmps) then o.upon P a K Q ((execOp a.eval o).run P w) else K (a.put o.dst undef) w := by
  have hT : TR E τ a (looks ops o) := fun t _ => hAR.val t
  rcases cOper_cases P G ops o with hb | ⟨g, hg, hb⟩
  · rw [hb] at hs; simp [stepOp, guardV, POp.ev, Sat] at hs
  · rw [hb] at hs
    have hsound := cOp_sound' (o := o) (TR_op hG h0 hT) h
    unfold stepOp at hs
    simp only at hs
    split at hs
    · exact hs.elim
    · rename_i hgv
      rw [guard_wanted hT hg hgv]
      simp only [Bool.false_eq_true, if_false]
      split at hs
      · rename_i τ' hτ
        exact hs _ _ _ (hAR.put hτ (VR.undef E)) h (.refl _ _ _)
      · exact hs.elim
    · rename_i hgv
      rw [guard_wanted hT hg hgv]
      simp only [if_true]
      split at hs
      · rename_i q hq
        rw [hq] at hsound
        split at hs
        · rename_i v hv
          split at hs
          · rename_i τ' hτ
            exact upon_val (hsound v hv) fun cv hcv => hs _ _ _ (hAR.put hτ hcv) h (.refl _ _ _)
          · exact hs.elim
        · exact hs.elim
      · rename_i q hq
        rw [hq] at hsound
        split at hs
        · rename_i v hv
          split at hs
          · rename_i τ' hτ
            exact upon_val (hsound v hv) fun cv hcv => hs _ _ _ (hAR.put hτ hcv) h (.refl _ _ _)
          · exact hs.elim
        · exact hs.elim
      · rename_i q hq
        rw [hq] at hsound
        split at hs
        · rename_i k b hv
          split at hs
          · rename_i τ' hτ
            refine upon_A (hsound k b hv) fun cv ob p hp hF hV => ?_
            obtain ⟨g1, g2⟩ := h.alloc hp hF
            exact hs _ _ _ ((hAR.mono g2.le).put hτ (hV _ _ (Env.put_self _ _ _ _))) g1 g2
          · exact hs.elim
        · exact hs.elim
      · rename_i q hq
        rw [hq] at hsound
        simp only [DoesC] at hsound
        split at hs
        · exact hs.elim
        · rename_i v σ' hv
          rw [hv] at hsound
          split at hs
          · rename_i τ' hτ
            exact upon_ok hsound fun cv w' E' hcv h1 h2 => hs _ _ _ ((hAR.mono h2.le).put hτ hcv) h1 h2
          · exact hs.elim
        · rename_i f args hv
          rw [hv] at hsound
          obtain ⟨cargs, he, hargs⟩ := hsound
          have hc := hcf f args σ E w cargs h0 h hargs
          split at hs
          · rename_i v σ' hr
            rw [hr] at hc
            split at hs
            · rename_i τ' hτ
              exact upon_callTo he hc (fun cv w' ⟨E', q1, q2, q3⟩ => hs _ _ _ ((hAR.mono q3.le).put hτ q1) q2 q3) (fun _ _ h => h.elim)
            · exact hs.elim
          · rename_i v σ' hr
            rw [hr] at hc
            exact upon_callTo he hc (fun _ _ h => h.elim) (fun cv w' ⟨E', q1, q2, q3⟩ => hs _ _ _ _ (hAR.mono q3.le) q2 q3 q1)
          · exact hs.elim
        · rename_i x hv
          rw [hv] at hsound
          split at hs
          · rename_i τ' hτ
            refine upon_dfr hsound fun d' hd' => ?_
            have hAR' : AR E n τ (x :: d) { a with defers := d' :: a.defers } := ⟨hAR.sz, hAR.val, .cons hd' hAR.df⟩
            exact hs _ _ _ (hAR'.put hτ (VR.undef E)) h (.refl _ _ _)
          · exact hs.elim
        · rename_i v hv
          rw [hv] at hsound
          exact upon_pan hsound fun cv hcv => hs _ _ _ _ hAR h (.refl _ _ _) hcv
        · exact hs.elim

theorem wpOp_sound (hcf : CallOk P w0 cf) (hG : GOk G w0) (h0 : E.w0 = w0) {i : Nat} {o : Oper} (ho : ops[i]? = some o) (hAR : AR E n τ d a) (h : HRel P E σ w) {Q : Exit → Act → World → Prop} {K : Act → World → Prop}
    (hs : Sat P n E σ w (stepOp cf n (cOper P G ops o) τ σ d) (Exit.then K Q)) : wpOp P ops Q i K a w := by
  have := step_upon hcf hG h0 hAR h hs
  unfold wpOp
  simp only [ho]
  split
  · rename_i hw; rw [if_pos hw] at this; exact .inl this
  · rename_i hw; rw [if_neg hw] at this; exact this

theorem runOps_sound (hcf : CallOk P w0 cf) (hG : GOk G w0) {Q : Exit → Act → World → Prop} : ∀ (os : List Oper) (is : List Nat), is.map (fun i => ops[i]?) = os.map some → ∀ {E : Env} {τ : Tr V} {σ : H} {d : List Df} {a : Act} {w : World},
    E.w0 = w0 → AR E n τ d a → HRel P E σ w → Sat P n E σ w (runOps cf n (os.map (cOper P G ops)) τ σ d) Q → wpOps P ops Q is a w
  | [], is, hi, E, τ, σ, d, a, w, h0, hAR, h, hs => by
    simp at hi; subst hi
    exact hs _ _ _ hAR h (.refl _ _ _)
  | o :: os, [], hi, E, τ, σ, d, a, w, h0, hAR, h, hs => by simp at hi
  | o :: os, i :: is, hi, E, τ, σ, d, a, w, h0, hAR, h, hs => by
    simp only [List.map_cons, List.cons.injEq] at hi
    rw [wpOps_cons]
    refine wpOp_sound hcf hG h0 hi.1 hAR h (d := d) (σ := σ) (τ := τ) (n := n) (cf := cf) (G := G) ?_
    simp only [List.map_cons, runOps] at hs
    cases hr : stepOp cf n (cOper P G ops o) τ σ d with
    | bad => rw [hr] at hs; exact hs
    | nx τ' σ' d' =>
      rw [hr] at hs
      intro a' w' E' q1 q2 q3
      exact runOps_sound hcf hG os is hi.2 (le_w0 q3.le h0) q1 q2 (hs.mono q3)
    | ex => rw [hr] at hs; exact hs
    | rt => rw [hr] at hs; exact hs
    | pn v τ' σ' d' => rw [hr] at hs; exact hs

end
end Go.Proofs.YtplaefbblpiehaaEng
