/- The engine, part 27: code. -/
import Derived.Test.YtahgfodccndcjaaGreatEng26
import Derived.Scope
namespace Go.Proofs.YtahgfodccndcjaaGreatEng
open Go
section
variable {P : Program} {G : Nat → Option V} {E : Env} {n : Nat} {τ : Tr V} {σ : H} {d : List Df} {w : World} {a : Act} {w0 : World} {cf : CallF}

theorem HRel.toDrawn (h : HRel P E σ w) (k : Nat) : HRel P E σ { w with drawn := k } ∧ Ext E σ w E σ { w with drawn := k } :=
  ⟨h.drawn k, { le := .refl E, nx := Nat.le_refl _, ck := Nat.le_refl _, evo := fun _ _ _ h => .inl h, pend := fun _ _ h => ⟨h, rfl⟩, wsz := Nat.le_refl _ }⟩

theorem cond_eval (hG : GOk G w0) (h0 : E.w0 = w0) (hAR : AR E n τ d a) {c : Operand} {x : Arg} (hx : cArg G c = some x) {b : Bool} (hb : x.ev τ = some (.bool b)) : a.eval c = .bool b := by
  have hO : OR G E τ a.eval [c] := TR_OR hG h0 fun t _ => hAR.val t
  exact (hO c (by simp) x hx _ hb).bool_inv

theorem exec_sound (hm : P.follows .mixedOrders = true) (hcf : CallOk P w0 cf) (hG : GOk G w0) (lf : Nat) : ∀ (c : Code) {Q : Exit → Act → World → Prop} {E : Env} {τ : Tr V} {σ : H} {d : List Df} {a : Act} {w : World},
    E.w0 = w0 → AR E n τ d a → HRel P E σ w → Sat P n E σ w (exec cf lf n (cCode P G c) τ σ d) Q → c.wp P Q a w := by
  intro c
  induction c with
  | skip =>
    intro Q E τ σ d a w h0 hAR h hs
    exact wp_skip (hs _ _ _ hAR h (.refl _ _ _))
  | region id ops draw =>
    intro Q E τ σ d a w h0 hAR h hs
    cases draw with
    | false =>
      simp only [cCode, Bool.false_eq_true, if_false, exec] at hs
      refine wp_region (runOps_sound hcf hG ops.toList _ ?_ h0 hAR h hs)
      apply List.ext_getElem?
      intro i
      simp only [List.getElem?_map, Array.getElem?_toList]
      rcases Nat.lt_or_ge i ops.size with hi | hi
      · simp [hi]
      · simp [hi]
    | true =>
      simp only [cCode, if_true] at hs
      split at hs
      · rename_i hok
        obtain ⟨g1, g2⟩ := h.toDrawn (w.drawn + 1)
        exact wp_region_any hm (goDrw_sound hcf hG h0 hok hAR g1 (hs.mono g2))
      · exact hs.elim
  | seq x y ihx ihy =>
    intro Q E τ σ d a w h0 hAR h hs
    refine wp_seq (ihx h0 hAR h ?_)
    simp only [cCode, exec] at hs
    cases hr : exec cf lf n (cCode P G x) τ σ d with
    | nx τ' σ' d' =>
      rw [hr] at hs
      exact fun a' w' E' q1 q2 q3 => ihy (le_w0 q3.le h0) q1 q2 (hs.mono q3)
    | _ => rw [hr] at hs; exact hs
  | cond c x y ihx ihy =>
    intro Q E τ σ d a w h0 hAR h hs
    simp only [cCode] at hs
    split at hs
    · rename_i x' hx
      simp only [exec] at hs
      split at hs
      · rename_i hb
        exact wp_cond (cond_eval hG h0 hAR hx hb) (ihx h0 hAR h hs)
      · rename_i hb
        exact wp_cond (cond_eval hG h0 hAR hx hb) (ihy h0 hAR h hs)
      · exact hs.elim
    · exact hs.elim
  | block id c ih =>
    intro Q E τ σ d a w h0 hAR h hs
    refine wp_block (ih h0 hAR h ?_)
    simp only [cCode, exec] at hs
    cases hr : exec cf lf n (cCode P G c) τ σ d with
    | ex i τ' σ' d' =>
      rw [hr] at hs
      intro a' w' E' q1 q2 q3
      simp only [Exit.inBlock]
      by_cases e : i = id
      · simp only [if_pos e] at hs; rw [if_pos e]; exact hs a' w' E' q1 q2 q3
      · simp only [if_neg e] at hs; rw [if_neg e]; exact hs a' w' E' q1 q2 q3
    | _ => rw [hr] at hs; exact hs
  | loop c ih =>
    intro Q E τ σ d a w h0 hAR h hs
    simp only [cCode, exec] at hs
    have key : ∀ m {E : Env} {τ : Tr V} {σ : H} {d : List Df} {a : Act} {w : World}, E.w0 = w0 → AR E n τ d a → HRel P E σ w → Sat P n E σ w (loopN (exec cf lf n (cCode P G c)) m τ σ d) Q → Code.rounds P c Q m a w := by
      intro m
      induction m with
      | zero => intro E τ σ d a w _ _ _ hs; exact hs.elim
      | succ m ihm =>
        intro E τ σ d a w h0 hAR h hs
        rw [rounds_succ]
        refine ih h0 hAR h ?_
        simp only [loopN] at hs
        cases hr : exec cf lf n (cCode P G c) τ σ d with
        | nx τ' σ' d' =>
          rw [hr] at hs
          exact fun a' w' E' q1 q2 q3 => ihm (le_w0 q3.le h0) q1 q2 (hs.mono q3)
        | _ => rw [hr] at hs; exact hs
    exact wp_loop_rounds lf (key lf h0 hAR h hs)
  | exit id =>
    intro Q E τ σ d a w h0 hAR h hs
    exact wp_exit (hs _ _ _ hAR h (.refl _ _ _))
  | ret =>
    intro Q E τ σ d a w h0 hAR h hs
    exact wp_ret (hs _ _ _ hAR h (.refl _ _ _))
  | label l =>
    intro Q E τ σ d a w h0 hAR h hs
    exact wp_label (hs _ _ _ hAR h (.refl _ _ _))
  | scope c ih =>
    intro Q E τ σ d a w h0 hAR h hs
    refine wp_scope_straight (ih h0 hAR h ?_)
    simp only [cCode] at hs
    cases hr : exec cf lf n (cCode P G c) τ σ d with
    | _ => rw [hr] at hs; exact hs
  | _ => intro Q E τ σ d a w h0 hAR h hs; exact hs.elim

end
end Go.Proofs.YtahgfodccndcjaaGreatEng
