/- The engine, part 28: results; deferred calls; calls. -/
import Derived.Test.YtahgfodccndcjaaGreatEng27
import Derived.Recover
namespace Go.Proofs.YtahgfodccndcjaaGreatEng
open Go
section
variable {P : Program} {G : Nat → Option V} {E : Env} {n : Nat} {τ : Tr V} {σ : H} {d : List Df} {w : World} {a : Act} {w0 : World} {cf : CallF}

/- ---- results ---- -/

theorem cRes_run (h : HRel P E σ w) {tmps : Array Value} (hT : ∀ t v, τ.get (Pos.ofNat t) = some v → VR E v (tmps.getD t undef)) (fe : ResultVar → Sem Value)
    (hfe : ∀ r, fe r = match r with | .tmp t => pure (tmps.getD t undef) | .cell a t => do loadVar t (← asAddr (tmps.getD a undef))) :
    ∀ (rs : List ResultVar) {res : List CRes} {vs : List V}, cRes P rs = some res → resAll τ σ res = some vs → ∃ C : List Value, (rs.mapM fe).run P w = .ok C w ∧ VRL E vs C
  | [], res, vs, hc, hv => by
    simp [cRes] at hc; subst hc
    simp [resAll] at hv; subst hv
    exact ⟨[], rfl, .nil⟩
  | .tmp t :: r, res, vs, hc, hv => by
    simp only [cRes] at hc
    obtain ⟨res', hr, rfl⟩ := map_some hc
    simp only [resAll] at hv
    split at hv
    · rename_i v hv1
      split at hv
      · rename_i vs' hvs
        simp at hv; subst hv
        obtain ⟨C, h1, h2⟩ := cRes_run h hT fe hfe r hr hvs
        refine ⟨tmps.getD t undef :: C, ?_, .cons (hT t v hv1) h2⟩
        simp only [List.mapM_cons, hfe, Sem.run_bind, Sem.run_pure, Result.andThen_ok, h1]
      · simp at hv
    · simp at hv
  | .cell ad t :: r, res, vs, hc, hv => by
    simp only [cRes] at hc
    split at hc
    · rename_i ag hag
      obtain ⟨res', hr, rfl⟩ := map_some hc
      simp only [resAll] at hv
      split at hv
      · rename_i v hv1
        split at hv
        · rename_i vs' hvs
          simp at hv; subst hv
          obtain ⟨C, h1, h2⟩ := cRes_run h hT fe hfe r hr hvs
          simp only [resOne] at hv1
          split at hv1
          · rename_i x ver o hx
            split at hv1
            · rename_i c hcell
              have hp := hT ad _ hx
              generalize hta : tmps.getD ad undef = ta at hp
              cases hp with
              | ptr _ _ _ p hp hl =>
                obtain ⟨ty, hP⟩ := h.at_ hcell hp
                obtain ⟨cv, g1, g2⟩ := pick1_load hP hag hl hv1
                refine ⟨cv :: C, ?_, .cons g2 h2⟩
                simp only [List.mapM_cons, hfe, hta, asAddr, Sem.run_bind, Sem.run_pure, Result.andThen_ok, g1, h1]
            · simp at hv1
          · simp at hv1
        · simp at hv
      · simp at hv
    · simp at hc

theorem results_run (h : HRel P E σ w) {fn : Func} {res : List CRes} (hc : cRes P fn.results.toList = some res) {tmps : Array Value} (hT : ∀ t v, τ.get (Pos.ofNat t) = some v → VR E v (tmps.getD t undef)) {v : V}
    (hv : resV τ σ res = some v) : ∃ cv, (results fn tmps).run P w = .ok cv w ∧ VR E v cv := by
  unfold resV at hv
  obtain ⟨fe, hfe⟩ : ∃ fe : ResultVar → Sem Value, ∀ r, fe r = (match r with | .tmp t => pure (tmps.getD t undef) | .cell a t => (do loadVar t (← asAddr (tmps.getD a undef)))) := ⟨_, fun _ => rfl⟩
  have hres : (results fn tmps) = (do let vs ← List.toArray <$> fn.results.toList.mapM fe; pure (if h : vs.size = 1 then vs[0] else .tuple vs)) := by
    unfold results
    rw [← Array.mapM_eq_mapM_toList]
    have : fe = fun r => (match r with | .tmp t => pure (tmps.getD t undef) | .cell a t => (do loadVar t (← asAddr (tmps.getD a undef)))) := funext hfe
    rw [this]
    rfl
  split at hv
  · rename_i v' hv'
    simp at hv; subst hv
    obtain ⟨C, h1, h2⟩ := cRes_run h hT fe hfe _ hc hv'
    obtain ⟨cv, C', rfl, h3, h4⟩ := h2.cons_left
    have := h4.nil_left; subst this
    exact ⟨cv, by rw [hres]; simp [h1], h3⟩
  · rename_i vs hne hv'
    simp at hv; subst hv
    obtain ⟨C, h1, h2⟩ := cRes_run h hT fe hfe _ hc hv'
    refine ⟨.tuple C.toArray, ?_, .mk_tup (by simpa using h2)⟩
    have hl : C.length ≠ 1 := by
      intro e
      have := h2.1
      rw [e] at this
      obtain ⟨v, rfl⟩ := List.length_eq_one_iff.1 this
      exact hne v rfl
    rw [hres]; simp [h1, hl]
  · simp at hv

/- ---- deferred bodies ---- -/

/-- How a frame is being left, and what stands for it; true: its panic was recovered. -/
def MR (E : Env) : Lv → Bool → FrameMode → Prop
  | .ret, _, u => u = .returning
  | .pan v, rc, u => ∃ cv, VR E v cv ∧ u = .panicking [{ v := cv, recovered := rc }]
theorem MR.mono {E E' : Env} (h : E.le E') {l : Lv} {rc : Bool} {u : FrameMode} (hm : MR E l rc u) : MR E' l rc u := by
  cases l with
  | ret => exact hm
  | pan v => obtain ⟨cv, h1, h2⟩ := hm; exact ⟨cv, h1.mono h, h2⟩

def SatS (P : Program) (n : Nat) (E : Env) (σ : H) (w : World) (l : Lv) (c₀ : Frame) (cs : List Frame) (x : R × Bool) (Q : Exit → Act → List Frame → World → Prop) : Prop :=
  match x.1 with
  | .bad => False
  | .nx τ' σ' d' => ∀ a' w' E' u', AR E' n τ' d' a' → HRel P E' σ' w' → Ext E σ w E' σ' w' → MR E' l x.2 u' → Q .normal a' ({ c₀ with mode := u' } :: cs) w'
  | .ex id τ' σ' d' => ∀ a' w' E' u', AR E' n τ' d' a' → HRel P E' σ' w' → Ext E σ w E' σ' w' → MR E' l x.2 u' → Q (.exit id) a' ({ c₀ with mode := u' } :: cs) w'
  | .rt τ' σ' d' => ∀ a' w' E' u', AR E' n τ' d' a' → HRel P E' σ' w' → Ext E σ w E' σ' w' → MR E' l x.2 u' → Q .ret a' ({ c₀ with mode := u' } :: cs) w'
  | .pn v τ' σ' d' => ∀ a' w' E' u' cv, AR E' n τ' d' a' → HRel P E' σ' w' → Ext E σ w E' σ' w' → MR E' l x.2 u' → VR E' v cv → Q (.panic [{ v := cv, recovered := false }]) a' ({ c₀ with mode := u' } :: cs) w'

theorem SatS.mono {E1 : Env} {σ1 : H} {w1 : World} {l : Lv} {c₀ : Frame} {cs : List Frame} {x : R × Bool} {Q : Exit → Act → List Frame → World → Prop} (h : SatS P n E σ w l c₀ cs x Q) (hE : Ext E σ w E1 σ1 w1) : SatS P n E1 σ1 w1 l c₀ cs x Q := by
  obtain ⟨r, b⟩ := x
  cases r with
  | bad => exact h
  | nx => exact fun a' w' E' u' h1 h2 h3 => h a' w' E' u' h1 h2 (hE.trans h3)
  | ex => exact fun a' w' E' u' h1 h2 h3 => h a' w' E' u' h1 h2 (hE.trans h3)
  | rt => exact fun a' w' E' u' h1 h2 h3 => h a' w' E' u' h1 h2 (hE.trans h3)
  | pn => exact fun a' w' E' u' cv h1 h2 h3 => h a' w' E' u' cv h1 h2 (hE.trans h3)

/-- A plain step within a deferred body. -/
theorem SatS.toSat {l : Lv} {c₀ : Frame} {cs : List Frame} {r : R} {rc : Bool} {Q : Exit → Act → List Frame → World → Prop} (h : SatS P n E σ w l c₀ cs (r, rc) Q) {u : FrameMode} (hm : MR E l rc u) : Sat P n E σ w r (fun e a' w' => Q e a' ({ c₀ with mode := u } :: cs) w') := by
  cases r with
  | bad => exact h
  | nx => exact fun a' w' E' h1 h2 h3 => h a' w' E' u h1 h2 h3 (hm.mono h3.le)
  | ex => exact fun a' w' E' h1 h2 h3 => h a' w' E' u h1 h2 h3 (hm.mono h3.le)
  | rt => exact fun a' w' E' h1 h2 h3 => h a' w' E' u h1 h2 h3 (hm.mono h3.le)
  | pn => exact fun a' w' E' cv h1 h2 h3 => h a' w' E' u cv h1 h2 h3 (hm.mono h3.le)

theorem runOpsS_sound (hcf : CallOk P w0 cf) (hG : GOk G w0) {ops : Array Oper} {l : Lv} {c₀ : Frame} {cs : List Frame} {Q : Exit → Act → List Frame → World → Prop} : ∀ (os : List Oper) (is : List Nat), is.map (fun i => ops[i]?) = os.map some →
    ∀ {E : Env} {τ : Tr V} {σ : H} {d : List Df} {a : Act} {w : World} {rc : Bool} {u : FrameMode}, E.w0 = w0 → AR E n τ d a → HRel P E σ w → MR E l rc u →
    SatS P n E σ w l c₀ cs (runOpsS cf n l (os.map (cOper P G ops)) rc τ σ d) Q → wpOpsS P ops Q is a ({ c₀ with mode := u } :: cs) w
  | [], is, hi, E, τ, σ, d, a, w, rc, u, h0, hAR, h, hm, hs => by
    simp at hi; subst hi
    exact hs _ _ _ _ hAR h (.refl _ _ _) hm
  | o :: os, [], hi, E, τ, σ, d, a, w, rc, u, h0, hAR, h, hm, hs => by simp at hi
  | o :: os, i :: is, hi, E, τ, σ, d, a, w, rc, u, h0, hAR, h, hm, hs => by
    simp only [List.map_cons, List.cons.injEq] at hi
    have hT : TR E τ a (looks ops o) := fun t _ => hAR.val t
    unfold wpOpsS
    simp only [hi.1]
    simp only [List.map_cons, runOpsS] at hs
    -- is it 'recover', and wanted?
    by_cases hrec : (cOper P G ops o).op = .h .recover ∧ guardV τ (cOper P G ops o).gd = some true
    · obtain ⟨hr1, hr2⟩ := hrec
      rcases cOper_cases P G ops o with hb | ⟨g, hg, hb⟩
      · rw [hb] at hr1; simp at hr1
      · have hsound := cOp_sound' (o := o) (G := G) (TR_op hG h0 hT) h
        rw [hb] at hr1 hr2
        simp only at hr1 hr2
        rw [hr1] at hsound
        have hrun : (execOp a.eval o).run P w = .ok .recover w := hsound
        rw [guard_wanted hT hg hr2, hrun]
        simp only [if_true]
        have hstep : stepS cf n (cOper P G ops o) l rc τ σ d = (match (match l, rc with
            | .pan v, false => putD n τ (o.dst.map Pos.ofNat) v
            | _, _ => putD n τ (o.dst.map Pos.ofNat) .nili) with
          | some τ' => R.nx τ' σ d
          | none => .bad, true) := by
          rw [hb]; simp only [stepS, hr1, hr2]
          cases l <;> cases rc <;> rfl
        rw [hstep] at hs
        cases l with
        | ret =>
          have hu : u = .returning := hm
          subst hu
          simp only [recoverD]
          simp only at hs
          cases hp : putD n τ (o.dst.map Pos.ofNat) .nili with
          | none => rw [hp] at hs; exact hs.elim
          | some τ' =>
            rw [hp] at hs
            exact runOpsS_sound hcf hG os is hi.2 h0 (hAR.put hp .nili) h (l := .ret) (rc := true) rfl hs
        | pan v =>
          obtain ⟨cv, hv, rfl⟩ := hm
          cases rc with
          | false =>
            simp only [recoverD]
            simp only at hs
            cases hp : putD n τ (o.dst.map Pos.ofNat) v with
            | none => rw [hp] at hs; exact hs.elim
            | some τ' =>
              rw [hp] at hs
              exact runOpsS_sound hcf hG os is hi.2 h0 (hAR.put hp hv) h (l := .pan v) (rc := true) ⟨cv, hv, rfl⟩ hs
          | true =>
            simp only [recoverD]
            simp only at hs
            cases hp : putD n τ (o.dst.map Pos.ofNat) .nili with
            | none => rw [hp] at hs; exact hs.elim
            | some τ' =>
              rw [hp] at hs
              exact runOpsS_sound hcf hG os is hi.2 h0 (hAR.put hp .nili) h (l := .pan v) (rc := true) ⟨cv, hv, rfl⟩ hs
    · have hstep : stepS cf n (cOper P G ops o) l rc τ σ d = (stepOp cf n (cOper P G ops o) τ σ d, rc) := by
        unfold stepS
        split
        · rename_i e1 e2; exact absurd ⟨e1, e2⟩ hrec
        · rfl
      rw [hstep] at hs
      -- the step, with what follows
      have hsat : Sat P n E σ w (stepOp cf n (cOper P G ops o) τ σ d) (Exit.then (fun a' w' => wpOpsS P ops Q is a' ({ c₀ with mode := u } :: cs) w') (fun e a' w' => Q e a' ({ c₀ with mode := u } :: cs) w')) := by
        cases hr : stepOp cf n (cOper P G ops o) τ σ d with
        | bad => rw [hr] at hs; exact hs
        | nx τ' σ' d' =>
          rw [hr] at hs
          intro a' w' E' q1 q2 q3
          exact runOpsS_sound hcf hG os is hi.2 (le_w0 q3.le h0) q1 q2 (hm.mono q3.le) (hs.mono q3)
        | ex => rw [hr] at hs; exact hs.toSat hm
        | rt => rw [hr] at hs; exact hs.toSat hm
        | pn v τ' σ' d' => rw [hr] at hs; exact hs.toSat hm
      have hup := step_upon hcf hG h0 hAR h hsat
      split
      · rename_i hw
        rw [if_pos hw] at hup
        generalize hrun : (execOp a.eval o).run P w = r at hup
        cases r with
        | ok nx w' =>
          cases nx <;> first | exact hup.elim | exact hup
        | halt x w' => exact hup
      · rename_i hw
        rw [if_neg hw] at hup
        exact hup

theorem wpS_scope {c : Code} {Q : Exit → Act → List Frame → World → Prop} {cs : List Frame} (h : c.wpS P (fun e a cs w => match e with | .goto _ => False | e => Q e a cs w) a cs w) : (Code.scope c).wpS P Q a cs w := by
  intro b k hb hr
  obtain ⟨e, a₁, cs₁, w₁, hq, harr⟩ := h b (.inScope c :: k) hb hr
  cases e with
  | normal => exact ⟨.normal, a₁, cs₁, w₁, hq, .head step_scope (Steps.trans harr (.one step_inScope))⟩
  | exit id => exact ⟨.exit id, a₁, cs₁, w₁, hq, fun k' hk => .head step_scope (harr k' (by simp [exitTo, hk]))⟩
  | goto l => exact hq.elim
  | ret => exact ⟨_, a₁, cs₁, w₁, hq, .of_steps (.one step_scope) harr⟩
  | panic ch => exact ⟨_, a₁, cs₁, w₁, hq, .of_steps (.one step_scope) harr⟩
  | outgrown => exact ⟨_, a₁, cs₁, w₁, hq, .of_steps (.one step_scope) harr⟩

theorem execS_sound (hmo : P.follows .mixedOrders = true) (hcf : CallOk P w0 cf) (hG : GOk G w0) (lf : Nat) {l : Lv} {c₀ : Frame} {cs : List Frame} : ∀ (c : Code) {Q : Exit → Act → List Frame → World → Prop} {E : Env} {τ : Tr V} {σ : H} {d : List Df} {a : Act} {w : World} {rc : Bool} {u : FrameMode},
    E.w0 = w0 → AR E n τ d a → HRel P E σ w → MR E l rc u → SatS P n E σ w l c₀ cs (execS cf lf n l (cCode P G c) rc τ σ d) Q → c.wpS P Q a ({ c₀ with mode := u } :: cs) w := by
  intro c
  -- what is run as ever
  have plain : ∀ (c : Code) {Q : Exit → Act → List Frame → World → Prop} {E : Env} {τ : Tr V} {σ : H} {d : List Df} {a : Act} {w : World} {rc : Bool} {u : FrameMode},
      execS cf lf n l (cCode P G c) rc τ σ d = (exec cf lf n (cCode P G c) τ σ d, rc) → E.w0 = w0 → AR E n τ d a → HRel P E σ w → MR E l rc u → SatS P n E σ w l c₀ cs (execS cf lf n l (cCode P G c) rc τ σ d) Q → c.wpS P Q a ({ c₀ with mode := u } :: cs) w := by
    intro c Q E τ σ d a w rc u he h0 hAR h hm hs
    rw [he] at hs
    exact wpS_of_wp (exec_sound hmo hcf hG lf c h0 hAR h (hs.toSat hm))
  induction c with
  | seq x y ihx ihy =>
    intro Q E τ σ d a w rc u h0 hAR h hm hs
    refine wpS_seq (ihx h0 hAR h hm ?_)
    simp only [cCode, execS] at hs
    cases hr : execS cf lf n l (cCode P G x) rc τ σ d with
    | mk r rc' =>
      rw [hr] at hs
      cases r with
      | nx τ' σ' d' => exact fun a' w' E' u' q1 q2 q3 q4 => ihy (le_w0 q3.le h0) q1 q2 q4 (hs.mono q3)
      | _ => exact hs
  | cond c x y ihx ihy =>
    intro Q E τ σ d a w rc u h0 hAR h hm hs
    simp only [cCode] at hs
    split at hs
    · rename_i x' hx
      simp only [execS] at hs
      split at hs
      · rename_i hb
        exact wpS_cond (cond_eval hG h0 hAR hx hb) (ihx h0 hAR h hm hs)
      · rename_i hb
        exact wpS_cond (cond_eval hG h0 hAR hx hb) (ihy h0 hAR h hm hs)
      · exact hs.elim
    · exact hs.elim
  | region id ops draw =>
    intro Q E τ σ d a w rc u h0 hAR h hm hs
    cases draw with
    | false =>
      simp only [cCode, Bool.false_eq_true, if_false, execS] at hs
      refine wpS_region (runOpsS_sound hcf hG ops.toList _ ?_ h0 hAR h hm hs)
      apply List.ext_getElem?
      intro i
      simp only [List.getElem?_map, Array.getElem?_toList]
      rcases Nat.lt_or_ge i ops.size with hi | hi
      · simp [hi]
      · simp [hi]
    | true =>
      refine plain _ ?_ h0 hAR h hm hs
      simp only [cCode, if_true]
      split <;> rfl
  | scope c ih =>
    intro Q E τ σ d a w rc u h0 hAR h hm hs
    refine wpS_scope (ih h0 hAR h hm ?_)
    simp only [cCode] at hs
    cases hr : execS cf lf n l (cCode P G c) rc τ σ d with
    | mk r rc' =>
      rw [hr] at hs
      cases r <;> exact hs
  | _ => intro Q E τ σ d a w rc u h0 hAR h hm hs; exact plain _ rfl h0 hAR h hm hs

/- ---- leaving a frame ---- -/

/-- All that a call leaves is as R wants it. -/
def RSat (P : Program) (E : Env) (σ : H) (w : World) (x : CR) (R : Ending → World → Prop) : Prop :=
  match x with
  | .bad => False
  | .ret v σ' => ∀ cv w' E', VR E' v cv → HRel P E' σ' w' → Ext E σ w E' σ' w' → R (.returned cv) w'
  | .pan v σ' => ∀ cv w' E', VR E' v cv → HRel P E' σ' w' → Ext E σ w E' σ' w' → R (.panicked [{ v := cv, recovered := false }]) w'
theorem RSat.mono {E1 : Env} {σ1 : H} {w1 : World} {x : CR} {R : Ending → World → Prop} (h : RSat P E σ w x R) (hE : Ext E σ w E1 σ1 w1) : RSat P E1 σ1 w1 x R := by
  cases x with
  | bad => exact h
  | ret => exact fun cv w' E' h1 h2 h3 => h cv w' E' h1 h2 (hE.trans h3)
  | pan => exact fun cv w' E' h1 h2 h3 => h cv w' E' h1 h2 (hE.trans h3)

theorem codeOf_some {f : Nat} {c : CFun} (h : codeOf P G f = some c) : ∃ fn body, P.funcs[f]? = some fn ∧ fn.body = some body ∧ ¬ (fn.name == "runtime.NumGoroutine") = true ∧ c.n = fn.ntmps ∧ cRes P fn.results.toList = some c.res ∧ c.body = cCode P G body := by
  unfold codeOf at h
  split at h
  · rename_i fn hfn
    unfold cFunc at h
    split at h
    · simp at h
    · rename_i hname
      split at h
      · rename_i body res hb hr
        simp at h; subst h
        exact ⟨fn, body, hfn, hb, hname, rfl, hr, rfl⟩
      · simp at h
  · simp at h

theorem callFunc_run {f : Nat} {fn : Func} {body : Code} (hf : P.funcs[f]? = some fn) (hb : fn.body = some body) (hn : ¬ (fn.name == "runtime.NumGoroutine") = true) (args : Array Value) (w : World) :
    (callFunc f args).run P w = .ok (.enter f args) w := by
  have hn' : ¬ fn.name = "runtime.NumGoroutine" := by simpa using hn
  simp [callFunc, hf, hb, hn']

theorem bindArgs_get : ∀ (l : List V) (k : Nat) (τ : Tr V) (t : Nat), (bindArgs l (Pos.ofNat k) τ).get (Pos.ofNat t) = if k ≤ t ∧ t < k + l.length then l[t - k]? else τ.get (Pos.ofNat t)
  | [], k, τ, t => by rw [if_neg (by simp)]; rfl
  | v :: l, k, τ, t => by
    show (bindArgs l (Pos.ofNat (k + 1)) _).get _ = _
    rw [bindArgs_get l (k + 1)]
    by_cases h1 : k + 1 ≤ t ∧ t < k + 1 + l.length
    · rw [if_pos h1, if_pos (by simp; omega), show t - k = (t - (k + 1)) + 1 by omega, List.getElem?_cons_succ]
    · rw [if_neg h1, Tr.get_set]
      by_cases h2 : t = k
      · subst h2; simp
      · rw [if_neg (fun e => h2 (Pos.ofNat_inj e)), if_neg (by simp; omega)]

theorem AR_enter {args : List V} {cargs : Array Value} (h : VRL E args cargs.toList) {m : Nat} : AR E m (bindArgs args .h .lf) [] { tmps := cargs ++ Array.replicate (m - cargs.size) undef, defers := [] } where
  sz := by simp; omega
  val := fun t v hv => by
    have := bindArgs_get args 0 .lf t
    rw [show Pos.ofNat 0 = .h from rfl] at this
    rw [this] at hv
    split at hv
    · rename_i hlt
      simp at hv
      obtain ⟨cv, h1, h2⟩ := h.get hv
      simp only [Array.getElem?_toList] at h1
      have hlt2 : t < cargs.size := by
        rcases Nat.lt_or_ge t cargs.size with h | h
        · exact h
        · simp [Array.getElem?_eq_none h] at h1
      rw [Array.getD_eq_getD_getElem?, Array.getElem?_append_left hlt2, h1]
      exact h2
    · simp [Tr.get_lf] at hv
  df := .nil

theorem settle_ret : settle .returning = .returning := rfl
theorem settle_rec (v : Value) : settle (.panicking [{ v, recovered := true }]) = .returning := rfl
theorem settle_pan (v : Value) : settle (.panicking [{ v, recovered := false }]) = .panicking [{ v, recovered := false }] := rfl

theorem leave_sound {code : Nat → Option CFun} (hcode : ∀ f c, code f = some c → codeOf P G f = some c) (hmo : P.follows .mixedOrders = true) (hcf : CallOk P w0 cf) (hG : GOk G w0) (lf : Nat) {fn : Func} {res : List CRes} (hres : cRes P fn.results.toList = some res) {tmps : Array Value} {R : Ending → World → Prop} :
    ∀ (xs : List Df) (ds : List Deferred) {E : Env} {σ : H} {w : World} {l : Lv} {u : FrameMode}, E.w0 = w0 → DfL E xs ds → (∀ t v, τ.get (Pos.ofNat t) = some v → VR E v (tmps.getD t undef)) → HRel P E σ w → MR E l false u →
    RSat P E σ w (leave cf lf code τ res xs l σ) R → Leaves P fn tmps R ds u w
  | [], ds, E, σ, w, l, u, h0, hd, hT, h, hm, hs => by
    cases hd
    cases l with
    | ret =>
      have : u = .returning := hm
      subst this
      simp only [leave, retOf] at hs
      split at hs
      · rename_i v hv
        obtain ⟨cv, h1, h2⟩ := results_run h hres hT hv
        exact ⟨cv, h1, hs cv w E h2 h (.refl _ _ _)⟩
      · exact hs.elim
    | pan v =>
      obtain ⟨cv, hv, rfl⟩ := hm
      exact hs cv w E hv h (.refl _ _ _)
  | x :: xs, ds, E, σ, w, l, u, h0, hd, hT, h, hm, hs => by
    cases hd with
    | cons hx hr =>
      rename_i d ds
      obtain ⟨C, ht, hargs⟩ := hx
      simp only [leave] at hs
      split at hs
      · rename_i l' σ' hcall
        unfold callD at hcall
        split at hcall
        · rename_i c hc
          obtain ⟨fn', body, hf, hb, hname, hn, hcres, hbody⟩ := codeOf_some (hcode _ _ hc)
          split at hcall
          · refine ⟨?_, .func x.1, C, x.1, d.args ++ C, ht, ?_, ?_⟩
            · cases l with
              | ret => have : u = .returning := hm; subst this; simp
              | pan v => obtain ⟨cv, _, rfl⟩ := hm; simp
            · rw [ht]; exact callFunc_run hf hb hname _ w
            · refine callsD_of_wpS hf hb fun c₀ cs hu => ?_
              have hc0 : c₀ = { c₀ with mode := u } := by subst hu; rfl
              rw [hc0]
              have hAR := AR_enter hargs (m := fn'.ntmps)
              refine execS_sound (n := fn'.ntmps) (cf := cf) (G := G) hmo hcf hG lf (l := l) body h0 hAR h (rc := false) hm ?_
              -- what the body leaves
              have fin : ∀ τ1 σ1 rc, afterD c.res l rc τ1 σ1 = some (l', σ') → ∀ a' w' E' u', AR E' fn'.ntmps τ1 [] a' → HRel P E' σ1 w' → Ext E σ w E' σ1 w' → MR E' l rc u' →
                  a'.defers = [] ∧ ∃ u'', ({ c₀ with mode := u' } :: cs : List Frame) = { ({ c₀ with mode := u } : Frame) with mode := u'' } :: cs ∧ ∃ v, (results fn' a'.tmps).run P w' = .ok v w' ∧ Leaves P fn tmps R ds (settle u'') w' := by
                intro τ1 σ1 rc heq a' w' E' u' q1 q2 q3 q4
                unfold afterD at heq
                have hdn : a'.defers = [] := by
                  have := q1.df
                  generalize a'.defers = dd at this
                  cases this; rfl
                split at heq
                · rename_i rv hrv
                  obtain ⟨cv, r1, _⟩ := results_run q2 hcres q1.val hrv
                  refine ⟨hdn, u', rfl, cv, r1, ?_⟩
                  have next : ∀ l'' u'', MR E' l'' false u'' → l' = l'' → σ' = σ1 → Leaves P fn tmps R ds u'' w' := by
                    rintro l'' u'' hm' rfl rfl
                    exact leave_sound hcode hmo hcf hG lf hres xs ds (le_w0 q3.le h0) (hr.mono q3.le) (fun t v hv => (hT t v hv).mono q3.le) q2 hm' (hs.mono q3)
                  split at heq
                  · rename_i v
                    simp at heq
                    obtain ⟨cv', hv', rfl⟩ := q4
                    rw [settle_rec]
                    exact next .ret _ rfl heq.1.symm heq.2.symm
                  · rename_i hne
                    simp at heq
                    obtain ⟨e1, e2⟩ := heq
                    cases l with
                    | ret =>
                      have : u' = .returning := q4
                      subst this
                      exact next .ret _ rfl e1.symm e2.symm
                    | pan v =>
                      obtain ⟨cv', hv', rfl⟩ := q4
                      cases rc with
                      | true => exact absurd rfl (hne v rfl)
                      | false => exact next (.pan v) _ ⟨cv', hv', rfl⟩ e1.symm e2.symm
                · simp at heq
              rw [hbody, hn] at hcall
              cases hex : execS cf lf fn'.ntmps l (cCode P G body) false (bindArgs x.2 .h .lf) σ [] with
              | mk r rc =>
                rw [hex] at hcall
                cases r with
                | nx τ1 σ1 d1 =>
                  cases d1 with
                  | nil => exact fun a' w' E' u' q1 q2 q3 q4 => fin τ1 σ1 rc hcall a' w' E' u' q1 q2 q3 q4
                  | cons => simp at hcall
                | rt τ1 σ1 d1 =>
                  cases d1 with
                  | nil => exact fun a' w' E' u' q1 q2 q3 q4 => fin τ1 σ1 rc hcall a' w' E' u' q1 q2 q3 q4
                  | cons => simp at hcall
                | bad => simp at hcall
                | ex => simp at hcall
                | pn => simp at hcall
          · simp at hcall
        · simp at hcall
      · exact hs.elim

/- ---- calls ---- -/

/-- A function given otherwise. -/
def IntrOk (P : Program) (w0 : World) (f : Nat) (g : List V → H → CR) : Prop := ∀ args σ E w (cargs : Array Value), E.w0 = w0 → HRel P E σ w → VRL E args cargs.toList →
  match g args σ with
  | .bad => True
  | .ret v σ' => CallsTo P f cargs w (fun cv w' => ∃ E', VR E' v cv ∧ HRel P E' σ' w' ∧ Ext E σ w E' σ' w') (fun _ _ => False)
  | .pan v σ' => CallsTo P f cargs w (fun _ _ => False) (fun cv w' => ∃ E', VR E' v cv ∧ HRel P E' σ' w' ∧ Ext E σ w E' σ' w')

theorem call_sound (hmo : P.follows .mixedOrders = true) (hG : GOk G w0) {T : Tab} (hT : ∀ f c, T.code f = some c → codeOf P G f = some c) (hI : ∀ f g, T.intr f = some g → IntrOk P w0 f g) (lf : Nat) : ∀ m, CallOk P w0 (call T lf m)
  | 0 => fun f args σ E w cargs h0 h hargs => by simp [call]
  | m + 1 => fun f args σ E w cargs h0 h hargs => by
    have ih := call_sound hmo hG hT hI lf m
    simp only [call]
    cases hi : T.intr f with
    | some g => exact hI f g hi args σ E w cargs h0 h hargs
    | none =>
      simp only
      cases hc : T.code f with
      | none => trivial
      | some c =>
        simp only
        obtain ⟨fn, body, hf, hb, hname, hn, hcres, hbody⟩ := codeOf_some (hT _ _ hc)
        by_cases hlen : args.length ≤ c.n
        · rw [if_pos hlen]
          generalize hres : finish (call T lf m) lf T.code c.res (exec (call T lf m) lf c.n c.body (bindArgs args .h .lf) σ []) = cr
          -- the call, whatever is wanted of it
          have main : ∀ R, RSat P E σ w cr R → Calls P f cargs w R := by
            intro R hs
            refine calls_of_wp_defers hf hb ?_
            have hAR := AR_enter hargs (m := fn.ntmps)
            refine exec_sound (n := fn.ntmps) (G := G) (cf := call T lf m) hmo ih hG lf body h0 hAR h ?_
            rw [← hbody, ← hn]
            subst hres
            cases hex : exec (call T lf m) lf c.n c.body (bindArgs args .h .lf) σ [] with
            | bad => rw [hex] at hs; exact hs
            | ex => rw [hex] at hs; exact hs.elim
            | nx τ' σ' d' =>
              rw [hex] at hs
              exact fun a' w' E' q1 q2 q3 => leave_sound hT hmo ih hG lf hcres d' a'.defers (le_w0 q3.le h0) q1.df q1.val q2 (l := .ret) rfl (hs.mono q3)
            | rt τ' σ' d' =>
              rw [hex] at hs
              exact fun a' w' E' q1 q2 q3 => leave_sound hT hmo ih hG lf hcres d' a'.defers (le_w0 q3.le h0) q1.df q1.val q2 (l := .ret) rfl (hs.mono q3)
            | pn v τ' σ' d' =>
              rw [hex] at hs
              exact fun a' w' E' cv q1 q2 q3 q4 => leave_sound hT hmo ih hG lf hcres d' a'.defers (le_w0 q3.le h0) q1.df q1.val q2 (l := .pan v) ⟨cv, q4, rfl⟩ (hs.mono q3)
          cases cr with
          | bad => trivial
          | ret v σ' =>
            refine ⟨.enter f cargs, w, callFunc_run hf hb hname _ w, main _ ?_⟩
            exact fun cv w' E' q1 q2 q3 => ⟨E', q1, q2, q3⟩
          | pan v σ' =>
            refine ⟨.enter f cargs, w, callFunc_run hf hb hname _ w, main _ ?_⟩
            exact fun cv w' E' q1 q2 q3 => ⟨cv, rfl, E', q1, q2, q3⟩
        · rw [if_neg hlen]; trivial

end
end Go.Proofs.YtahgfodccndcjaaGreatEng
