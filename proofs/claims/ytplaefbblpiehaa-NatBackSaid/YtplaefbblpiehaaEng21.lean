/- The engine, part 21: activations; one operation of a region. -/
import Derived.Test.YtplaefbblpiehaaEng20
namespace Go.Proofs.YtplaefbblpiehaaEng
open Go

/-- What stands for the globals is right. -/
def GOk (G : Nat → Option V) (w0 : World) : Prop := ∀ g v, G g = some v → ∀ E : Env, E.w0 = w0 → VR E v (.pointer (some ⟨g, 0, none⟩))

/-- What a call comes to. -/
def CallsTo (P : Program) (f : Nat) (args : Array Value) (w : World) (Rv Rp : Value → World → Prop) : Prop :=
  ∃ nx w1, (callFunc f args).run P w = .ok nx w1 ∧ match nx with
    | .value cv => Rv cv w1
    | .enter g a => Calls P g a w1 fun
      | .returned v, w' => Rv v w'
      | .panicked ch, w' => ∃ v, ch = [{ v, recovered := false }] ∧ Rp v w'
      | .outgrown, _ => False
    | _ => False

/-- The calls that the machine makes are the program's. -/
def CallOk (P : Program) (w0 : World) (cf : CallF) : Prop := ∀ f args σ E w (cargs : Array Value), E.w0 = w0 → HRel P E σ w → VRL E args cargs.toList →
  match cf f args σ with
  | .bad => True
  | .ret v σ' => CallsTo P f cargs w (fun cv w' => ∃ E', VR E' v cv ∧ HRel P E' σ' w' ∧ Ext E σ w E' σ' w') (fun _ _ => False)
  | .pan v σ' => CallsTo P f cargs w (fun _ _ => False) (fun cv w' => ∃ E', VR E' v cv ∧ HRel P E' σ' w' ∧ Ext E σ w E' σ' w')

/-- The deferred calls. -/
inductive DfL (E : Env) : List Df → List Deferred → Prop
  | nil : DfL E [] []
  | cons {x d xs ds} (h : DfR E x d) (hr : DfL E xs ds) : DfL E (x :: xs) (d :: ds)
theorem DfL.mono {E E' : Env} (h : E.le E') {x : List Df} {d : List Deferred} (hd : DfL E x d) : DfL E' x d := by
  induction hd with
  | nil => exact .nil
  | cons h1 _ ih => exact .cons (h1.mono h) ih

/-- An activation's temporaries and deferred calls. -/
structure AR (E : Env) (n : Nat) (τ : Tr V) (ds : List Df) (a : Act) : Prop where
  sz : n ≤ a.tmps.size
  val : ∀ t v, τ.get (Pos.ofNat t) = some v → VR E v (a.tmps.getD t undef)
  df : DfL E ds a.defers

theorem put_getD (a : Act) (d : Option Tmp) (v : Value) (t : Nat) : (a.put d v).tmps.getD t undef = if d = some t ∧ t < a.tmps.size then v else a.tmps.getD t undef := by
  cases d with
  | none => simp [Act.put]
  | some d =>
    simp only [Act.put, Array.getD_eq_getD_getElem?, Array.getElem?_setIfInBounds]
    by_cases h : d = t
    · subst h
      by_cases h2 : d < a.tmps.size
      · simp [h2]
      · simp [h2]
    · simp [h]
theorem put_size (a : Act) (d : Option Tmp) (v : Value) : (a.put d v).tmps.size = a.tmps.size := by cases d <;> simp [Act.put]
theorem put_defers (a : Act) (d : Option Tmp) (v : Value) : (a.put d v).defers = a.defers := by cases d <;> rfl

theorem putD_get {n : Nat} {τ τ' : Tr V} {d : Option Nat} {v : V} (h : putD n τ (d.map Pos.ofNat) v = some τ') (t : Nat) : τ'.get (Pos.ofNat t) = if d = some t then some v else τ.get (Pos.ofNat t) := by
  cases d with
  | none => simp [putD] at h; subst h; simp
  | some d =>
    simp only [Option.map_some, putD] at h
    split at h
    · simp at h; subst h
      rw [Tr.get_set]
      by_cases e : d = t
      · subst e; simp
      · rw [if_neg (fun e' => e (Pos.ofNat_inj e').symm), if_neg (by simpa using e)]
    · simp at h
theorem putD_lt {n : Nat} {τ τ' : Tr V} {d : Nat} {v : V} (h : putD n τ (some (Pos.ofNat d)) v = some τ') : d < n := by
  simp only [putD] at h
  split at h
  · rename_i h'; rw [Pos.toNat_ofNat] at h'; omega
  · simp at h

theorem AR.put {E : Env} {n : Nat} {τ τ' : Tr V} {ds : List Df} {a : Act} (h : AR E n τ ds a) {d : Option Nat} {v : V} (hp : putD n τ (d.map Pos.ofNat) v = some τ') {cv : Value} (hv : VR E v cv) : AR E n τ' ds (a.put d cv) where
  sz := by rw [put_size]; exact h.sz
  val := fun t u hu => by
    rw [putD_get hp] at hu
    rw [put_getD]
    by_cases e : d = some t
    · rw [if_pos e] at hu
      simp at hu; subst hu
      subst e
      have := putD_lt hp
      have := h.sz
      rw [if_pos ⟨rfl, by omega⟩]; exact hv
    · rw [if_neg e] at hu
      rw [if_neg (fun h => e h.1)]
      exact h.val t u hu
  df := by rw [put_defers]; exact h.df
theorem AR.mono {E E' : Env} (hE : E.le E') {n : Nat} {τ : Tr V} {ds : List Df} {a : Act} (h : AR E n τ ds a) : AR E' n τ ds a :=
  ⟨h.sz, fun t v hv => (h.val t v hv).mono hE, h.df.mono hE⟩

section
variable {P : Program} {G : Nat → Option V} {E : Env} {τ : Tr V} {σ : H} {w : World} {ops : Array Oper} {a : Act} {w0 : World}

/-- The temporaries that an operation looks at. -/
def TR (E : Env) (τ : Tr V) (a : Act) (ts : List Nat) : Prop := ∀ t ∈ ts, ∀ v, τ.get (Pos.ofNat t) = some v → VR E v (a.tmps.getD t undef)

theorem TR_OR (hG : GOk G w0) (h0 : E.w0 = w0) {xs : List Operand} (h : ∀ t, .tmp t ∈ xs → ∀ v, τ.get (Pos.ofNat t) = some v → VR E v (a.tmps.getD t undef)) : OR G E τ a.eval xs := by
  intro x hx b hb v hv
  cases x with
  | tmp t =>
    simp [cArg] at hb; subst hb
    exact h t hx v hv
  | const c =>
    simp only [cArg] at hb
    obtain ⟨u, hu, rfl⟩ := map_some hb
    simp [Arg.ev] at hv; subst hv
    exact ofVal_VR hu
  | «global» g =>
    simp only [cArg] at hb
    obtain ⟨u, hu, rfl⟩ := map_some hb
    simp [Arg.ev] at hv; subst hv
    exact hG g u hu E h0
  | func f =>
    simp [cArg] at hb; subst hb
    simp [Arg.ev] at hv; subst hv
    exact .fn f [] [] #[] #[] rfl rfl (fun i v cv h => by simp at h) (fun i v cv h => by simp at h)

theorem TR_op (hG : GOk G w0) (h0 : E.w0 = w0) {o : Oper} (h : TR E τ a (looks ops o)) : OR G E τ a.eval o.op.operands.toList :=
  TR_OR hG h0 fun t ht v hv => h t (by
    unfold looks
    refine List.mem_append_left _ ?_
    rw [List.mem_filterMap]
    exact ⟨.tmp t, ht, rfl⟩) v hv

theorem cOper_cases (P : Program) (G : Nat → Option V) (ops : Array Oper) (o : Oper) : cOper P G ops o = { dst := none, op := .p .bad, gd := none } ∨ ∃ g, cGuard ops o.guard = some g ∧ cOper P G ops o = { dst := o.dst.map Pos.ofNat, op := cOp P G o, gd := g } := by
  unfold cOper
  split
  · rename_i g hg; exact .inr ⟨g, hg, rfl⟩
  · exact .inl rfl

theorem guard_wanted {o : Oper} (h : TR E τ a (looks ops o)) {g : Option (Pos × Bool)} (hg : cGuard ops o.guard = some g) {b : Bool} (hb : guardV τ g = some b) : Region.wanted o (yielded ops a.tmps) = b := by
  unfold cGuard at hg
  split at hg
  · rename_i hgd
    simp at hg; subst hg
    simp only [guardV] at hb
    simp at hb; subst hb
    simp [Region.wanted, hgd]
  · rename_i j want hgd
    split at hg
    · rename_i d hd
      simp at hg; subst hg
      simp only [guardV] at hb
      have hlook : d ∈ looks ops o := by unfold looks; rw [hgd]; simp [hd]
      have hy : yielded ops a.tmps j = match a.tmps[d]? with | some (.bool b) => some b | _ => none := by
        unfold yielded; rw [hd]; rfl
      split at hb
      · rename_i bb hbb
        simp at hb; subst hb
        have hv := (h d hlook _ hbb).bool_inv
        have : a.tmps[d]? = some (.bool bb) := by
          rw [Array.getD_eq_getD_getElem?] at hv
          cases hx : a.tmps[d]? with
          | none => rw [hx] at hv; simp [undef] at hv
          | some x => rw [hx] at hv; simp at hv; rw [hv]
        simp only [Region.wanted, hgd, hy, this]
        simp
      · rename_i hbb
        simp at hb; subst hb
        have hv := h d hlook _ hbb
        obtain ⟨C, hC, hC2⟩ := hv.tup_inv
        have : (match a.tmps[d]? with | some (.bool b) => some b | _ => none) = none := by
          rw [Array.getD_eq_getD_getElem?] at hC
          cases hx : a.tmps[d]? with
          | none => rfl
          | some x => rw [hx] at hC; simp at hC; rw [hC]
        simp only [Region.wanted, hgd, hy, this]
        simp
      · simp at hb
    · simp at hg

variable {Q : Exit → Act → World → Prop} {K : Act → World → Prop} {i : Nat} {o : Oper}

theorem upon_val {v : V} (h : Does P E w a.eval o v) (hK : ∀ cv, VR E v cv → K (a.put o.dst cv) w) : o.upon P a K Q ((execOp a.eval o).run P w) := by
  obtain ⟨cv, h1, h2⟩ := h
  rw [h1]; exact hK cv h2
theorem upon_A {k : AK} {b : Blk} (h : DoesA P E w a.eval o k b)
    (hK : ∀ cv ob p, p.blk = w.heap.size → Fresh P E ob p b → (∀ E' x, E'.pl x 0 = some p → VR E' (k.val x) cv) → K (a.put o.dst cv) (World.push w ob)) : o.upon P a K Q ((execOp a.eval o).run P w) := by
  obtain ⟨cv, ob, p, h1, h2, h3, h4⟩ := h
  rw [h1]; exact hK cv ob p h2 h3 h4
theorem upon_ok {v : V} {σ' : H} (h : DoesH P E σ w a.eval o (.ok v σ')) (hK : ∀ cv w' E', VR E' v cv → HRel P E' σ' w' → Ext E σ w E' σ' w' → K (a.put o.dst cv) w') : o.upon P a K Q ((execOp a.eval o).run P w) := by
  obtain ⟨nx, w', E', h1, h2, h3, h4⟩ := h
  rw [h1]
  rcases h2 with ⟨cv, rfl, h5⟩ | ⟨rfl, rfl⟩
  · exact hK cv w' E' h5 h3 h4
  · exact hK undef w' E' (VR.undef _) h3 h4
theorem upon_dfr {x : Df} (h : DoesH P E σ w a.eval o (.dfr x)) (hK : ∀ d, DfR E x d → K ({ a with defers := d :: a.defers }.put o.dst undef) w) : o.upon P a K Q ((execOp a.eval o).run P w) := by
  obtain ⟨d, h1, h2⟩ := h
  rw [h1]; exact hK d h2
theorem upon_pan {v : V} (h : DoesH P E σ w a.eval o (.pan v)) (hK : ∀ cv, VR E v cv → Q (.panic [{ v := cv, recovered := false }]) a w) : o.upon P a K Q ((execOp a.eval o).run P w) := by
  obtain ⟨cv, h1, h2⟩ := h
  rw [h1]; exact hK cv h2
theorem upon_callTo {f : Nat} {cargs : Array Value} (he : (execOp a.eval o).run P w = (callFunc f cargs).run P w) {Rv Rp : Value → World → Prop} (hc : CallsTo P f cargs w Rv Rp)
    (hv : ∀ cv w', Rv cv w' → K (a.put o.dst cv) w') (hp : ∀ cv w', Rp cv w' → Q (.panic [{ v := cv, recovered := false }]) a w') : o.upon P a K Q ((execOp a.eval o).run P w) := by
  obtain ⟨nx, w1, h1, h2⟩ := hc
  rw [he, h1]
  cases nx with
  | value cv => exact hv cv w1 h2
  | enter g args =>
    refine Calls.mono h2 fun e w' h' => ?_
    cases e with
    | returned v => exact hv v w' h'
    | panicked ch => obtain ⟨v, rfl, h''⟩ := h'; exact hp v w' h''
    | outgrown => exact h'.elim
  | _ => exact h2.elim

end
end Go.Proofs.YtplaefbblpiehaaEng
