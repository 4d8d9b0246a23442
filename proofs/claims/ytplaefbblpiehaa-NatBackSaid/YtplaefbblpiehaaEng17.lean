/- The engine, part 17: the other operations that act. -/
import Derived.Test.YtplaefbblpiehaaEng16
namespace Go.Proofs.YtplaefbblpiehaaEng
open Go
section
variable {P : Program} {G : Nat → Option V} {E : Env} {τ : Tr V} {ρ : Operand → Value} {σ : H} {w : World}

/-- A deferred call, and what stands for it. -/
def DfR (E : Env) (x : Df) (d : Deferred) : Prop := ∃ C : Array Value, d.target = .fn (.func x.1) C ∧ VRL E x.2 (d.args ++ C).toList

theorem DfR.mono {E E' : Env} (h : E.le E') {x : Df} {d : Deferred} (hd : DfR E x d) : DfR E' x d := by
  obtain ⟨C, h1, h2⟩ := hd
  exact ⟨C, h1, h2.mono h⟩

/-- What an operation that acts does. -/
def DoesH (P : Program) (E : Env) (σ : H) (w : World) (ρ : Operand → Value) (o : Oper) : HR → Prop
  | .bad => True
  | .ok v σ' => ∃ nx w' E', (execOp ρ o).run P w = .ok nx w' ∧ ((∃ cv, nx = .value cv ∧ VR E' v cv) ∨ (nx = .skip ∧ v = undefV)) ∧ HRel P E' σ' w' ∧ Ext E σ w E' σ' w'
  | .call f args => ∃ cargs : Array Value, (execOp ρ o).run P w = (callFunc f cargs).run P w ∧ VRL E args cargs.toList
  | .dfr x => ∃ d, (execOp ρ o).run P w = .ok (.defer d) w ∧ DfR E x d
  | .pan v => ∃ cv, (execOp ρ o).run P w = .halt (.panic cv) w ∧ VR E v cv
  | .recover => (execOp ρ o).run P w = .ok .recover w

theorem StepV.does {s : Sem Value} {v : V} {σ' : H} (h : StepV P E σ w s v σ') {o : Oper} (he : (execOp ρ o).run P w = (do pure (Next.value (← s)) : Sem Next).run P w) : DoesH P E σ w ρ o (.ok v σ') := by
  obtain ⟨cv, w', E', h1, h2, h3, h4⟩ := h
  exact ⟨.value cv, w', E', by rw [he]; simp [h1], .inl ⟨cv, rfl, h2⟩, h3, h4⟩

theorem storeCells_nil (a : Addr) (i : Nat) : storeCells a [] i = pure () := rfl

theorem VR.fn_inv {f : Nat} {a b : List V} {c : Value} (h : VR E (.fn f a b) c) : ∃ A B : Array Value, c = .func (.func f) A B ∧ VRL E a A.toList ∧ VRL E b B.toList := by
  cases h with
  | fn _ _ _ A B ha hb hva hvb => exact ⟨A, B, rfl, ⟨by simpa using ha, fun i v cv h1 h2 => hva i v cv h1 (by simpa using h2)⟩, ⟨by simpa using hb, fun i v cv h1 h2 => hvb i v cv h1 (by simpa using h2)⟩⟩

theorem doesH_store {o : Oper} {t : TypeId} {x y : Operand} (ho : o.op = .store t x y) {n : Nat} (hn : szOf P t = some n) {a b : Arg} (ha : cArg G x = some a) (hb : cArg G y = some b)
    (hO : OR G E τ ρ o.op.operands.toList) (h : HRel P E σ w) : DoesH P E σ w ρ o ((HOp.store n a b).ev τ σ) := by
  rw [ho] at hO
  simp only [HOp.ev]
  split
  · rename_i xx ver oo hu
    have hx := hO.one (x := x) (by simp [Op.operands]) ha hu
    split
    · rename_i v hv
      have hy := hO.one (x := y) (by simp [Op.operands]) hb hv
      split
      · rename_i hlen
        split
        · rename_i σ' hput
          generalize hr : ρ x = r at hx
          cases hx with
          | ptr _ _ _ p hp hl =>
            obtain ⟨w', q1, q2, q3⟩ := h.putCells hput hp hl hy.cells
            refine ⟨.skip, w', E, ?_, .inr ⟨rfl, rfl⟩, q2, q3⟩
            have hsz : ¬ ((ρ y).cells.size ≠ n) := by
              have := hy.cells.1; simp at this; omega
            simp [execOp, ho, hr, Instr.storeAt, Instr.sureAddr, storeVar, run_sizeOf' hn, hsz, q1]
        · trivial
      · trivial
    · trivial
  · trivial

theorem doesH_panic {o : Oper} {x : Operand} (ho : o.op = .panic x) {a : Arg} (ha : cArg G x = some a) (hO : OR G E τ ρ o.op.operands.toList) : DoesH P E σ w ρ o ((HOp.panic a).ev τ σ) := by
  rw [ho] at hO
  simp only [HOp.ev]
  split
  · rename_i t v hu
    have hx := hO.one (x := x) (by simp [Op.operands]) ha hu
    refine ⟨ρ x, ?_, hx⟩
    cases hr : ρ x <;> rw [hr] at hx <;> cases hx
    simp [execOp, ho, Instr.panic, hr]
  · trivial

theorem ofValue_run {f : Nat} {A B args : Array Value} : Deferred.ofValue (.func (.func f) A B) args = pure { target := .fn (.func f) B, args := A ++ args } := rfl

theorem doesH_call {o : Oper} {c : Call} (ho : o.op = .call c) {f : Nat} (hc : c.callee = .value (.func f)) {l : List Arg} (hl : cArgs G c.args.toList = some l) (hO : OR G E τ ρ o.op.operands.toList) : DoesH P E σ w ρ o ((HOp.call f l).ev τ σ) := by
  rw [ho] at hO
  simp only [HOp.ev]
  split
  · rename_i vs hv
    have hf := hO.one (x := .func f) (by simp [Op.operands, Call.operands, hc]) rfl (τ := τ) (v := .fn f [] []) rfl
    obtain ⟨A, B, e1, e2, e3⟩ := hf.fn_inv
    have hA : A = #[] := by have := e2.nil_left; exact Array.ext' this
    have hB : B = #[] := by have := e3.nil_left; exact Array.ext' this
    subst hA; subst hB
    have hargs := OR.list (xs := c.args.toList) (hO.sub fun y hy => mem_call hy) hl hv
    refine ⟨c.args.map ρ, ?_, by simpa using hargs⟩
    simp [execOp, ho, resolve, hc, e1, ofValue_run, invoke]
  · trivial

theorem doesH_calld {o : Oper} {c : Call} (ho : o.op = .call c) {x : Operand} (hc : c.callee = .value x) {a : Arg} (ha : cArg G x = some a) {l : List Arg} (hl : cArgs G c.args.toList = some l) (hO : OR G E τ ρ o.op.operands.toList) : DoesH P E σ w ρ o ((HOp.calld a l).ev τ σ) := by
  rw [ho] at hO
  simp only [HOp.ev]
  split
  · rename_i f fa fb hu
    split
    · rename_i vs hv
      have hf := hO.one (x := x) (by simp [Op.operands, Call.operands, hc]) ha hu
      obtain ⟨A, B, e1, e2, e3⟩ := hf.fn_inv
      have hargs := OR.list (xs := c.args.toList) (hO.sub fun y hy => mem_call hy) hl hv
      refine ⟨A ++ c.args.map ρ ++ B, ?_, by simpa using (e2.append hargs).append e3⟩
      simp [execOp, ho, resolve, hc, e1, ofValue_run, invoke]
    · trivial
  · trivial

theorem doesH_dfr {o : Oper} {c : Call} (ho : o.op = .defer c) {x : Operand} (hc : c.callee = .value x) {a : Arg} (ha : cArg G x = some a) {l : List Arg} (hl : cArgs G c.args.toList = some l) (hO : OR G E τ ρ o.op.operands.toList) : DoesH P E σ w ρ o ((HOp.dfr a l).ev τ σ) := by
  rw [ho] at hO
  simp only [HOp.ev]
  split
  · rename_i f fa fb hu
    split
    · rename_i vs hv
      have hf := hO.one (x := x) (by simp [Op.operands, Call.operands, hc]) ha hu
      obtain ⟨A, B, e1, e2, e3⟩ := hf.fn_inv
      have hargs := OR.list (xs := c.args.toList) (hO.sub fun y hy => by simp only [Op.operands, Call.operands, Array.toList_append, List.mem_append]; exact .inr hy) hl hv
      refine ⟨{ target := .fn (.func f) B, args := A ++ c.args.map ρ }, ?_, B, rfl, by simpa using (e2.append hargs).append e3⟩
      simp [execOp, ho, resolve, hc, e1, ofValue_run]
    · trivial
  · trivial

theorem doesH_recover {o : Oper} {c : Call} (ho : o.op = .call c) (hc : c.callee = .builtin .recover) : DoesH P E σ w ρ o ((HOp.recover).ev τ σ) := by
  obtain ⟨consts, he⟩ := exec_builtin (P := P) (ρ := ρ) ho hc w
  show (execOp ρ o).run P w = _
  rw [he]; rfl

theorem doesH_app {o : Oper} {c : Call} (ho : o.op = .call c) (hc : c.callee = .builtin .append) {x y : Operand} (hx : c.args.toList = [x, y]) {e s eb : Nat} (hT : AppT P c.argTypes e s eb) {a b : Arg} (ha : cArg G x = some a) (hb : cArg G y = some b)
    (hO : OR G E τ ρ o.op.operands.toList) (h : HRel P E σ w) : DoesH P E σ w ρ o ((HOp.app e s eb a b).ev τ σ) := by
  rw [ho] at hO
  simp only [HOp.ev]
  split
  · rename_i u hu
    split
    · rename_i v hv
      split
      · rename_i h1
        split
        · rename_i k hk
          split
          · rename_i cs hcs
            have hu' := hO.one (x := x) (mem_call (by simp [hx])) ha hu
            have hv' := hO.one (x := y) (mem_call (by simp [hx])) hb hv
            obtain ⟨consts, he⟩ := exec_builtin (P := P) (ρ := ρ) ho hc w
            cases hr : vapp σ e s eb k u cs with
            | none => trivial
            | some r =>
              obtain ⟨v', σ'⟩ := r
              refine StepV.does (run_append (ty := o.type) hT h hu' hv' h1 hk hcs hr) ?_
              rw [he, arr_of_list2 hx]
              simp [builtin]
          · trivial
        · trivial
      · trivial
    · trivial
  · trivial

end
end Go.Proofs.YtplaefbblpiehaaEng
