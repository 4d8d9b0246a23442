/- The engine, part 30: from a run of the machine, begun with an empty heap, to the program's call. -/
import Derived.Test.YtahgfodccndcjaaGreatEng29
import Derived.Below
import Derived.Carry
namespace Go.Proofs.YtahgfodccndcjaaGreatEng
open Go

/-- Nothing is made yet. -/
def E0 (W : World) : Env := ⟨W, fun _ _ => none⟩

theorem HRel_empty (P : Program) (W : World) : HRel P (E0 W) H.empty W where
  old := fun _ _ => rfl
  sz := Nat.le_refl _
  os := rfl
  tape := rfl
  out := rfl
  rng := fun _ _ _ h => by simp [E0] at h
  fr := fun _ _ _ h => by simp [E0] at h
  nx := fun x _ => Tr.get_lf x
  st := fun x n b h => by rw [show H.empty.m = .lf from rfl, Tr.get_lf] at h; cases h
  vers := fun _ _ _ _ _ _ _ _ _ _ => rfl
  cel := fun _ _ _ _ _ _ _ _ _ _ _ _ h => by simp [E0] at h
  exs := fun x ty c ver minv fz ex h => by unfold H.get at h; rw [show H.empty.m = .lf from rfl, Tr.get_lf] at h; cases h
  same := fun _ _ _ _ _ h => by simp [E0] at h
  obj := fun _ _ _ _ h => by simp [E0] at h
  dis := fun _ _ _ _ _ _ _ _ _ h => by simp [E0] at h

theorem HRel.below {P : Program} {E : Env} {σ : H} {w W : World} (h : HRel P E σ w) (h0 : E.w0 = W) : RowKit.Below W.heap.size W w := by
  subst h0
  exact ⟨h.os, h.tape, h.out, h.sz, h.old⟩

section
variable {P : Program} {G : Nat → Option V}

/-- A run of the machine that returns: the call returns. -/
theorem calls_of_run (hmo : P.follows .mixedOrders = true) {W : World} (hG : GOk G W) {T : Tab} (hT : ∀ f c, T.code f = some c → codeOf P G f = some c) (hI : ∀ f g, T.intr f = some g → IntrOk P W f g) {lf m f : Nat} {fn : Func} {body : Code} (hf : P.funcs[f]? = some fn) (hb : fn.body = some body)
    (hname : (fn.name == "runtime.NumGoroutine") = false) {args : List V} {cargs : Array Value} (hargs : VRL (E0 W) args cargs.toList) {v : V} {σ' : H} (hr : call T lf m f args H.empty = .ret v σ') :
    Calls P f cargs W fun e W' => ∃ cv E', e = .returned cv ∧ VR E' v cv ∧ HRel P E' σ' W' ∧ E'.w0 = W := by
  have h := call_sound hmo hG hT hI lf m f args H.empty (E0 W) W cargs rfl (HRel_empty P W) hargs
  rw [hr] at h
  obtain ⟨nx, w1, h1, h2⟩ := h
  rw [callFunc_run hf hb (by rw [hname]; decide) cargs W] at h1
  simp only [Result.ok.injEq] at h1
  obtain ⟨rfl, rfl⟩ := h1
  refine Calls.mono h2 ?_
  intro e W' he
  cases e with
  | returned cv =>
    obtain ⟨E', q1, q2, q3⟩ := he
    exact ⟨cv, E', rfl, q1, q2, q3.le.1⟩
  | panicked ch => obtain ⟨_, _, h⟩ := he; exact h.elim
  | outgrown => exact he.elim
end
end Go.Proofs.YtahgfodccndcjaaGreatEng
