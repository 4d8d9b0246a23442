/- The engine, part 33: a closed function, run apart. -/
import Derived.Test.YtahgfodccndcjaaGreatEng30
namespace Go.Proofs.YtahgfodccndcjaaGreatEng
open Go

/-- More memory, the old as it was: what stands for it stands. -/
theorem HRel.later {P : Program} {E : Env} {σ : H} {w w' : World} (h : HRel P E σ w) (hb : RowKit.Below w.heap.size w w') : HRel P E σ w' ∧ Ext E σ w E σ w' := by
  have hp : ∀ x v p, E.pl x v = some p → w'.heap[p.blk]? = w.heap[p.blk]? := fun x v p hp => hb.block _ (h.rng x v p hp).2
  refine ⟨{ old := fun b hlt => (hb.block b (Nat.lt_of_lt_of_le hlt h.sz)).trans (h.old b hlt), sz := Nat.le_trans h.sz hb.size, os := hb.os.trans h.os, tape := hb.tape.trans h.tape, out := hb.output.trans h.out,
            rng := fun x v p hpl => ⟨(h.rng x v p hpl).1, Nat.lt_of_lt_of_le (h.rng x v p hpl).2 hb.size⟩, fr := h.fr, nx := h.nx, st := h.st, vers := h.vers, exs := h.exs, same := h.same, dis := h.dis, cel := ?_, obj := ?_ },
    ⟨.refl E, Nat.le_refl _, Nat.le_refl _, fun _ _ _ h => .inl h, fun _ _ h => ⟨h, rfl⟩, hb.size⟩⟩
  · intro x ty c ver minv fz ex hg v cv p hv hpl
    obtain ⟨h1, h2⟩ := h.cel x ty c ver minv fz ex hg v cv p hv hpl
    refine ⟨?_, fun e => (h2 e).mono (hp x v p hpl)⟩
    unfold PlaceOk at *
    rw [hp x v p hpl]; exact h1
  · intro x b p hg hpl
    have h1 := h.obj x b p hg hpl
    have h2 := hp x 0 p hpl
    cases b with
    | cells => trivial
    | sit => simpa [ObjOk, h2] using h1
    | mp => simpa [ObjOk, h2] using h1

/-- What is given for a function without arguments that answers true. -/
def iTrue : List V → H → CR
  | [], σ => .ret (.bool true) σ
  | _, _ => .bad

theorem closed_ok {P : Program} {G : Nat → Option V} {w0 : World} (hmo : P.follows .mixedOrders = true) (hG : ∀ w : World, (∀ b, b < w0.heap.size → w.heap[b]? = w0.heap[b]?) → GOk G w) {T : Tab} (hT : ∀ f c, T.code f = some c → codeOf P G f = some c)
    (hI : ∀ w : World, (∀ b, b < w0.heap.size → w.heap[b]? = w0.heap[b]?) → ∀ f g, T.intr f = some g → IntrOk P w f g) {lf m f : Nat} {fn : Func} {body : Code} (hf : P.funcs[f]? = some fn) (hb : fn.body = some body) (hname : (fn.name == "runtime.NumGoroutine") = false)
    {σ' : H} (hr : call T lf m f [] H.empty = .ret (.bool true) σ') : IntrOk P w0 f iTrue := by
  intro args σ E w cargs h0 h hargs
  cases args with
  | cons => trivial
  | nil =>
    have hn := hargs.nil_left
    have hc : cargs = #[] := by apply Array.ext'; simpa using hn
    subst hc
    have hold : ∀ b, b < w0.heap.size → w.heap[b]? = w0.heap[b]? := by rw [← h0]; exact h.old
    have hcalls := calls_of_run (P := P) (G := G) hmo (hG w hold) hT (hI w hold) hf hb hname (args := []) (cargs := #[]) .nil hr
    refine ⟨.enter f #[], w, callFunc_run hf hb (by rw [hname]; decide) _ w, hcalls.mono ?_⟩
    rintro e w' ⟨cv, E', rfl, hcv, hrel, hE⟩
    obtain ⟨h1, h2⟩ := h.later (hrel.below hE)
    rw [hcv.bool_inv]
    exact ⟨E, .bool true, h1, h2⟩
end Go.Proofs.YtahgfodccndcjaaGreatEng
