/- The engine, part 35: strings.Repeat by its contract. -/
import Derived.Test.YtahgfodccndcjaaGreatEng33
import Derived.Shelf.Strings.Repeat
namespace Go.Proofs.YtahgfodccndcjaaGreatEng
open Go Go.Shelf

/-- so many copies -/
def repN (l : List Nat) : Nat → List Nat
  | 0 => []
  | c + 1 => l ++ repN l c
def iRepeat : List V → H → CR
  | [.str l, .int .i64 n], σ => if 0 ≤ n ∧ n ≤ 9223372036854775807 ∧ l.length * n.toNat ≤ 140737488355328 then .ret (.str (repN l n.toNat)) σ else .bad
  | _, _ => .bad

theorem repN_eq (s : List UInt8) : ∀ c, repN (s.map (·.toNat)) c = (Lib.repeatL s c).map (·.toNat)
  | 0 => by simp [repN, Lib.repeatL]
  | c + 1 => by
    have ih := repN_eq s c
    simp only [repN, ih]
    simp [Lib.repeatL, List.replicate_succ]

theorem iRepeat_ok {P : Program} {w0 : World} {ρ : Ren} (L : Lays.n105 P ρ) (X : Builder.Extra P ρ) {fn : Func} {body : Code} (hf : P.funcs[ρ.f 105]? = some fn) (hb : fn.body = some body) (hname : (fn.name == "runtime.NumGoroutine") = false) :
    IntrOk P w0 (ρ.f 105) iRepeat := by
  intro args σ E w cargs h0 h hargs
  generalize hr : iRepeat args σ = r
  unfold iRepeat at hr
  split at hr
  · rename_i _ l n
    split at hr
    · rename_i hc
      subst hr
      obtain ⟨a1, r1, e1, h1, hr1⟩ := hargs.cons_left
      obtain ⟨a2, r2, rfl, h2, hr2⟩ := hr1.cons_left
      have := hr2.nil_left; subst this
      obtain ⟨s, rfl, rfl⟩ := h1.str_inv
      rw [h2.int_inv] at e1
      have hn : ((n.toNat : Nat) : Int) = n := Int.toNat_of_nonneg hc.1
      have hcc : cargs = #[.string s, .int .i64 (n.toNat : Nat)] := by
        rw [hn]
        apply Array.ext'
        exact e1
      subst hcc
      have hsz : s.size * n.toNat ≤ 140737488355328 := by simpa using hc.2.2
      refine ⟨.enter _ _, w, callFunc_run hf hb (by rw [hname]; decide) _ w, (Any.strings_Repeat L X s n.toNat w (by omega) hsz).mono ?_⟩
      rintro e w' ⟨rfl, hbl⟩
      obtain ⟨h1, h2⟩ := h.later hbl
      refine ⟨E, ?_, h1, h2⟩
      rw [repN_eq]
      have := VR.str (E := E) ⟨(Lib.repeatL s.data.toList n.toNat).toArray⟩
      simpa using this
    · subst hr; trivial
  · subst hr; trivial
end Go.Proofs.YtahgfodccndcjaaGreatEng
