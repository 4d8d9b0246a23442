/- The engine, part 34: math/bits.Sub64. -/
import Derived.Test.YtahgfodccndcjaaGreatEng30
namespace Go.Proofs.YtahgfodccndcjaaGreatEng
open Go

def sub64Entry : Array Value → Sem Value := fun args => do
  let (x, y, b) ← Extern.MathBitsCarry.three "Sub64" args
  pure (Extern.MathBitsCarry.pair ((x + Extern.MathBitsCarry.m64 - y - b) % Extern.MathBitsCarry.m64) (if x < y + b then 1 else 0))

theorem run_sub64 {P : Program} (x y c : Nat) (hc : c ≤ 1) (w : World) :
    (sub64Entry #[.int .u64 x, .int .u64 y, .int .u64 c]).run P w =
      .ok (.tuple #[.int .u64 ((x + 18446744073709551616 - y - c) % 18446744073709551616 : Nat), .int .u64 (if x < y + c then 1 else 0 : Nat)]) w := by
  have : c = 0 ∨ c = 1 := by omega
  rcases this with rfl | rfl <;> rfl

def iSub64 : List V → H → CR
  | [.int .u64 x, .int .u64 y, .int .u64 c], σ => if 0 ≤ x ∧ 0 ≤ y ∧ y < 18446744073709551616 ∧ 0 ≤ c ∧ c ≤ 1 then
      .ret (.tup [.int .u64 ((x.toNat + 18446744073709551616 - y.toNat - c.toNat) % 18446744073709551616 : Nat), .int .u64 (if x.toNat < y.toNat + c.toNat then 1 else 0 : Nat)]) σ else .bad
  | _, _ => .bad
theorem iSub64_ok {P : Program} {w0 : World} {f : Nat} {fn : Func} (hf : P.funcs[f]? = some fn) (hname : (fn.name == "runtime.NumGoroutine") = false) (hb : fn.body.isNone = true) (hn : Extern.findNext fn = none) (he : Extern.find fn = some sub64Entry) : IntrOk P w0 f iSub64 := by
  refine intr_value hf hname hb hn he fun args σ E w cargs h hargs => ?_
  generalize hr : iSub64 args σ = r
  unfold iSub64 at hr
  split at hr
  · rename_i _ x y c
    split at hr
    · rename_i hc
      subst hr
      obtain ⟨a1, r1, e1, h1, hr1⟩ := hargs.cons_left
      obtain ⟨a2, r2, rfl, h2, hr2⟩ := hr1.cons_left
      obtain ⟨a3, r3, rfl, h3, hr3⟩ := hr2.cons_left
      have := hr3.nil_left; subst this
      have hx : ((x.toNat : Nat) : Int) = x := Int.toNat_of_nonneg hc.1
      have hy : ((y.toNat : Nat) : Int) = y := Int.toNat_of_nonneg hc.2.1
      have hcc : ((c.toNat : Nat) : Int) = c := Int.toNat_of_nonneg hc.2.2.2.1
      have hrun := run_sub64 (P := P) x.toNat y.toNat c.toNat (by omega) w
      rw [hx, hy, hcc] at hrun
      rw [arr3 e1, h1.int_inv, h2.int_inv, h3.int_inv]
      exact ⟨_, w, E, hrun, .mk_tup (.cons (.int _ _) (.cons (.int _ _) .nil)), h, .refl _ _ _⟩
    · subst hr; trivial
  · subst hr; trivial
end Go.Proofs.YtahgfodccndcjaaGreatEng
