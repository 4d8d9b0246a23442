/- The engine, part 29: functions without a body. -/
import Derived.Test.YtahgfodccndcjaaGreatEng28
import Derived.Laws.Externs
import Derived.Lib.Bytealg
import Derived.Room.MakeNoZero
namespace Go.Proofs.YtahgfodccndcjaaGreatEng
open Go

/-- where the byte is, from place i on -/
def ixN : List Nat → Nat → Nat → Int
  | [], _, _ => -1
  | b :: r, c, i => if Nat.beq b c then i else ixN r c (i + 1)
def cntN : List Nat → Nat → Nat → Nat
  | [], _, n => n
  | b :: r, c, n => cntN r c (if Nat.beq b c then n + 1 else n)

def iAdd64 : List V → H → CR
  | [.int .u64 x, .int .u64 y, .int .u64 c], σ => if 0 ≤ x ∧ 0 ≤ y ∧ 0 ≤ c ∧ c ≤ 1 then .ret (.tup [.int .u64 ((x + y + c) % 18446744073709551616), .int .u64 ((x + y + c) / 18446744073709551616)]) σ else .bad
  | _, _ => .bad
def iIxb : List V → H → CR
  | [.str l, .int .u8 c], σ => if 0 ≤ c ∧ c < 256 then .ret (.int .i64 (ixN l c.toNat 0)) σ else .bad
  | _, _ => .bad
def iCnt : List V → H → CR
  | [.str l, .int .u8 c], σ => if 0 ≤ c ∧ c < 256 then .ret (.int .i64 (cntN l c.toNat 0 : Nat)) σ else .bad
  | _, _ => .bad
def iSame : List V → H → CR
  | [a], σ => .ret a σ
  | _, _ => .bad
def iMkNZ (ty : Nat) : List V → H → CR
  | [.int .i64 n], σ => if 0 ≤ n ∧ n < 1099511627776 then .ret (.sl σ.nx 0 0 n.toNat none 1) (σ.new (.cells ty (repl [.any] n.toNat) 0 0 (some 0) [])) else .bad
  | _, _ => .bad

section
variable {P : Program} {w0 : World} {f : Nat} {fn : Func}

theorem intr_value {e : Array Value → Sem Value} (hf : P.funcs[f]? = some fn) (hname : (fn.name == "runtime.NumGoroutine") = false) (hb : fn.body.isNone = true) (hn : Extern.findNext fn = none) (he : Extern.find fn = some e) {g : List V → H → CR}
    (hg : ∀ args σ E w (cargs : Array Value), HRel P E σ w → VRL E args cargs.toList → match g args σ with
      | .bad => True
      | .ret v σ' => ∃ cv w' E', (e cargs).run P w = .ok cv w' ∧ VR E' v cv ∧ HRel P E' σ' w' ∧ Ext E σ w E' σ' w'
      | .pan _ _ => False) : IntrOk P w0 f g := by
  intro args σ E w cargs _ h hargs
  have := hg args σ E w cargs h hargs
  cases hr : g args σ with
  | bad => trivial
  | ret v σ' =>
    rw [hr] at this
    obtain ⟨cv, w', E', h1, h2⟩ := this
    refine ⟨.value cv, w', ?_, E', h2⟩
    rw [run_callFunc_extern hf hname hb hn he, h1]; rfl
  | pan v σ' => rw [hr] at this; exact this.elim

theorem arr3 {α : Type} {a : Array α} {x y z : α} (h : a.toList = [x, y, z]) : a = #[x, y, z] := by apply Array.ext'; simpa using h

theorem iAdd64_ok (hf : P.funcs[f]? = some fn) (hname : (fn.name == "runtime.NumGoroutine") = false) (hb : fn.body.isNone = true) (hn : Extern.findNext fn = none) (he : Extern.find fn = some add64Entry) : IntrOk P w0 f iAdd64 := by
  refine intr_value hf hname hb hn he fun args σ E w cargs h hargs => ?_
  generalize hr : iAdd64 args σ = r
  unfold iAdd64 at hr
  split at hr
  · rename_i _ x y c
    split at hr
    · rename_i hc
      subst hr
      obtain ⟨a1, r1, e1, h1, hr1⟩ := hargs.cons_left
      obtain ⟨a2, r2, rfl, h2, hr2⟩ := hr1.cons_left
      obtain ⟨a3, r3, rfl, h3, hr3⟩ := hr2.cons_left
      have := hr3.nil_left; subst this
      rw [arr3 e1, h1.int_inv, h2.int_inv, h3.int_inv]
      exact ⟨_, w, E, run_add64 x y c hc.1 hc.2.1 hc.2.2.1 hc.2.2.2 w, .mk_tup (.cons (.int _ _) (.cons (.int _ _) .nil)), h, .refl _ _ _⟩
    · subst hr; trivial
  · subst hr; trivial

theorem beq_byte (b : UInt8) (c : Nat) (hc : c < 256) : (b == c.toUInt8) = Nat.beq b.toNat c := by
  rw [Bool.eq_iff_iff]
  simp only [beq_iff_eq, Nat.beq_eq]
  constructor
  · rintro rfl; simp; omega
  · intro e; rw [← e]; simp
theorem ixN_eq (l : List UInt8) (c : Nat) (hc : c < 256) : ∀ i : Nat, ixN (l.map (·.toNat)) c i = if Lib.indexByte l c.toUInt8 = -1 then -1 else Lib.indexByte l c.toUInt8 + i := by
  have hb : ∀ b : UInt8, (b == c.toUInt8) = Nat.beq b.toNat c := fun b => beq_byte b c hc
  induction l with
  | nil => intro i; rfl
  | cons b l ih =>
    intro i
    simp only [List.map_cons, ixN, Lib.indexByte, hb]
    cases hbc : Nat.beq b.toNat c with
    | true => simp
    | false =>
      simp only [Bool.false_eq_true, if_false]
      rw [ih (i + 1)]
      have hge := Lib.indexByte_ge l c.toUInt8
      by_cases e : Lib.indexByte l c.toUInt8 = -1
      · simp [e]
      · have e2 : (Lib.indexByte l c.toUInt8 == -1) = false := by simpa using e
        rw [if_neg e, e2]
        simp only [Bool.false_eq_true, if_false]
        rw [if_neg (by omega)]
        simp only [Int.natCast_add, Int.natCast_one]
        omega
theorem cntN_eq (l : List UInt8) (c : Nat) (hc : c < 256) : ∀ n : Nat, cntN (l.map (·.toNat)) c n = n + Lib.countByte l c.toUInt8 := by
  have hb : ∀ b : UInt8, (b == c.toUInt8) = Nat.beq b.toNat c := fun b => beq_byte b c hc
  induction l with
  | nil => intro n; simp [cntN, Lib.countByte]
  | cons b l ih =>
    intro n
    simp only [List.map_cons, cntN]
    rw [ih]
    unfold Lib.countByte
    rw [List.count_cons, hb]
    cases Nat.beq b.toNat c <;> simp; omega

theorem iIxb_ok (hf : P.funcs[f]? = some fn) (hname : (fn.name == "runtime.NumGoroutine") = false) (hb : fn.body.isNone = true) (hn : Extern.findNext fn = none) (he : Extern.find fn = some Extern.BytealgIndexByte.indexByte) : IntrOk P w0 f iIxb := by
  refine intr_value hf hname hb hn he fun args σ E w cargs h hargs => ?_
  generalize hr : iIxb args σ = r
  unfold iIxb at hr
  split at hr
  · rename_i _ l c
    split at hr
    · rename_i hc
      subst hr
      obtain ⟨a1, r1, e1, h1, hr1⟩ := hargs.cons_left
      obtain ⟨a2, r2, rfl, h2, hr2⟩ := hr1.cons_left
      have := hr2.nil_left; subst this
      obtain ⟨s, rfl, rfl⟩ := h1.str_inv
      rw [arr_of_list2 e1, h2.int_inv]
      refine ⟨_, w, E, Lib.run_indexByteString s c w, ?_, h, .refl _ _ _⟩
      rw [ixN_eq _ _ (by omega) 0]
      split
      · rename_i e; rw [e]; exact .int _ _
      · simp only [Int.natCast_zero, Int.add_zero]; exact .int _ _
    · subst hr; trivial
  · subst hr; trivial

theorem iCnt_ok (hf : P.funcs[f]? = some fn) (hname : (fn.name == "runtime.NumGoroutine") = false) (hb : fn.body.isNone = true) (hn : Extern.findNext fn = none) (he : Extern.find fn = some Extern.BytealgCount.count) : IntrOk P w0 f iCnt := by
  refine intr_value hf hname hb hn he fun args σ E w cargs h hargs => ?_
  generalize hr : iCnt args σ = r
  unfold iCnt at hr
  split at hr
  · rename_i _ l c
    split at hr
    · rename_i hc
      subst hr
      obtain ⟨a1, r1, e1, h1, hr1⟩ := hargs.cons_left
      obtain ⟨a2, r2, rfl, h2, hr2⟩ := hr1.cons_left
      have := hr2.nil_left; subst this
      obtain ⟨s, rfl, rfl⟩ := h1.str_inv
      rw [arr_of_list2 e1, h2.int_inv]
      refine ⟨_, w, E, Lib.run_countString s c w, ?_, h, .refl _ _ _⟩
      rw [cntN_eq _ _ (by omega) 0, Nat.zero_add]
      exact .int _ _
    · subst hr; trivial
  · subst hr; trivial

theorem iSame_ok (hf : P.funcs[f]? = some fn) (hname : (fn.name == "runtime.NumGoroutine") = false) (hb : fn.body.isNone = true) (hn : Extern.findNext fn = none) (he : Extern.find fn = some Extern.AbiNoEscape.same) : IntrOk P w0 f iSame := by
  refine intr_value hf hname hb hn he fun args σ E w cargs h hargs => ?_
  generalize hr : iSame args σ = r
  unfold iSame at hr
  split at hr
  · rename_i _ a
    subst hr
    obtain ⟨a1, r1, e1, h1, hr1⟩ := hargs.cons_left
    have := hr1.nil_left; subst this
    rw [arr_of_list1 e1]
    exact ⟨a1, w, E, rfl, h1, h, .refl _ _ _⟩
  · subst hr; trivial

theorem repl_any (n : Nat) : repl [.any] n = List.replicate n V.any := by
  induction n with
  | zero => rfl
  | succ n ih => simp only [repl, ih]; rfl

theorem digits_one : ∀ (n t : Nat) (acc : Array Value), (∀ v ∈ acc, v.oneCell' = true) → ∀ v ∈ Extern.BytealgMakeNoZero.digits n t acc, v.oneCell' = true
  | 0, _, acc, h => h
  | n + 1, t, acc, h => digits_one n _ _ fun v hv => by
    rcases Array.mem_push.1 hv with h' | rfl
    · exact h v h'
    · rfl

theorem run_mkNZ (w : World) (ps : Array TypeId) (t e : TypeId) (ht : P.underlying t = some (.slice e)) (n : Nat) (hn : n ≤ 281474976710656) :
    ∃ cs : Array Value, (Extern.BytealgMakeNoZero.makeNoZero ps #[t] #[.int .i64 n]).run P w = .ok (.slice (some ⟨w.heap.size, 0, none⟩) n cs.size) (w.drew.drew.alloc (.cells cs e)) ∧ n ≤ cs.size ∧ ∀ v ∈ cs, v.oneCell' = true := by
  have h1 : ¬ (n : Int) < 0 := by omega
  have h2 : ¬ (281474976710656 : Int) < (n : Int) := by omega
  have hcap : n ≤ (Question.appendCap n 0 e).cut (w.tape w.drawn (.appendCap n 0 e)) := by simp only [Question.cut]; omega
  generalize hc : (Question.appendCap n 0 e).cut (w.tape w.drawn (.appendCap n 0 e)) = cap at hcap
  generalize hb : (Question.extern "internal/bytealg.MakeNoZero.bytes" 0).cut (w.tape (w.drawn + 1) (.extern "internal/bytealg.MakeNoZero.bytes" 0)) = bytes
  have hsz := Lib.size_digits cap bytes #[]
  have hdef : Extern.BytealgMakeNoZero.makeNoZero ps #[t] #[.int .i64 n] =
      (do
        let .slice elem ← underlying t | stuck "bytealg.MakeNoZero: slice type expected"
        if (n : Int) < 0 || (n : Int) > 2 ^ 48 then runtimePanic (.error "makeslice: len out of range")
        let cap ← choose (.appendCap (n : Int).toNat 0 elem)
        askRoom cap
        let bytes ← choose (.extern "internal/bytealg.MakeNoZero.bytes" 0)
        let a ← newRow elem (Extern.BytealgMakeNoZero.digits cap bytes #[])
        pure (.slice (some a) (n : Int).toNat cap)) := rfl
  have key : (Extern.BytealgMakeNoZero.makeNoZero ps #[t] #[.int .i64 n]).run P w = .ok (.slice (some ⟨w.heap.size, 0, none⟩) n cap) (w.drew.drew.alloc (.cells (Extern.BytealgMakeNoZero.digits cap bytes #[]) e)) := by
    rw [hdef]
    simp [run_underlying ht, h1, h2, Question.forced, newRow, hc, hb]
  refine ⟨Extern.BytealgMakeNoZero.digits cap bytes #[], ?_, ?_, digits_one _ _ _ (by simp)⟩
  · rw [key]; simp at hsz; rw [hsz]
  · simp at hsz; rw [hsz]; exact hcap
theorem iMkNZ_ok (hf : P.funcs[f]? = some fn) (hname : (fn.name == "runtime.NumGoroutine") = false) (hb : fn.body.isNone = true) (hn : Extern.findNext fn = none) {ps : Array TypeId} {t e : TypeId} (he : Extern.find fn = some (Extern.BytealgMakeNoZero.makeNoZero ps #[t]))
    (ht : P.underlying t = some (.slice e)) (hs : szOf P e = some 1) : IntrOk P w0 f (iMkNZ e) := by
  refine intr_value hf hname hb hn he fun args σ E w cargs h hargs => ?_
  generalize hr : iMkNZ e args σ = r
  unfold iMkNZ at hr
  split at hr
  · rename_i _ n
    split at hr
    · rename_i hc
      subst hr
      obtain ⟨a1, r1, e1, h1, hr1⟩ := hargs.cons_left
      have := hr1.nil_left; subst this
      have hcast : ((n.toNat : Nat) : Int) = n := Int.toNat_of_nonneg hc.1
      rw [arr_of_list1 e1, h1.int_inv, ← hcast]
      obtain ⟨cs, q1, q2, hcs⟩ := run_mkNZ (P := P) w ps t e ht n.toNat (by omega)
      have hone : ∀ v ∈ cs, v.oneCell' = true := hcs
      obtain ⟨g1, g2⟩ := (h.drawn w.drew.drew.drawn).alloc (b := .cells e (repl [.any] n.toNat) 0 0 (some 0) []) (o := .cells cs e) (p := ⟨w.heap.size, 0, cs.size, 1⟩) rfl
        ⟨rfl, rfl, rfl, rfl, hs, cs, _, rfl, .inr rfl, rfl, by rw [repl_any, List.length_replicate]; exact q2, fun i v hv => by
          rw [repl_any, List.getElem?_replicate] at hv
          split at hv
          · rename_i hi
            simp at hv; subst hv
            have hlt : i < cs.size := by omega
            exact ⟨cs[i], by simp [hlt], .any _ (hone _ (Array.getElem_mem hlt))⟩
          · simp at hv⟩
      refine ⟨_, _, _, q1, ?_, g1, { le := g2.le, nx := g2.nx, ck := g2.ck, evo := g2.evo, pend := g2.pend, wsz := g2.wsz }⟩
      exact .sl _ _ _ _ none _ cs.size _ _ (Env.put_self _ _ _ _) (Nat.zero_le _) q2 (.inr (by simp [Place.addr])) ⟨rfl, by simp⟩
    · subst hr; trivial
  · subst hr; trivial

end
end Go.Proofs.YtahgfodccndcjaaGreatEng
