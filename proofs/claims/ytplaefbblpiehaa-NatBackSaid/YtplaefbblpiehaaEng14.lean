/- The engine, part 14: operations that make memory. -/
import Derived.Test.YtplaefbblpiehaaEng13
namespace Go.Proofs.YtplaefbblpiehaaEng
open Go
section
variable {P : Program} {G : Nat → Option V} {E : Env} {τ : Tr V} {ρ : Operand → Value} {w : World}

def DoesA (P : Program) (E : Env) (w : World) (ρ : Operand → Value) (o : Oper) (k : AK) (b : Blk) : Prop :=
  ∃ cv ob p, (execOp ρ o).run P w = .ok (.value cv) (World.push w ob) ∧ p.blk = w.heap.size ∧ Fresh P E ob p b ∧ ∀ E' x, E'.pl x 0 = some p → VR E' (k.val x) cv

theorem VR_ptr0 {E' : Env} {x : Pos} {p : Place} (hp : E'.pl x 0 = some p) (hl : p.lo = 0) : VR E' (.ptr x 0 0) (.pointer (some ⟨p.blk, 0, none⟩)) := by
  have := VR.ptr (E := E') x 0 0 p hp (by omega)
  simpa [Place.addr, hl] using this

theorem fresh_cells {ty n : Nat} (hn : szOf P ty = some n) {c : List V} {C : Array Value} (hc : VRL E c C.toList) (b : Nat) :
    Fresh P E (.cells C ty) ⟨b, 0, C.size, n⟩ (.cells ty c 0 0 (some 0) []) := by
  refine ⟨rfl, rfl, rfl, rfl, hn, C, _, rfl, .inr rfl, rfl, by have := hc.1; simp at this; simp [this], fun i v hv => ?_⟩
  obtain ⟨cv, h1, h2⟩ := hc.get hv
  exact ⟨cv, by simpa using h1, h2⟩

theorem zcOf_sz {t : TypeId} {z : List V} (h : zcOf P t = some z) : ∃ n, szOf P t = some n := by
  unfold zcOf zeroOf at h
  simp only [Option.map_eq_some_iff] at h
  obtain ⟨v, hv, rfl⟩ := h
  split at hv
  · rename_i i hi; exact ⟨i.size, by simp [szOf, hi]⟩
  · simp at hv

theorem does_alloc {o : Oper} {t : TypeId} (ho : o.op = .alloc t) {z : List V} (hz : zcOf P t = some z) {k : AK} {b : Blk} (hv : (AOp.alloc t z).ev τ = some (k, b)) : DoesA P E w ρ o k b := by
  simp [AOp.ev] at hv
  obtain ⟨rfl, rfl⟩ := hv
  obtain ⟨zv, h1, h2⟩ := zcOf_run (E := E) hz w
  obtain ⟨n, hn⟩ := zcOf_sz hz
  refine ⟨.pointer (some ⟨w.heap.size, 0, none⟩), .cells zv.cells t, ⟨w.heap.size, 0, zv.cells.size, n⟩, ?_, rfl, fresh_cells hn h2 _, fun E' x hp => VR_ptr0 hp rfl⟩
  simp [execOp, ho, Instr.alloc, h1, newVar, newRow, World.push]

theorem does_box {o : Oper} {t : TypeId} {x : Operand} (ho : o.op = .box t x) {n : Nat} (hn : szOf P t = some n) {a : Arg} (ha : cArg G x = some a) (hO : OR G E τ ρ o.op.operands.toList) {k : AK} {b : Blk}
    (hv : (AOp.box t a).ev τ = some (k, b)) : DoesA P E w ρ o k b := by
  rw [ho] at hO
  simp only [AOp.ev] at hv
  split at hv
  · rename_i v hu
    simp at hv
    obtain ⟨rfl, rfl⟩ := hv
    have hx := hO.one (x := x) (by simp [Op.operands]) ha hu
    refine ⟨.pointer (some ⟨w.heap.size, 0, none⟩), .cells (ρ x).cells t, ⟨w.heap.size, 0, (ρ x).cells.size, n⟩, ?_, rfl, fresh_cells hn hx.cells _, fun E' x hp => VR_ptr0 hp rfl⟩
    simp [execOp, ho, Instr.box, newVar, newRow, World.push]
  · simp at hv

/- zero elements in a row -/
theorem repl_length (z : List V) : ∀ n, (repl z n).length = n * z.length
  | 0 => by simp [repl]
  | n + 1 => by simp [repl, repl_length z n, Nat.add_mul]; omega
theorem repl_get {z : List V} (hz : 0 < z.length) : ∀ n i, i < n * z.length → (repl z n)[i]? = z[i % z.length]?
  | 0, i, h => by simp at h
  | n + 1, i, h => by
    simp only [repl]
    by_cases hi : i < z.length
    · rw [List.getElem?_append_left hi, Nat.mod_eq_of_lt hi]
    · rw [List.getElem?_append_right (by omega), repl_get hz n (i - z.length) (by rw [Nat.add_mul] at h; omega), Nat.mod_eq_sub_mod (by omega : i ≥ z.length)]
theorem repl_rel {z : List V} {Z : Array Value} (hz : VRL E z Z.toList) (n : Nat) : VRL E (repl z n) ((Array.range (n * z.length)).map (Z[· % Z.size]!)).toList := by
  have hlen : z.length = Z.size := by have := hz.1; simpa using this
  refine ⟨by simp [repl_length], fun i v cv h1 h2 => ?_⟩
  have hi : i < n * z.length := by
    rcases Nat.lt_or_ge i (repl z n).length with h | h
    · rw [repl_length] at h; exact h
    · simp [List.getElem?_eq_none h] at h1
  have hz0 : 0 < z.length := Nat.pos_of_ne_zero fun h0 => by rw [h0] at hi; simp at hi
  rw [repl_get hz0 n i hi] at h1
  obtain ⟨cv', h3, h4⟩ := hz.get h1
  have hm : i % Z.size < Z.size := Nat.mod_lt _ (by omega)
  simp [hi] at h2
  rw [hlen] at h3
  simp [hm] at h3
  have : Z[i % Z.size]! = Z[i % Z.size] := getElem!_pos Z _ hm
  rw [this, h3] at h2
  exact h2 ▸ h4

theorem range_zero_cells (n s : Nat) (h : n * s = 0) (f : Nat → Value) : (Array.range (n * s)).map f = #[] := by rw [h]; simp

theorem does_bslice {o : Oper} {t e n : TypeId} {ps : Array (Nat × Operand)} (ho : o.op = .buildSlice t n ps) (ht : P.underlying t = some (.slice e)) {s : Nat} (hs : szOf P e = some s) {z : List V} (hz : zcOf P e = some z) (hsm : n * s ≤ 2 ^ 24) (hzl : z.length = s)
    {as : List (Nat × Nat × Arg)} (hp : cParts G (fun i => some (i * s, s)) ps.toList = some as) (hO : OR G E τ ρ o.op.operands.toList) {k : AK} {b : Blk} (hv : (AOp.bslice e n (repl z n) as).ev τ = some (k, b)) : DoesA P E w ρ o k b := by
  rw [ho] at hO
  have hO' : ∀ x ∈ ps.toList.map (·.2), ∀ a, cArg G x = some a → ∀ v, a.ev τ = some v → VR E v (ρ x) := fun x hx => hO x (by simpa [Op.operands] using hx)
  simp only [AOp.ev] at hv
  split at hv
  · rename_i l hl
    split at hv
    · rename_i c hc
      simp at hv
      obtain ⟨rfl, rfl⟩ := hv
      obtain ⟨zv, hzr, hzc⟩ := zcOf_run (E := E) hz w
      have hrel := repl_rel hzc n
      rw [hzl] at hrel
      obtain ⟨C, h1, h2⟩ := fill_rel (E := E) (Z := (Array.range (n * s)).map (zv.cells[· % zv.cells.size]!)) (fun i => some (i * s, s)) (evParts_rel hp hl hO') hrel hc
      refine ⟨.slice (some ⟨w.heap.size, 0, none⟩) n n, .cells C e, ⟨w.heap.size, 0, C.size, s⟩, ?_, rfl, fresh_cells hs h2 _, fun E' x hp => ?_⟩
      · have hle : ¬ (n * s > 2 ^ 24) := Nat.not_lt.mpr hsm
        simp only [execOp, ho, Instr.buildSlice, Sem.run_bind, run_underlying ht, Result.andThen_ok, run_sizeOf' hs, if_neg hle, Array.toList_map]
        by_cases h0 : n * s = 0
        · rw [if_pos h0]
          simp only [Sem.run_bind, Sem.run_pure, Result.andThen_ok]
          rw [range_zero_cells n s h0] at h1 ⊢
          rw [h1]
          simp [newRow, World.push]
        · rw [if_neg h0]
          simp only [Sem.run_bind, hzr, Sem.run_pure, Result.andThen_ok]
          rw [h1]
          simp [newRow, World.push]
      · exact .sl x 0 0 n (some n) 0 n _ _ hp (Nat.zero_le _) (Nat.le_refl _) (.inr (by simp [Place.addr])) rfl
    · simp at hv
  · simp at hv

theorem does_mkmap {o : Oper} {t : TypeId} (ho : o.op = .makeMap t none) {k : AK} {b : Blk} (hv : (AOp.mkmap).ev τ = some (k, b)) : DoesA P E w ρ o k b := by
  simp [AOp.ev] at hv
  obtain ⟨rfl, rfl⟩ := hv
  refine ⟨.map (some w.heap.size), .map #[] 0, ⟨w.heap.size, 0, 0, 0⟩, ?_, rfl, ⟨rfl, 0, rfl⟩, fun E' x hp => .map x _ hp⟩
  simp [execOp, ho, Instr.makeMap, World.push]

theorem wrap_i64_nat {n : Int} (h0 : 0 ≤ n) (h1 : n < 9223372036854775808) : IntKind.wrap .i64 n = n := by
  simp [IntKind.wrap, IntKind.bits, IntKind.signed]
  omega

theorem does_mksl {o : Oper} {t e : TypeId} {x y : Operand} (ho : o.op = .makeSlice t x y) (ht : P.underlying t = some (.slice e)) {s : Nat} (hs : szOf P e = some s) {eb : Nat} (hb : byOf P e = some eb) {z : List V} (hz : zcOf P e = some z) (hzl : z.length = s)
    {a b : Arg} (ha : cArg G x = some a) (hb' : cArg G y = some b) (hO : OR G E τ ρ o.op.operands.toList) {k : AK} {bl : Blk} (hv : (AOp.mksl e eb z a b).ev τ = some (k, bl)) : DoesA P E w ρ o k bl := by
  rw [ho] at hO
  simp only [AOp.ev] at hv
  split at hv
  · rename_i l hl
    split at hv
    · rename_i c hc
      split at hv
      · rename_i hcond
        obtain ⟨q1, q2, q3, q4⟩ := hcond
        simp at hv
        obtain ⟨rfl, rfl⟩ := hv
        have e1 := (hO.one (x := x) (by simp [Op.operands]) ha hl).int_inv
        have e2 := (hO.one (x := y) (by simp [Op.operands]) hb' hc).int_inv
        obtain ⟨zv, hzr, hzc⟩ := zcOf_run (E := E) hz w
        have hrel := repl_rel hzc c.toNat
        rw [hzl] at hrel
        obtain ⟨inf, hinf, hbb⟩ : ∃ i, P.info? e = some i ∧ i.bytes = eb := by
          unfold byOf at hb; simpa only [Option.map_eq_some_iff] using hb
        have hw1 := wrap_i64_nat q1 (by omega : l < 9223372036854775808)
        have hw2 := wrap_i64_nat (by omega : 0 ≤ c) (by omega : c < 9223372036854775808)
        have hcn : (c.toNat : Int) = c := Int.toNat_of_nonneg (by omega)
        have hbig : ¬ ((inf.bytes : Int) * c > 2 ^ 48) := by
          unfold mostBytes at q3
          have : ((c.toNat * eb : Nat) : Int) ≤ 140737488420864 := by omega
          rw [Int.natCast_mul, hcn] at this
          rw [hbb, Int.mul_comm]
          omega
        let C := (Array.range (c.toNat * s)).map (zv.cells[· % zv.cells.size]!)
        refine ⟨.slice (some ⟨w.heap.size, 0, none⟩) l.toNat c.toNat, .cells C e, ⟨w.heap.size, 0, C.size, s⟩, ?_, rfl, fresh_cells hs hrel _, fun E' x hp => ?_⟩
        · have hty : (typeInfo e).run P w = .ok inf w := by simp [typeInfo, hinf]
          have hcond : ((decide (c < 0) || decide ((inf.bytes : Int) * c > 2 ^ 48)) || decide (l < 0) || decide (l > c)) = false := by
            simp only [Bool.or_eq_false_iff, decide_eq_false_iff_not]
            exact ⟨⟨⟨by omega, hbig⟩, by omega⟩, by omega⟩
          simp only [execOp, ho, Instr.makeSlice, Sem.run_bind, run_underlying ht, Result.andThen_ok, e1, e2, asInt, asIntOf, Sem.run_pure, hty, hw1, hw2]
          rw [if_neg (by rw [hcond]; simp)]
          simp only [Sem.run_bind, run_askRoom, Result.andThen_ok, run_sizeOf' hs]
          by_cases h0 : c.toNat * s = 0
          · rw [if_pos h0]
            simp only [Sem.run_bind, Sem.run_pure, Result.andThen_ok]
            simp only [C]
            rw [range_zero_cells _ _ h0, range_zero_cells _ _ h0]
            simp [newRow, World.push]
          · rw [if_neg h0]
            simp only [Sem.run_bind, hzr, Sem.run_pure, Result.andThen_ok]
            simp [newRow, World.push, C]
        · exact .sl x 0 0 _ (some _) 0 _ _ _ hp (Nat.zero_le _) (by omega) (.inr (by simp [Place.addr])) rfl
      · simp at hv
    · simp at hv
  · simp at hv

theorem does_range {o : Oper} {t : TypeId} {x : Operand} (ho : o.op = .range t x) (ht : P.underlying t = some .string) {a : Arg} (ha : cArg G x = some a) (hO : OR G E τ ρ o.op.operands.toList) {k : AK} {b : Blk}
    (hv : (AOp.range a).ev τ = some (k, b)) : DoesA P E w ρ o k b := by
  rw [ho] at hO
  simp only [AOp.ev] at hv
  split at hv
  · rename_i l hu
    simp at hv
    obtain ⟨rfl, rfl⟩ := hv
    obtain ⟨s, hs, rfl⟩ := (hO.one (x := x) (by simp [Op.operands]) ha hu).str_inv
    refine ⟨.pointer (some ⟨w.heap.size, 0, none⟩), .stringIter s 0, ⟨w.heap.size, 0, 0, 0⟩, ?_, rfl, ⟨s, rfl, rfl⟩, fun E' x hp => .it x _ hp⟩
    simp [execOp, ho, Instr.range, run_underlying ht, hs, World.push]
  · simp at hv

end
end Go.Proofs.YtplaefbblpiehaaEng
