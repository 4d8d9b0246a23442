/- The engine, part 9: the other operations that look at no memory. -/
import Derived.Test.YtplaefbblpiehaaEng8
namespace Go.Proofs.YtplaefbblpiehaaEng
open Go
section
variable {P : Program} {G : Nat → Option V} {E : Env} {τ : Tr V} {ρ : Operand → Value}

theorem does_un {o : Oper} {op : UnOp} {t : TypeId} {x : Operand} (ho : o.op = .unOp op t x) {a : Arg} (ha : cArg G x = some a) (hO : OR G E τ ρ o.op.operands.toList) {v : V}
    (hv : (POp.un op a).ev τ = some v) (w : World) : Does P E w ρ o v := by
  rw [ho] at hO
  refine Gives.does (s := Op.unary op (ρ x)) ?_ (by simp [execOp, ho])
  simp only [POp.ev] at hv
  split at hv
  · rename_i u hu
    have hx := hO.one (x := x) (by simp [Op.operands]) ha hu
    unfold vun at hv
    split at hv
    · rename_i k n; rw [hx.int_inv]; obtain rfl := Option.some.inj hv; exact ⟨_, rfl, .int _ _⟩
    · rename_i k n; rw [hx.int_inv]; obtain rfl := Option.some.inj hv; exact ⟨_, rfl, .int _ _⟩
    · rename_i b; rw [hx.bool_inv]; simp at hv; subst hv; exact ⟨_, rfl, .bool _⟩
    · simp at hv
  · simp at hv

theorem does_cii {o : Oper} {s d : TypeId} {x : Operand} (ho : o.op = .convert s d x) {k0 k : IntKind} (hs : P.underlying s = some (.int k0)) (hd : P.underlying d = some (.int k)) {a : Arg} (ha : cArg G x = some a)
    (hO : OR G E τ ρ o.op.operands.toList) {v : V} (hv : (POp.cii k a).ev τ = some v) (w : World) : Does P E w ρ o v := by
  rw [ho] at hO
  refine Gives.does (s := convert s d (ρ x)) ?_ (by simp [execOp, ho])
  simp only [POp.ev] at hv
  split at hv
  · rename_i k1 n hu
    rw [(hO.one (x := x) (by simp [Op.operands]) ha hu).int_inv]
    simp at hv; subst hv
    exact ⟨.int k (k.wrap n), by simp [convert, run_underlying hs, run_underlying hd, Conv.intToInt], .int _ _⟩
  · simp at hv
theorem does_css {o : Oper} {s d : TypeId} {x : Operand} (ho : o.op = .convert s d x) (hs : P.underlying s = some .string) (hd : P.underlying d = some .string) {a : Arg} (ha : cArg G x = some a)
    (hO : OR G E τ ρ o.op.operands.toList) {v : V} (hv : (POp.css a).ev τ = some v) (w : World) : Does P E w ρ o v := by
  rw [ho] at hO
  refine Gives.does (s := convert s d (ρ x)) ?_ (by simp [execOp, ho])
  simp only [POp.ev] at hv
  split at hv
  · rename_i l hu
    obtain ⟨b, hb, rfl⟩ := (hO.one (x := x) (by simp [Op.operands]) ha hu).str_inv
    rw [hb]
    simp at hv; subst hv
    exact ⟨.string b, by simp [convert, run_underlying hs, run_underlying hd], .str _⟩
  · simp at hv
theorem does_cis {o : Oper} {s d : TypeId} {x : Operand} (ho : o.op = .convert s d x) {k0 : IntKind} (hs : P.underlying s = some (.int k0)) (hd : P.underlying d = some .string) {a : Arg} (ha : cArg G x = some a)
    (hO : OR G E τ ρ o.op.operands.toList) {v : V} (hv : (POp.cis a).ev τ = some v) (w : World) : Does P E w ρ o v := by
  rw [ho] at hO
  refine Gives.does (s := convert s d (ρ x)) ?_ (by simp [execOp, ho])
  simp only [POp.ev] at hv
  split at hv
  · rename_i k1 n hu
    rw [(hO.one (x := x) (by simp [Op.operands]) ha hu).int_inv]
    simp at hv; subst hv
    exact ⟨.string (Utf8.encode n), by simp [convert, run_underlying hs, run_underlying hd, Conv.intToString], .str _⟩
  · simp at hv

theorem does_mkif {o : Oper} {t : TypeId} {x : Operand} (ho : o.op = .makeInterface t x) {d : TypeDesc} (ht : P.underlying t = some d) (hd : ∀ ms, d ≠ .interface ms) {a : Arg} (ha : cArg G x = some a)
    (hO : OR G E τ ρ o.op.operands.toList) {v : V} (hv : (POp.mkif t a).ev τ = some v) (w : World) : Does P E w ρ o v := by
  rw [ho] at hO
  refine Gives.does (s := Instr.makeInterface t (ρ x)) ?_ (by simp [execOp, ho])
  simp only [POp.ev] at hv
  split at hv
  · rename_i u hu
    have hx := hO.one (x := x) (by simp [Op.operands]) ha hu
    simp at hv; subst hv
    refine ⟨.iface t (ρ x), ?_, .iface _ _ _ hx⟩
    simp only [Instr.makeInterface, Sem.run_bind, run_underlying ht, Result.andThen_ok]
    cases d <;> first | rfl | exact (hd _ rfl).elim
  · simp at hv

theorem does_mkfn {o : Oper} {f : FuncId} {x y : Array Operand} (ho : o.op = .makeFunc (.func f) x y) {a b : List Arg} (ha : cArgs G x.toList = some a) (hb : cArgs G y.toList = some b)
    (hO : OR G E τ ρ o.op.operands.toList) {v : V} (hv : (POp.mkfn f a b).ev τ = some v) (w : World) : Does P E w ρ o v := by
  rw [ho] at hO
  refine Gives.does (s := Instr.makeFunc (.func f) (x.map ρ) (y.map ρ)) ?_ (by simp [execOp, ho])
  simp only [POp.ev] at hv
  split at hv
  · rename_i l hl
    split at hv
    · rename_i l' hl'
      simp at hv; subst hv
      have h1 := (hO.sub (ys := x.toList) fun z hz => by simp [Op.operands]; exact .inl (by simpa using hz)).list ha hl
      have h2 := (hO.sub (ys := y.toList) fun z hz => by simp [Op.operands]; exact .inr (by simpa using hz)).list hb hl'
      refine ⟨.func (.func f) (x.map ρ) (y.map ρ), rfl, .fn _ _ _ _ _ (by simpa using h1.1) (by simpa using h2.1) (fun i v cv e1 e2 => h1.2 i v cv e1 (by simpa using e2)) (fun i v cv e1 e2 => h2.2 i v cv e1 (by simpa using e2))⟩
    · simp at hv
  · simp at hv

theorem does_nilck {o : Oper} {x : Operand} (ho : o.op = .nilCheck x) {a : Arg} (ha : cArg G x = some a) (hO : OR G E τ ρ o.op.operands.toList) {v : V} (hv : (POp.nilck a).ev τ = some v) (w : World) : Does P E w ρ o v := by
  rw [ho] at hO
  have key : ∀ u, a.ev τ = some u → VR E u (ρ x) := fun u hu => hO.one (x := x) (by simp [Op.operands]) ha hu
  simp only [POp.ev] at hv
  split at hv <;> (try simp at hv) <;> subst hv
  · rename_i b k c hu
    refine ⟨ρ x, ?_, key _ hu⟩
    have := key _ hu
    simp only [execOp, ho]
    generalize ρ x = c' at this ⊢
    cases this; rfl
  · rename_i b k hu
    refine ⟨ρ x, ?_, key _ hu⟩
    have := key _ hu
    simp only [execOp, ho]
    generalize ρ x = c' at this ⊢
    cases this; rfl
  · rename_i f l l' hu
    refine ⟨ρ x, ?_, key _ hu⟩
    have := key _ hu
    simp only [execOp, ho]
    generalize ρ x = c' at this ⊢
    cases this; rfl
  · rename_i t u hu
    refine ⟨ρ x, ?_, key _ hu⟩
    have := key _ hu
    simp only [execOp, ho]
    generalize ρ x = c' at this ⊢
    cases this; rfl

theorem does_faddr {o : Oper} {s : TypeId} {x : Operand} {f : Nat} (ho : o.op = .fieldAddr s x f) {fs : Array Field} (hs : P.underlying s = some (.struct fs)) {fd : Field} (hf : fs[f]? = some fd) {n : Nat} (hn : szOf P fd.type = some (n + 1))
    {a : Arg} (ha : cArg G x = some a) (hO : OR G E τ ρ o.op.operands.toList) {v : V} (hv : (POp.faddr fd.offset a).ev τ = some v) (w : World) : Does P E w ρ o v := by
  rw [ho] at hO
  refine Gives.does (s := Instr.fieldAt s (ρ x) f) ?_ (by simp [execOp, ho])
  have run : ∀ ad : Addr, (Instr.fieldAt s (.pointer (some ad)) f).run P w = .ok (.pointer (some (ad.add fd.offset))) w := by
    intro ad
    simp [Instr.fieldAt, run_underlying hs, hf, Instr.sureAddr, fieldPlace, run_sizeOf' hn]
  simp only [POp.ev] at hv
  split at hv
  · rename_i y u k hu
    have hx := hO.one (x := x) (by simp [Op.operands]) ha hu
    simp at hv; subst hv
    generalize ρ x = c at hx
    cases hx with
    | ptr _ _ _ p hp hl =>
      refine ⟨_, run _, ?_⟩
      rw [Place.addr_add p _ hl]
      exact .ptr _ _ _ p hp (by omega)
  · rename_i l k hu
    have hx := hO.one (x := x) (by simp [Op.operands]) ha hu
    simp at hv; subst hv
    generalize ρ x = c at hx
    cases hx with
    | rop _ _ b k0 g hb hc hvv =>
      refine ⟨_, run _, ?_⟩
      rw [add_mk, Nat.add_assoc]
      exact .rop _ _ b k0 g hb hc hvv
  · simp at hv

theorem does_iaddr {o : Oper} {t : TypeId} {x i : Operand} (ho : o.op = .indexAddr t x i) {e : TypeId} (ht : P.underlying t = some (.slice e)) {s : Nat} (hs : szOf P e = some s) {a b : Arg} (ha : cArg G x = some a) (hb : cArg G i = some b)
    (hO : OR G E τ ρ o.op.operands.toList) {v : V} (hv : (POp.iaddr s a b).ev τ = some v) (w : World) : Does P E w ρ o v := by
  rw [ho] at hO
  refine Gives.does (s := Instr.indexAt t (ρ x) (ρ i)) ?_ (by simp [execOp, ho])
  simp only [POp.ev] at hv
  split at hv
  · rename_i u hu
    split at hv
    · rename_i k n hn
      have hx := hO.one (x := x) (by simp [Op.operands]) ha hu
      rw [(hO.one (x := i) (by simp [Op.operands]) hb hn).int_inv]
      have run : ∀ (ad : Addr) (len cap : Nat), 0 ≤ n ∧ n < len → (Instr.indexAt t (.slice (some ad) len cap) (.int k n)).run P w = .ok (.pointer (some (ad.add (n.toNat * s)))) w := by
        intro ad len cap hlt
        simp [Instr.indexAt, asIntOf, run_underlying ht, hlt, run_sizeOf' hs]
      unfold elemAt at hv
      split at hv
      · rename_i y vv oo len cap es
        split at hv
        · rename_i hlt
          simp at hv; subst hv
          generalize ρ x = c at hx
          cases hx with
          | sl _ _ _ _ _ _ ccap p ad hp hl hlen had hc =>
            refine ⟨_, run _ _ _ hlt, ?_⟩
            have : ad = p.addr oo := had.resolve_left (by omega)
            rw [this, Place.addr_add p _ hl]
            exact .ptr _ _ _ p hp (by omega)
        · simp at hv
      · rename_i l oo len cap
        split at hv
        · rename_i hlt
          simp at hv; subst hv
          generalize ρ x = c at hx
          cases hx with
          | ros _ _ _ _ bb k0 g ad hbb hlen had hc hvv =>
            refine ⟨_, run _ _ _ hlt, ?_⟩
            have : ad = ⟨bb, k0 + oo, none⟩ := had.resolve_left (by omega)
            rw [this, add_mk, Nat.add_assoc]
            exact .rop _ _ bb k0 g hbb hc hvv
        · simp at hv
      · simp at hv
    · simp at hv
  · simp at hv

theorem does_iarr {o : Oper} {t : TypeId} {x i : Operand} (ho : o.op = .indexAddr t x i) {e : TypeId} {len : Nat} (ht : P.underlying t = some (.array len e)) {s : Nat} (hs : szOf P e = some s) {a b : Arg} (ha : cArg G x = some a) (hb : cArg G i = some b)
    (hO : OR G E τ ρ o.op.operands.toList) {v : V} (hv : (POp.iarr len s a b).ev τ = some v) (w : World) : Does P E w ρ o v := by
  rw [ho] at hO
  refine Gives.does (s := Instr.indexAt t (ρ x) (ρ i)) ?_ (by simp [execOp, ho])
  simp only [POp.ev] at hv
  split at hv
  · rename_i u hu
    split at hv
    · rename_i k n hn
      have hx := hO.one (x := x) (by simp [Op.operands]) ha hu
      rw [(hO.one (x := i) (by simp [Op.operands]) hb hn).int_inv]
      split at hv
      · rename_i hlt
        have run : ∀ (ad : Addr), (Instr.indexAt t (.pointer (some ad)) (.int k n)).run P w = .ok (.pointer (some (ad.add (n.toNat * s)))) w := by
          intro ad
          simp [Instr.indexAt, asIntOf, run_underlying ht, hlt, run_sizeOf' hs, Instr.sureAddr]
        split at hv
        · simp at hv; subst hv
          generalize ρ x = c at hx
          cases hx with
          | ptr _ _ _ p hp hl =>
            refine ⟨_, run _, ?_⟩
            rw [Place.addr_add p _ hl]
            exact .ptr _ _ _ p hp (by omega)
        · simp at hv; subst hv
          generalize ρ x = c at hx
          cases hx with
          | rop _ _ bb k0 g hbb hc hvv =>
            refine ⟨_, run _, ?_⟩
            rw [add_mk, Nat.add_assoc]
            exact .rop _ _ bb k0 g hbb hc hvv
        · simp at hv
      · simp at hv
    · simp at hv
  · simp at hv

theorem does_idxs {o : Oper} {t : TypeId} {x i : Operand} (ho : o.op = .index t x i) (ht : P.underlying t = some .string) {a b : Arg} (ha : cArg G x = some a) (hb : cArg G i = some b)
    (hO : OR G E τ ρ o.op.operands.toList) {v : V} (hv : (POp.idxs a b).ev τ = some v) (w : World) : Does P E w ρ o v := by
  rw [ho] at hO
  refine Gives.does (s := Instr.index t (ρ x) (ρ i)) ?_ (by simp [execOp, ho])
  simp only [POp.ev] at hv
  split at hv
  · rename_i l hu
    split at hv
    · rename_i k n hn
      obtain ⟨s, hs, rfl⟩ := (hO.one (x := x) (by simp [Op.operands]) ha hu).str_inv
      rw [hs, (hO.one (x := i) (by simp [Op.operands]) hb hn).int_inv]
      split at hv
      · rename_i h0
        split at hv
        · rename_i c hc
          simp at hv; subst hv
          simp only [List.getElem?_map, Option.map_eq_some_iff] at hc
          obtain ⟨c', hc', rfl⟩ := hc
          have hget : s[n.toNat]? = some c' := by
            have hlt : n.toNat < s.data.toList.length := by
              rcases Nat.lt_or_ge n.toNat s.data.toList.length with h | h
              · exact h
              · simp [List.getElem?_eq_none h] at hc'
            have hlt' : n.toNat < s.size := by simpa using hlt
            rw [List.getElem?_eq_getElem hlt] at hc'
            simp at hc'
            rw [getElem?_pos s n.toNat hlt']
            exact congrArg some hc'
          refine ⟨.int .u8 c'.toNat, ?_, .int _ _⟩
          simp [Instr.index, asIntOf, run_underlying ht, h0, hget]
        · simp at hv
      · simp at hv
    · simp at hv
  · simp at hv

theorem does_idxa {o : Oper} {t : TypeId} {x i : Operand} (ho : o.op = .index t x i) {e : TypeId} {len : Nat} (ht : P.underlying t = some (.array len e)) {s : Nat} (hs : szOf P e = some s) {ag : Option Nat} (hag : aggOf P e = some ag) {a b : Arg} (ha : cArg G x = some a) (hb : cArg G i = some b)
    (hO : OR G E τ ρ o.op.operands.toList) {v : V} (hv : (POp.idxa len s ag.isSome a b).ev τ = some v) (w : World) : Does P E w ρ o v := by
  rw [ho] at hO
  refine Gives.does (s := Instr.index t (ρ x) (ρ i)) ?_ (by simp [execOp, ho])
  simp only [POp.ev] at hv
  split at hv
  · rename_i l hu
    split at hv
    · rename_i k n hn
      obtain ⟨C, hC, hl⟩ := (hO.one (x := x) (by simp [Op.operands]) ha hu).agg_inv
      rw [hC, (hO.one (x := i) (by simp [Op.operands]) hb hn).int_inv]
      split at hv
      · rename_i hlt
        have hg : Gives P E w (part e C (n.toNat * s)) v := by
          refine give_part hag hl ?_
          cases ag with
          | none => exact hv
          | some m =>
            have := (run_isAgg' hag w).2 m rfl
            rw [hs] at this; simp at this; subst this
            exact hv
        obtain ⟨cv, h1, h2⟩ := hg
        exact ⟨cv, by simp [Instr.index, asIntOf, run_underlying ht, hlt, run_sizeOf' hs, h1], h2⟩
      · simp at hv
    · simp at hv
  · simp at hv

theorem does_field {o : Oper} {t : TypeId} {x : Operand} {f : Nat} (ho : o.op = .field t x f) {fs : Array Field} (ht : P.underlying t = some (.struct fs)) {fd : Field} (hf : fs[f]? = some fd) {ag : Option Nat} (hag : aggOf P fd.type = some ag)
    {a : Arg} (ha : cArg G x = some a) (hO : OR G E τ ρ o.op.operands.toList) {v : V} (hv : (POp.field ag fd.offset a).ev τ = some v) (w : World) : Does P E w ρ o v := by
  rw [ho] at hO
  refine Gives.does (s := Instr.field t (ρ x) f) ?_ (by simp [execOp, ho])
  simp only [POp.ev] at hv
  split at hv
  · rename_i l hu
    obtain ⟨C, hC, hl⟩ := (hO.one (x := x) (by simp [Op.operands]) ha hu).agg_inv
    rw [hC]
    obtain ⟨cv, h1, h2⟩ := give_part (P := P) (w := w) hag hl (v := v) (off := fd.offset) hv
    exact ⟨cv, by simp [Instr.field, run_underlying ht, hf, asAgg, h1], h2⟩
  · simp at hv

theorem does_extract {o : Oper} {x : Operand} {i : Nat} (ho : o.op = .extract x i) {a : Arg} (ha : cArg G x = some a) (hO : OR G E τ ρ o.op.operands.toList) {v : V} (hv : (POp.extract i a).ev τ = some v) (w : World) : Does P E w ρ o v := by
  rw [ho] at hO
  refine Gives.does (s := Instr.extract (ρ x) i) ?_ (by simp [execOp, ho])
  simp only [POp.ev] at hv
  split at hv
  · rename_i l hu
    obtain ⟨C, hC, hl⟩ := (hO.one (x := x) (by simp [Op.operands]) ha hu).tup_inv
    obtain ⟨cv, h1, h2⟩ := hl.get hv
    have h1' : C[i]? = some cv := by simpa using h1
    exact ⟨cv, by simp [hC, Instr.extract, h1'], h2⟩
  · simp at hv

theorem does_tass {o : Oper} {x : Operand} {xt t : TypeId} {ok : Bool} (ho : o.op = .typeAssert x xt t ok) {d : TypeDesc} (ht : P.underlying t = some d) (hd : ∀ ms, d ≠ .interface ms) {z : V} (hz : zeroOf P t = some z) {a : Arg} (ha : cArg G x = some a)
    (hO : OR G E τ ρ o.op.operands.toList) {v : V} (hv : (POp.tass t ok z a).ev τ = some v) (w : World) : Does P E w ρ o v := by
  rw [ho] at hO
  refine Gives.does (s := Instr.typeAssert (ρ x) xt t ok) ?_ (by simp [execOp, ho])
  obtain ⟨i, zv, hi, hzi, hzv⟩ : ∃ i zv, P.info? t = some i ∧ i.zero = some zv ∧ ofVal zv = some z := by
    unfold zeroOf at hz
    split at hz
    · rename_i i hi
      split at hz
      · rename_i zv hzv; exact ⟨i, zv, hi, hzv, hz⟩
      · simp at hz
    · simp at hz
  have hzr : (zeroValue t).run P w = .ok zv w := by simp [zeroValue, typeInfo, hi, hzi]
  simp only [POp.ev] at hv
  have two : ∀ u cu (b : Bool), VR E u cu → VR E (.tup [u, .bool b]) (.tuple #[cu, .bool b]) := fun u cu b h => .mk_tup (.cons h (.cons (.bool b) .nil))
  split at hv
  · rename_i u y hu
    have hx := hO.one (x := x) (by simp [Op.operands]) ha hu
    generalize ρ x = c at hx
    cases hx with
    | iface _ _ cv hy =>
      split at hv
      · rename_i hut; subst hut
        cases ok with
        | true =>
          simp at hv; subst hv
          refine ⟨.tuple #[cv, .bool true], ?_, two _ _ _ hy⟩
          simp only [Instr.typeAssert, Sem.run_bind, run_underlying ht, Result.andThen_ok]
          cases d <;> first | exact (hd _ rfl).elim | simp
        | false =>
          simp at hv; subst hv
          refine ⟨cv, ?_, hy⟩
          simp only [Instr.typeAssert, Sem.run_bind, run_underlying ht, Result.andThen_ok]
          cases d <;> first | exact (hd _ rfl).elim | simp
      · rename_i hut
        cases ok with
        | true =>
          simp at hv; subst hv
          refine ⟨.tuple #[zv, .bool false], ?_, two _ _ _ (ofVal_VR hzv)⟩
          simp only [Instr.typeAssert, Sem.run_bind, run_underlying ht, Result.andThen_ok]
          cases d <;> first | exact (hd _ rfl).elim | simp [hut, hzr]
        | false => simp at hv
  · rename_i hu
    have hx := hO.one (x := x) (by simp [Op.operands]) ha hu
    generalize ρ x = c at hx
    cases hx
    cases ok with
    | true =>
      simp at hv; subst hv
      refine ⟨.tuple #[zv, .bool false], ?_, two _ _ _ (ofVal_VR hzv)⟩
      simp only [Instr.typeAssert, Sem.run_bind, run_underlying ht, Result.andThen_ok]
      cases d <;> first | exact (hd _ rfl).elim | simp [hzr]
    | false => simp at hv
  · simp at hv

end
end Go.Proofs.YtplaefbblpiehaaEng
