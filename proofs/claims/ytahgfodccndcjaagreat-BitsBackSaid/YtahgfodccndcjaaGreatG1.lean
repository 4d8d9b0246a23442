/- The engine, part 8: operations that look at no memory. -/
/- The engine, part 9: the other operations that look at no memory. -/
/- The engine, part 10: slicing, lengths, aggregates. -/
/- The engine, part 11: built-ins without memory, aggregates; operations that read. -/
import Derived.Test.YtahgfodccndcjaaGreatEng7
namespace Go.Proofs.YtahgfodccndcjaaGreatEng
open Go
section
variable {P : Program} {G : Nat → Option V} {E : Env} {τ : Tr V} {ρ : Operand → Value}

def Does (P : Program) (E : Env) (w : World) (ρ : Operand → Value) (o : Oper) (v : V) : Prop := ∃ cv, (execOp ρ o).run P w = .ok (.value cv) w ∧ VR E v cv

theorem Gives.does {w : World} {s : Sem Value} {v : V} (h : Gives P E w s v) {o : Oper} (he : execOp ρ o = (do pure (Next.value (← s)))) : Does P E w ρ o v := by
  obtain ⟨cv, h1, h2⟩ := h
  exact ⟨cv, by rw [he]; simp [h1], h2⟩

theorem OR.one {xs : List Operand} (h : OR G E τ ρ xs) {x : Operand} (hx : x ∈ xs) {a : Arg} (ha : cArg G x = some a) {v : V} (hv : a.ev τ = some v) : VR E v (ρ x) := h x hx a ha v hv

theorem VR.int_inv {k : IntKind} {n : Int} {c : Value} (h : VR E (.int k n) c) : c = .int k n := by cases h; rfl
theorem VR.bool_inv {b : Bool} {c : Value} (h : VR E (.bool b) c) : c = .bool b := by cases h; rfl
theorem VR.str_inv {l : List Nat} {c : Value} (h : VR E (.str l) c) : ∃ s : ByteArray, c = .string s ∧ l = s.data.toList.map (·.toNat) := by cases h; exact ⟨_, rfl, rfl⟩

theorem does_mv {o : Oper} {x : Operand} (ho : o.op = .move x ∨ o.op = .assign x) {a : Arg} (ha : cArg G x = some a) (hO : OR G E τ ρ o.op.operands.toList) {v : V} (hv : (POp.mv a).ev τ = some v) (w : World) : Does P E w ρ o v := by
  have hx : x ∈ o.op.operands.toList := by rcases ho with h | h <;> rw [h] <;> simp [Op.operands]
  refine ⟨ρ x, ?_, hO.one hx ha hv⟩
  rcases ho with h | h <;> simp [execOp, h]

theorem does_pick {o : Oper} {c x y : Operand} (ho : o.op = .pick c x y) {ac ax ay : Arg} (hc : cArg G c = some ac) (hx : cArg G x = some ax) (hy : cArg G y = some ay) (hO : OR G E τ ρ o.op.operands.toList) {v : V}
    (hv : (POp.pick ac ax ay).ev τ = some v) (w : World) : Does P E w ρ o v := by
  rw [ho] at hO
  simp only [POp.ev] at hv
  split at hv
  · rename_i h
    have := (hO.one (x := c) (by simp [Op.operands]) hc h).bool_inv
    exact ⟨ρ x, by simp [execOp, ho, this, asBool], hO.one (x := x) (by simp [Op.operands]) hx hv⟩
  · rename_i h
    have := (hO.one (x := c) (by simp [Op.operands]) hc h).bool_inv
    exact ⟨ρ y, by simp [execOp, ho, this, asBool], hO.one (x := y) (by simp [Op.operands]) hy hv⟩
  · simp at hv

theorem give_veq_sc {t : TypeId} {d : TypeDesc} {k : SK} (hu : P.underlying t = some d) (hk : scOf P d = some k) {x y : V} {cx cy : Value} (hx : VR E x cx) (hy : VR E y cy) {r : Bool} (h : vsc k x y = some r) (w : World) :
    (Op.equal t cx cy).run P w = .ok r w := by
  unfold Op.equal Op.maxDepth
  exact run_equalIn_sc hu hk hx hy h 9999 w

theorem binOp_eql {t : TypeId} {cx cy : Value} (h : ∀ k k' a b, ¬ (cx = .int k a ∧ cy = .int k' b)) (h2 : ∀ a b, ¬ (cx = .string a ∧ cy = .string b)) (h3 : ∀ k a k' b, ¬ (cx = .float k a ∧ cy = .float k' b))
    (h4 : ∀ k a b k' c d, ¬ (cx = .complex k a b ∧ cy = .complex k' c d)) : binOp .eql t cx cy = (do pure (.bool (← Op.equal t cx cy))) ∧ binOp .neq t cx cy = (do pure (.bool (!(← Op.equal t cx cy)))) := by
  cases cx <;> cases cy <;> first
    | exact ⟨rfl, rfl⟩
    | exact (h _ _ _ _ ⟨rfl, rfl⟩).elim
    | exact (h2 _ _ ⟨rfl, rfl⟩).elim
    | exact (h3 _ _ _ _ ⟨rfl, rfl⟩).elim
    | exact (h4 _ _ _ _ _ _ ⟨rfl, rfl⟩).elim

theorem vsc_not_float {k : SK} {x y : V} {cx cy : Value} (hx : VR E x cx) (hy : VR E y cy) {r : Bool} (h : vsc k x y = some r) :
    (∀ k a k' b, ¬ (cx = .float k a ∧ cy = .float k' b)) ∧ (∀ k a b k' c d, ¬ (cx = .complex k a b ∧ cy = .complex k' c d)) := by
  refine ⟨?_, ?_⟩
  · rintro k1 a k2 b ⟨rfl, rfl⟩
    cases hx; cases hy
    cases k <;> simp [vsc] at h
  · rintro k1 a b k2 c d ⟨rfl, rfl⟩
    cases hx; cases hy
    cases k <;> simp [vsc] at h


theorem scOf_ifc {d : TypeDesc} (h : scOf P d = some .ifc) : ∃ ms, d = .interface ms := by
  cases d <;> simp [scOf] at h
  · split at h <;> simp at h
  · exact ⟨_, rfl⟩

theorem run_eqGuard_ifc {op : BinOp} {t : TypeId} {ms : Array (String × TypeId)} (hu : P.underlying t = some (.interface ms)) {x y : Operand} (hc : (ms.isEmpty || isC x || isC y) = true) (w : World) :
    (eqGuard op t x y .nilIface .nilIface).run P w = .ok () w := by
  have key : (Op.eqGuardIn Op.maxDepth t .nilIface .nilIface).run P w = .ok (!ms.isEmpty) w := by
    have : ∀ d, (Op.eqGuardIn (d + 1) t .nilIface .nilIface).run P w = .ok (!ms.isEmpty) w := fun d => by
      unfold Op.eqGuardIn
      rw [Sem.run_bind, run_underlying hu]; rfl
    exact this 9999
  have go : ∀ b : Bool, (ms.isEmpty || b) = true → (if b = true then pure () else (do if ← Op.eqGuardIn Op.maxDepth t .nilIface .nilIface then unsupported (.noEntry "binop/eql: two nil values of an interface type with methods, neither of them the literal nil")) : Sem Unit).run P w = .ok () w := by
    intro b hb
    cases b with
    | true => rfl
    | false =>
      have hms : ms.isEmpty = true := by simpa using hb
      simp [key, hms]
  cases op
  case eql => cases x <;> cases y <;> first | rfl | exact go false (by simpa [isC] using hc)
  case neq => cases x <;> cases y <;> first | rfl | exact go false (by simpa [isC] using hc)
  all_goals rfl

/-- The two values may be held against each other. -/
theorem run_eqGuard_plain {op : BinOp} {t : TypeId} {x y : Operand} {cx cy : Value} (h1 : ¬ (cx = .nilIface ∧ cy = .nilIface)) (h2 : (∃ a b, cx = .agg a ∧ cy = .agg b) → P.eqGuardType P.depth t = false) (w : World) :
    (eqGuard op t x y cx cy).run P w = .ok () w := by
  have go : ∀ op, (op = .eql ∨ op = .neq) → (eqGuard op t x y cx cy).run P w = .ok () w := by
    intro op hop
    have he : eqGuard op t x y cx cy = eqGuard .eql t x y cx cy := by rcases hop with rfl | rfl <;> rfl
    rw [he]
    cases cx with
    | nilIface => cases cy with
      | nilIface => exact (h1 ⟨rfl, rfl⟩).elim
      | _ => rfl
    | agg a => cases cy with
      | agg b =>
        exact run_eqGuard_agg w .eql t x y a b (h2 ⟨a, b, rfl, rfl⟩)
      | _ => rfl
    | _ => rfl
  cases op
  case eql => exact go .eql (.inl rfl)
  case neq => exact go .neq (.inr rfl)
  all_goals rfl

theorem not_int_str {x y : V} {cx cy : Value} (hx : VR E x cx) (hy : VR E y cy) (h1 : ∀ k a k' b, ¬ (x = .int k a ∧ y = .int k' b)) (h2 : ∀ a b, ¬ (x = .str a ∧ y = .str b)) (hax : x ≠ .any) (hay : y ≠ .any) :
    (∀ k k' a b, ¬ (cx = .int k a ∧ cy = .int k' b)) ∧ (∀ a b, ¬ (cx = .string a ∧ cy = .string b)) := by
  refine ⟨?_, ?_⟩
  · rintro k k' a b ⟨rfl, rfl⟩
    cases hx <;> cases hy <;> first | exact h1 _ _ _ _ ⟨rfl, rfl⟩ | exact hax rfl | exact hay rfl
  · rintro a b ⟨rfl, rfl⟩
    cases hx <;> cases hy <;> first | exact h2 _ _ ⟨rfl, rfl⟩ | exact hax rfl | exact hay rfl

theorem veq_not_any {q : EqT} {x y : V} {r : Bool} (h : veq q x y = some r) : x ≠ .any ∧ y ≠ .any := by
  unfold veq at h
  split at h
  · rename_i k
    refine ⟨?_, ?_⟩
    · rintro rfl; cases k <;> simp [vsc] at h
    · rintro rfl; cases k <;> cases x <;> simp [vsc] at h
  · split at h
    · exact ⟨by simp, by simp⟩
    · simp at h
  · simp at h

/-- the type of an equality fits its words -/
def QOk (P : Program) (t : TypeId) (x y : Operand) (q : EqT) : Prop :=
  (∃ ms, P.underlying t = some (.interface ms) ∧ (ms.isEmpty || isC x || isC y) = true ∧ q = .sc .ifc) ∨ ((∀ ms, P.underlying t ≠ some (.interface ms)) ∧ q = eqOf P t)

theorem run_veq {t : TypeId} {x y : Operand} {q : EqT} (hq : QOk P t x y q) {a b : V} {ca cb : Value} (ha : VR E a ca) (hb : VR E b cb) {r : Bool} (h : veq q a b = some r) (op : BinOp) (w : World) :
    (eqGuard op t x y ca cb).run P w = .ok () w ∧ (Op.equal t ca cb).run P w = .ok r w := by
  rcases hq with ⟨ms, hu, hc, rfl⟩ | ⟨hn, rfl⟩
  · simp only [veq] at h
    refine ⟨?_, give_veq_sc hu rfl ha hb h w⟩
    by_cases hnn : ca = .nilIface ∧ cb = .nilIface
    · obtain ⟨rfl, rfl⟩ := hnn; exact run_eqGuard_ifc hu hc w
    · refine run_eqGuard_plain hnn ?_ w
      rintro ⟨A, B, rfl, rfl⟩
      cases ha with
      | agg => simp [vsc] at h
      | any _ hc => simp [Value.oneCell'] at hc
  · unfold eqOf at h
    split at h
    · rename_i fs hu
      split at h
      · simp [veq] at h
      · rename_i hg
        obtain ⟨X, Y, rfl, rfl, he⟩ := run_equal_eqStruct hu ha hb h w
        exact ⟨run_eqGuard_plain (by simp) (fun _ => by simpa using hg) w, he⟩
    · rename_i d hns hu
      split at h
      · rename_i k hk
        simp only [veq] at h
        refine ⟨run_eqGuard_plain ?_ ?_ w, give_veq_sc hu hk ha hb h w⟩
        · rintro ⟨rfl, rfl⟩
          have hki : k = .ifc := by
            cases ha; cases hb
            all_goals cases k <;> simp [vsc] at h <;> rfl
          subst hki
          obtain ⟨ms, rfl⟩ := scOf_ifc hk
          exact hn ms hu
        · rintro ⟨A, B, rfl, rfl⟩
          cases ha with
          | agg => cases k <;> simp [vsc] at h
          | any _ hc => simp [Value.oneCell'] at hc
      · simp [veq] at h
    · simp [veq] at h

theorem does_bin {o : Oper} {op : BinOp} {t yt : TypeId} {x y : Operand} (ho : o.op = .binOp op t x y yt) {ax ay : Arg} {q : EqT} (hx : cArg G x = some ax) (hy : cArg G y = some ay) (hq : QOk P t x y q)
    (hO : OR G E τ ρ o.op.operands.toList) {v : V} (hv : (POp.bin op q ax ay).ev τ = some v) (w : World) : Does P E w ρ o v := by
  rw [ho] at hO
  have he : execOp ρ o = (do pure (Next.value (← (do eqGuard op t x y (ρ x) (ρ y); binOp op t (ρ x) (ρ y))))) := by simp [execOp, ho]
  simp only [POp.ev] at hv
  split at hv
  · rename_i a ha
    split at hv
    · rename_i b hb
      have hA := hO.one (x := x) (by simp [Op.operands]) hx ha
      have hB := hO.one (x := y) (by simp [Op.operands]) hy hb
      refine Gives.does ?_ he
      generalize ρ x = ca at *
      generalize ρ y = cb at *
      unfold vbin at hv
      split at hv
      · rename_i k n k' n'
        rw [hA.int_inv, hB.int_inv]
        have hg := run_eqGuard_plain (P := P) (op := op) (t := t) (x := x) (y := y) (cx := .int k n) (cy := .int k' n') (by simp) (by simp) w
        have hr : Gives P E w (binOp op t (.int k n) (.int k' n')) v := by
          split at hv
          · exact give_ishift hv t w
          · split at hv
            · rename_i hk; subst hk; exact give_ibin hv t w
            · simp at hv
        obtain ⟨cv, h1, h2⟩ := hr
        exact ⟨cv, by simp [hg, h1], h2⟩
      · rename_i l l'
        obtain ⟨s, rfl, rfl⟩ := hA.str_inv
        obtain ⟨s', rfl, rfl⟩ := hB.str_inv
        have hg := run_eqGuard_plain (P := P) (op := op) (t := t) (x := x) (y := y) (cx := .string s) (cy := .string s') (by simp) (by simp) w
        have hr : Gives P E w (binOp op t (.string s) (.string s')) v := by
          split at hv
          · simp at hv
          · rename_i hl
            refine give_sbin ?_ hv t w
            rintro rfl
            simpa using hl
        obtain ⟨cv, h1, h2⟩ := hr
        exact ⟨cv, by simp [hg, h1], h2⟩
      · rename_i h1 h2
        have fin : ∀ r, veq q a b = some r → (binOp .eql t ca cb = (do pure (.bool (← Op.equal t ca cb))) ∧ binOp .neq t ca cb = (do pure (.bool (!(← Op.equal t ca cb))))) := by
          intro r hr
          obtain ⟨n1, n2⟩ := veq_not_any hr
          obtain ⟨m1, m2⟩ := not_int_str hA hB (fun k n k' n' hc => h1 k n k' n' hc.1 hc.2) (fun l l' hc => h2 l l' hc.1 hc.2) n1 n2
          obtain ⟨m3, m4⟩ : (∀ k a k' b, ¬ (ca = .float k a ∧ cb = .float k' b)) ∧ (∀ k a b k' c d, ¬ (ca = .complex k a b ∧ cb = .complex k' c d)) := by
            refine ⟨?_, ?_⟩
            · rintro k1 a1 k2 b1 ⟨rfl, rfl⟩; cases hA; exact n1 rfl
            · rintro k1 a1 b1 k2 c1 d1 ⟨rfl, rfl⟩; cases hA; exact n1 rfl
          exact binOp_eql m1 m2 m3 m4
        split at hv
        · split at hv
          · rename_i r hr
            simp at hv; subst hv
            obtain ⟨g1, g2⟩ := run_veq hq hA hB hr .eql w
            exact ⟨.bool r, by simp [g1, (fin r hr).1, g2], .bool _⟩
          · simp at hv
        · split at hv
          · rename_i r hr
            simp at hv; subst hv
            obtain ⟨g1, g2⟩ := run_veq hq hA hB hr .neq w
            exact ⟨.bool (!r), by simp [g1, (fin r hr).2, g2], .bool _⟩
          · simp at hv
        · simp at hv
    · simp at hv
  · simp at hv

theorem cBin_spec {op : BinOp} {t : TypeId} {x y : Operand} {po : POp} (h : cBin P G op t x y = some po) : ∃ ax ay q, cArg G x = some ax ∧ cArg G y = some ay ∧ QOk P t x y q ∧ po = .bin op q ax ay := by
  unfold cBin at h
  split at h
  · rename_i ms hu
    split at h
    · rename_i hc
      split at h
      · rename_i a b ha hb
        simp at h
        exact ⟨a, b, _, ha, hb, .inl ⟨ms, hu, hc, rfl⟩, h.symm⟩
      · simp at h
    · simp at h
  · rename_i hn
    split at h
    · rename_i a b ha hb
      simp at h
      exact ⟨a, b, _, ha, hb, .inr ⟨hn, rfl⟩, h.symm⟩
    · simp at h

end
end Go.Proofs.YtahgfodccndcjaaGreatEng

namespace Go.Proofs.YtahgfodccndcjaaGreatEng
open Go
section
variable {P : Program} {G : Nat → Option V} {E : Env} {τ : Tr V} {ρ : Operand → Value}

theorem does_un {o : Oper} {op : UnOp} {t : TypeId} {x : Operand} (ho : o.op = .unOp op t x) {a : Arg} (ha : cArg G x = some a) (hO : OR G E τ ρ o.op.operands.toList) {v : V}
    (hv : (POp.un op a).ev τ = some v) (w : World) : Does P E w ρ o v := by
  rw [ho] at hO
  refine Gives.does (s := Op.unary op (ρ x)) ?_ (by simp [execOp, ho])
  simp only [POp.ev] at hv
  split at hv
  · rename_i u hu
    have hx := hO.one (x := x) (by simp [Op.operands]) ha hu
    unfold vun at hv
    split at hv
    · rename_i k n; rw [hx.int_inv]; obtain rfl := Option.some.inj hv; exact ⟨_, rfl, .int _ _⟩
    · rename_i k n; rw [hx.int_inv]; obtain rfl := Option.some.inj hv; exact ⟨_, rfl, .int _ _⟩
    · rename_i b; rw [hx.bool_inv]; simp at hv; subst hv; exact ⟨_, rfl, .bool _⟩
    · simp at hv
  · simp at hv

theorem does_cii {o : Oper} {s d : TypeId} {x : Operand} (ho : o.op = .convert s d x) {k0 k : IntKind} (hs : P.underlying s = some (.int k0)) (hd : P.underlying d = some (.int k)) {a : Arg} (ha : cArg G x = some a)
    (hO : OR G E τ ρ o.op.operands.toList) {v : V} (hv : (POp.cii k a).ev τ = some v) (w : World) : Does P E w ρ o v := by
  rw [ho] at hO
  refine Gives.does (s := convert s d (ρ x)) ?_ (by simp [execOp, ho])
  simp only [POp.ev] at hv
  split at hv
  · rename_i k1 n hu
    rw [(hO.one (x := x) (by simp [Op.operands]) ha hu).int_inv]
    simp at hv; subst hv
    exact ⟨.int k (k.wrap n), by simp [convert, run_underlying hs, run_underlying hd, Conv.intToInt], .int _ _⟩
  · simp at hv
theorem does_css {o : Oper} {s d : TypeId} {x : Operand} (ho : o.op = .convert s d x) (hs : P.underlying s = some .string) (hd : P.underlying d = some .string) {a : Arg} (ha : cArg G x = some a)
    (hO : OR G E τ ρ o.op.operands.toList) {v : V} (hv : (POp.css a).ev τ = some v) (w : World) : Does P E w ρ o v := by
  rw [ho] at hO
  refine Gives.does (s := convert s d (ρ x)) ?_ (by simp [execOp, ho])
  simp only [POp.ev] at hv
  split at hv
  · rename_i l hu
    obtain ⟨b, hb, rfl⟩ := (hO.one (x := x) (by simp [Op.operands]) ha hu).str_inv
    rw [hb]
    simp at hv; subst hv
    exact ⟨.string b, by simp [convert, run_underlying hs, run_underlying hd], .str _⟩
  · simp at hv
theorem does_cis {o : Oper} {s d : TypeId} {x : Operand} (ho : o.op = .convert s d x) {k0 : IntKind} (hs : P.underlying s = some (.int k0)) (hd : P.underlying d = some .string) {a : Arg} (ha : cArg G x = some a)
    (hO : OR G E τ ρ o.op.operands.toList) {v : V} (hv : (POp.cis a).ev τ = some v) (w : World) : Does P E w ρ o v := by
  rw [ho] at hO
  refine Gives.does (s := convert s d (ρ x)) ?_ (by simp [execOp, ho])
  simp only [POp.ev] at hv
  split at hv
  · rename_i k1 n hu
    rw [(hO.one (x := x) (by simp [Op.operands]) ha hu).int_inv]
    simp at hv; subst hv
    exact ⟨.string (Utf8.encode n), by simp [convert, run_underlying hs, run_underlying hd, Conv.intToString], .str _⟩
  · simp at hv

theorem does_mkif {o : Oper} {t : TypeId} {x : Operand} (ho : o.op = .makeInterface t x) {d : TypeDesc} (ht : P.underlying t = some d) (hd : ∀ ms, d ≠ .interface ms) {a : Arg} (ha : cArg G x = some a)
    (hO : OR G E τ ρ o.op.operands.toList) {v : V} (hv : (POp.mkif t a).ev τ = some v) (w : World) : Does P E w ρ o v := by
  rw [ho] at hO
  refine Gives.does (s := Instr.makeInterface t (ρ x)) ?_ (by simp [execOp, ho])
  simp only [POp.ev] at hv
  split at hv
  · rename_i u hu
    have hx := hO.one (x := x) (by simp [Op.operands]) ha hu
    simp at hv; subst hv
    refine ⟨.iface t (ρ x), ?_, .iface _ _ _ hx⟩
    simp only [Instr.makeInterface, Sem.run_bind, run_underlying ht, Result.andThen_ok]
    cases d <;> first | rfl | exact (hd _ rfl).elim
  · simp at hv

theorem does_mkfn {o : Oper} {f : FuncId} {x y : Array Operand} (ho : o.op = .makeFunc (.func f) x y) {a b : List Arg} (ha : cArgs G x.toList = some a) (hb : cArgs G y.toList = some b)
    (hO : OR G E τ ρ o.op.operands.toList) {v : V} (hv : (POp.mkfn f a b).ev τ = some v) (w : World) : Does P E w ρ o v := by
  rw [ho] at hO
  refine Gives.does (s := Instr.makeFunc (.func f) (x.map ρ) (y.map ρ)) ?_ (by simp [execOp, ho])
  simp only [POp.ev] at hv
  split at hv
  · rename_i l hl
    split at hv
    · rename_i l' hl'
      simp at hv; subst hv
      have h1 := (hO.sub (ys := x.toList) fun z hz => by simp [Op.operands]; exact .inl (by simpa using hz)).list ha hl
      have h2 := (hO.sub (ys := y.toList) fun z hz => by simp [Op.operands]; exact .inr (by simpa using hz)).list hb hl'
      refine ⟨.func (.func f) (x.map ρ) (y.map ρ), rfl, .fn _ _ _ _ _ (by simpa using h1.1) (by simpa using h2.1) (fun i v cv e1 e2 => h1.2 i v cv e1 (by simpa using e2)) (fun i v cv e1 e2 => h2.2 i v cv e1 (by simpa using e2))⟩
    · simp at hv
  · simp at hv

theorem does_nilck {o : Oper} {x : Operand} (ho : o.op = .nilCheck x) {a : Arg} (ha : cArg G x = some a) (hO : OR G E τ ρ o.op.operands.toList) {v : V} (hv : (POp.nilck a).ev τ = some v) (w : World) : Does P E w ρ o v := by
  rw [ho] at hO
  have key : ∀ u, a.ev τ = some u → VR E u (ρ x) := fun u hu => hO.one (x := x) (by simp [Op.operands]) ha hu
  simp only [POp.ev] at hv
  split at hv <;> (try simp at hv) <;> subst hv
  · rename_i b k c hu
    refine ⟨ρ x, ?_, key _ hu⟩
    have := key _ hu
    simp only [execOp, ho]
    generalize ρ x = c' at this ⊢
    cases this; rfl
  · rename_i b k hu
    refine ⟨ρ x, ?_, key _ hu⟩
    have := key _ hu
    simp only [execOp, ho]
    generalize ρ x = c' at this ⊢
    cases this; rfl
  · rename_i f l l' hu
    refine ⟨ρ x, ?_, key _ hu⟩
    have := key _ hu
    simp only [execOp, ho]
    generalize ρ x = c' at this ⊢
    cases this; rfl
  · rename_i t u hu
    refine ⟨ρ x, ?_, key _ hu⟩
    have := key _ hu
    simp only [execOp, ho]
    generalize ρ x = c' at this ⊢
    cases this; rfl

theorem does_faddr {o : Oper} {s : TypeId} {x : Operand} {f : Nat} (ho : o.op = .fieldAddr s x f) {fs : Array Field} (hs : P.underlying s = some (.struct fs)) {fd : Field} (hf : fs[f]? = some fd) {n : Nat} (hn : szOf P fd.type = some (n + 1))
    {a : Arg} (ha : cArg G x = some a) (hO : OR G E τ ρ o.op.operands.toList) {v : V} (hv : (POp.faddr fd.offset a).ev τ = some v) (w : World) : Does P E w ρ o v := by
  rw [ho] at hO
  refine Gives.does (s := Instr.fieldAt s (ρ x) f) ?_ (by simp [execOp, ho])
  have run : ∀ ad : Addr, (Instr.fieldAt s (.pointer (some ad)) f).run P w = .ok (.pointer (some (ad.add fd.offset))) w := by
    intro ad
    simp [Instr.fieldAt, run_underlying hs, hf, Instr.sureAddr, fieldPlace, run_sizeOf' hn]
  simp only [POp.ev] at hv
  split at hv
  · rename_i y u k hu
    have hx := hO.one (x := x) (by simp [Op.operands]) ha hu
    simp at hv; subst hv
    generalize ρ x = c at hx
    cases hx with
    | ptr _ _ _ p hp hl =>
      refine ⟨_, run _, ?_⟩
      rw [Place.addr_add p _ hl]
      exact .ptr _ _ _ p hp (by omega)
  · rename_i l k hu
    have hx := hO.one (x := x) (by simp [Op.operands]) ha hu
    simp at hv; subst hv
    generalize ρ x = c at hx
    cases hx with
    | rop _ _ b k0 g hb hc hvv =>
      refine ⟨_, run _, ?_⟩
      rw [add_mk, Nat.add_assoc]
      exact .rop _ _ b k0 g hb hc hvv
  · simp at hv

theorem does_iaddr {o : Oper} {t : TypeId} {x i : Operand} (ho : o.op = .indexAddr t x i) {e : TypeId} (ht : P.underlying t = some (.slice e)) {s : Nat} (hs : szOf P e = some s) {a b : Arg} (ha : cArg G x = some a) (hb : cArg G i = some b)
    (hO : OR G E τ ρ o.op.operands.toList) {v : V} (hv : (POp.iaddr s a b).ev τ = some v) (w : World) : Does P E w ρ o v := by
  rw [ho] at hO
  refine Gives.does (s := Instr.indexAt t (ρ x) (ρ i)) ?_ (by simp [execOp, ho])
  simp only [POp.ev] at hv
  split at hv
  · rename_i u hu
    split at hv
    · rename_i k n hn
      have hx := hO.one (x := x) (by simp [Op.operands]) ha hu
      rw [(hO.one (x := i) (by simp [Op.operands]) hb hn).int_inv]
      have run : ∀ (ad : Addr) (len cap : Nat), 0 ≤ n ∧ n < len → (Instr.indexAt t (.slice (some ad) len cap) (.int k n)).run P w = .ok (.pointer (some (ad.add (n.toNat * s)))) w := by
        intro ad len cap hlt
        simp [Instr.indexAt, asIntOf, run_underlying ht, hlt, run_sizeOf' hs]
      unfold elemAt at hv
      split at hv
      · rename_i y vv oo len cap es
        split at hv
        · rename_i hlt
          simp at hv; subst hv
          generalize ρ x = c at hx
          cases hx with
          | sl _ _ _ _ _ _ ccap p ad hp hl hlen had hc =>
            refine ⟨_, run _ _ _ hlt, ?_⟩
            have : ad = p.addr oo := had.resolve_left (by omega)
            rw [this, Place.addr_add p _ hl]
            exact .ptr _ _ _ p hp (by omega)
        · simp at hv
      · rename_i l oo len cap
        split at hv
        · rename_i hlt
          simp at hv; subst hv
          generalize ρ x = c at hx
          cases hx with
          | ros _ _ _ _ bb k0 g ad hbb hlen had hc hvv =>
            refine ⟨_, run _ _ _ hlt, ?_⟩
            have : ad = ⟨bb, k0 + oo, none⟩ := had.resolve_left (by omega)
            rw [this, add_mk, Nat.add_assoc]
            exact .rop _ _ bb k0 g hbb hc hvv
        · simp at hv
      · simp at hv
    · simp at hv
  · simp at hv

theorem does_iarr {o : Oper} {t : TypeId} {x i : Operand} (ho : o.op = .indexAddr t x i) {e : TypeId} {len : Nat} (ht : P.underlying t = some (.array len e)) {s : Nat} (hs : szOf P e = some s) {a b : Arg} (ha : cArg G x = some a) (hb : cArg G i = some b)
    (hO : OR G E τ ρ o.op.operands.toList) {v : V} (hv : (POp.iarr len s a b).ev τ = some v) (w : World) : Does P E w ρ o v := by
  rw [ho] at hO
  refine Gives.does (s := Instr.indexAt t (ρ x) (ρ i)) ?_ (by simp [execOp, ho])
  simp only [POp.ev] at hv
  split at hv
  · rename_i u hu
    split at hv
    · rename_i k n hn
      have hx := hO.one (x := x) (by simp [Op.operands]) ha hu
      rw [(hO.one (x := i) (by simp [Op.operands]) hb hn).int_inv]
      split at hv
      · rename_i hlt
        have run : ∀ (ad : Addr), (Instr.indexAt t (.pointer (some ad)) (.int k n)).run P w = .ok (.pointer (some (ad.add (n.toNat * s)))) w := by
          intro ad
          simp [Instr.indexAt, asIntOf, run_underlying ht, hlt, run_sizeOf' hs, Instr.sureAddr]
        split at hv
        · simp at hv; subst hv
          generalize ρ x = c at hx
          cases hx with
          | ptr _ _ _ p hp hl =>
            refine ⟨_, run _, ?_⟩
            rw [Place.addr_add p _ hl]
            exact .ptr _ _ _ p hp (by omega)
        · simp at hv; subst hv
          generalize ρ x = c at hx
          cases hx with
          | rop _ _ bb k0 g hbb hc hvv =>
            refine ⟨_, run _, ?_⟩
            rw [add_mk, Nat.add_assoc]
            exact .rop _ _ bb k0 g hbb hc hvv
        · simp at hv
      · simp at hv
    · simp at hv
  · simp at hv

theorem does_idxs {o : Oper} {t : TypeId} {x i : Operand} (ho : o.op = .index t x i) (ht : P.underlying t = some .string) {a b : Arg} (ha : cArg G x = some a) (hb : cArg G i = some b)
    (hO : OR G E τ ρ o.op.operands.toList) {v : V} (hv : (POp.idxs a b).ev τ = some v) (w : World) : Does P E w ρ o v := by
  rw [ho] at hO
  refine Gives.does (s := Instr.index t (ρ x) (ρ i)) ?_ (by simp [execOp, ho])
  simp only [POp.ev] at hv
  split at hv
  · rename_i l hu
    split at hv
    · rename_i k n hn
      obtain ⟨s, hs, rfl⟩ := (hO.one (x := x) (by simp [Op.operands]) ha hu).str_inv
      rw [hs, (hO.one (x := i) (by simp [Op.operands]) hb hn).int_inv]
      split at hv
      · rename_i h0
        split at hv
        · rename_i c hc
          simp at hv; subst hv
          simp only [List.getElem?_map, Option.map_eq_some_iff] at hc
          obtain ⟨c', hc', rfl⟩ := hc
          have hget : s[n.toNat]? = some c' := by
            have hlt : n.toNat < s.data.toList.length := by
              rcases Nat.lt_or_ge n.toNat s.data.toList.length with h | h
              · exact h
              · simp [List.getElem?_eq_none h] at hc'
            have hlt' : n.toNat < s.size := by simpa using hlt
            rw [List.getElem?_eq_getElem hlt] at hc'
            simp at hc'
            rw [getElem?_pos s n.toNat hlt']
            exact congrArg some hc'
          refine ⟨.int .u8 c'.toNat, ?_, .int _ _⟩
          simp [Instr.index, asIntOf, run_underlying ht, h0, hget]
        · simp at hv
      · simp at hv
    · simp at hv
  · simp at hv

theorem does_idxa {o : Oper} {t : TypeId} {x i : Operand} (ho : o.op = .index t x i) {e : TypeId} {len : Nat} (ht : P.underlying t = some (.array len e)) {s : Nat} (hs : szOf P e = some s) {ag : Option Nat} (hag : aggOf P e = some ag) {a b : Arg} (ha : cArg G x = some a) (hb : cArg G i = some b)
    (hO : OR G E τ ρ o.op.operands.toList) {v : V} (hv : (POp.idxa len s ag.isSome a b).ev τ = some v) (w : World) : Does P E w ρ o v := by
  rw [ho] at hO
  refine Gives.does (s := Instr.index t (ρ x) (ρ i)) ?_ (by simp [execOp, ho])
  simp only [POp.ev] at hv
  split at hv
  · rename_i l hu
    split at hv
    · rename_i k n hn
      obtain ⟨C, hC, hl⟩ := (hO.one (x := x) (by simp [Op.operands]) ha hu).agg_inv
      rw [hC, (hO.one (x := i) (by simp [Op.operands]) hb hn).int_inv]
      split at hv
      · rename_i hlt
        have hg : Gives P E w (part e C (n.toNat * s)) v := by
          refine give_part hag hl ?_
          cases ag with
          | none => exact hv
          | some m =>
            have := (run_isAgg' hag w).2 m rfl
            rw [hs] at this; simp at this; subst this
            exact hv
        obtain ⟨cv, h1, h2⟩ := hg
        exact ⟨cv, by simp [Instr.index, asIntOf, run_underlying ht, hlt, run_sizeOf' hs, h1], h2⟩
      · simp at hv
    · simp at hv
  · simp at hv

theorem does_field {o : Oper} {t : TypeId} {x : Operand} {f : Nat} (ho : o.op = .field t x f) {fs : Array Field} (ht : P.underlying t = some (.struct fs)) {fd : Field} (hf : fs[f]? = some fd) {ag : Option Nat} (hag : aggOf P fd.type = some ag)
    {a : Arg} (ha : cArg G x = some a) (hO : OR G E τ ρ o.op.operands.toList) {v : V} (hv : (POp.field ag fd.offset a).ev τ = some v) (w : World) : Does P E w ρ o v := by
  rw [ho] at hO
  refine Gives.does (s := Instr.field t (ρ x) f) ?_ (by simp [execOp, ho])
  simp only [POp.ev] at hv
  split at hv
  · rename_i l hu
    obtain ⟨C, hC, hl⟩ := (hO.one (x := x) (by simp [Op.operands]) ha hu).agg_inv
    rw [hC]
    obtain ⟨cv, h1, h2⟩ := give_part (P := P) (w := w) hag hl (v := v) (off := fd.offset) hv
    exact ⟨cv, by simp [Instr.field, run_underlying ht, hf, asAgg, h1], h2⟩
  · simp at hv

theorem does_extract {o : Oper} {x : Operand} {i : Nat} (ho : o.op = .extract x i) {a : Arg} (ha : cArg G x = some a) (hO : OR G E τ ρ o.op.operands.toList) {v : V} (hv : (POp.extract i a).ev τ = some v) (w : World) : Does P E w ρ o v := by
  rw [ho] at hO
  refine Gives.does (s := Instr.extract (ρ x) i) ?_ (by simp [execOp, ho])
  simp only [POp.ev] at hv
  split at hv
  · rename_i l hu
    obtain ⟨C, hC, hl⟩ := (hO.one (x := x) (by simp [Op.operands]) ha hu).tup_inv
    obtain ⟨cv, h1, h2⟩ := hl.get hv
    have h1' : C[i]? = some cv := by simpa using h1
    exact ⟨cv, by simp [hC, Instr.extract, h1'], h2⟩
  · simp at hv

theorem does_tass {o : Oper} {x : Operand} {xt t : TypeId} {ok : Bool} (ho : o.op = .typeAssert x xt t ok) {d : TypeDesc} (ht : P.underlying t = some d) (hd : ∀ ms, d ≠ .interface ms) {z : V} (hz : zeroOf P t = some z) {a : Arg} (ha : cArg G x = some a)
    (hO : OR G E τ ρ o.op.operands.toList) {v : V} (hv : (POp.tass t ok z a).ev τ = some v) (w : World) : Does P E w ρ o v := by
  rw [ho] at hO
  refine Gives.does (s := Instr.typeAssert (ρ x) xt t ok) ?_ (by simp [execOp, ho])
  obtain ⟨i, zv, hi, hzi, hzv⟩ : ∃ i zv, P.info? t = some i ∧ i.zero = some zv ∧ ofVal zv = some z := by
    unfold zeroOf at hz
    split at hz
    · rename_i i hi
      split at hz
      · rename_i zv hzv; exact ⟨i, zv, hi, hzv, hz⟩
      · simp at hz
    · simp at hz
  have hzr : (zeroValue t).run P w = .ok zv w := by simp [zeroValue, typeInfo, hi, hzi]
  simp only [POp.ev] at hv
  have two : ∀ u cu (b : Bool), VR E u cu → VR E (.tup [u, .bool b]) (.tuple #[cu, .bool b]) := fun u cu b h => .mk_tup (.cons h (.cons (.bool b) .nil))
  split at hv
  · rename_i u y hu
    have hx := hO.one (x := x) (by simp [Op.operands]) ha hu
    generalize ρ x = c at hx
    cases hx with
    | iface _ _ cv hy =>
      split at hv
      · rename_i hut; subst hut
        cases ok with
        | true =>
          simp at hv; subst hv
          refine ⟨.tuple #[cv, .bool true], ?_, two _ _ _ hy⟩
          simp only [Instr.typeAssert, Sem.run_bind, run_underlying ht, Result.andThen_ok]
          cases d <;> first | exact (hd _ rfl).elim | simp
        | false =>
          simp at hv; subst hv
          refine ⟨cv, ?_, hy⟩
          simp only [Instr.typeAssert, Sem.run_bind, run_underlying ht, Result.andThen_ok]
          cases d <;> first | exact (hd _ rfl).elim | simp
      · rename_i hut
        cases ok with
        | true =>
          simp at hv; subst hv
          refine ⟨.tuple #[zv, .bool false], ?_, two _ _ _ (ofVal_VR hzv)⟩
          simp only [Instr.typeAssert, Sem.run_bind, run_underlying ht, Result.andThen_ok]
          cases d <;> first | exact (hd _ rfl).elim | simp [hut, hzr]
        | false => simp at hv
  · rename_i hu
    have hx := hO.one (x := x) (by simp [Op.operands]) ha hu
    generalize ρ x = c at hx
    cases hx
    cases ok with
    | true =>
      simp at hv; subst hv
      refine ⟨.tuple #[zv, .bool false], ?_, two _ _ _ (ofVal_VR hzv)⟩
      simp only [Instr.typeAssert, Sem.run_bind, run_underlying ht, Result.andThen_ok]
      cases d <;> first | exact (hd _ rfl).elim | simp [hzr]
    | false => simp at hv
  · simp at hv

end
end Go.Proofs.YtahgfodccndcjaaGreatEng

namespace Go.Proofs.YtahgfodccndcjaaGreatEng
open Go
section
variable {P : Program} {G : Nat → Option V} {E : Env} {τ : Tr V} {ρ : Operand → Value}

/-- an optional operand -/
def ORo (E : Env) (a : Option V) (c : Option Value) : Prop :=
  match a, c with
  | none, none => True
  | some v, some cv => VR E v cv
  | _, _ => False

theorem OR.opt {xs : List Operand} (h : OR G E τ ρ xs) {x : Option Operand} (hx : ∀ y, x = some y → y ∈ xs) {a : Option Arg} (ha : cOpt G x = some a) {v : Option V} (hv : ofOpt τ a = some v) : ORo E v (x.map ρ) := by
  cases x with
  | none =>
    simp [cOpt] at ha; subst ha
    simp [ofOpt] at hv; subst hv; trivial
  | some y =>
    simp only [cOpt, Option.map_eq_some_iff] at ha
    obtain ⟨a', ha', rfl⟩ := ha
    simp only [ofOpt] at hv
    split at hv
    · rename_i u hu
      simp at hv; subst hv
      exact h y (hx y rfl) a' ha' u hu
    · simp at hv

theorem run_bnd {a : V} {c : Value} (h : VR E a c) {d most m : Nat} (hb : bnd (some a) d most = some m) (code : BoundsCode) (w : World) : (Instr.sliceBound c most code).run P w = .ok m w ∧ m ≤ most := by
  unfold bnd at hb
  simp only at hb
  split at hb
  · rename_i k n
    rw [h.int_inv]
    split at hb
    · rename_i hle
      simp at hb; subst hb
      refine ⟨?_, by omega⟩
      simp [Instr.sliceBound, asIntOf, hle]
    · simp at hb
  · simp at hb

theorem bnd_le {a : Option V} {d most m : Nat} (hb : bnd a d most = some m) (hd : d ≤ most) : m ≤ most := by
  unfold bnd at hb
  split at hb
  · simp at hb; omega
  · split at hb
    · split at hb
      · simp at hb; omega
      · simp at hb
    · simp at hb

theorem run_sliceBounds {isSlice : Bool} {len cap : Nat} {lo hi mx : Option V} {clo chi cmx : Option Value} (hlo : ORo E lo clo) (hhi : ORo E hi chi) (hmx : ORo E mx cmx) (hm : mx.isSome = true → hi.isSome = true)
    {l h m : Nat} (e1 : bnd mx cap cap = some m) (e2 : bnd hi len m = some h) (e3 : bnd lo 0 h = some l) (w : World) :
    (Instr.sliceBounds isSlice len cap clo chi cmx).run P w = .ok (l, h, m) w := by
  have f1 : ∀ v, cmx = some v → ∀ code, (Instr.sliceBound v cap code).run P w = .ok m w := by
    rintro v rfl code
    cases mx with
    | none => simp [ORo] at hmx
    | some u => exact (run_bnd hmx e1 code w).1
  have f1' : cmx = none → m = cap := by
    rintro rfl
    cases mx with
    | none => simp [bnd] at e1; exact e1.symm
    | some u => simp [ORo] at hmx
  have f2 : ∀ v, chi = some v → ∀ code, (Instr.sliceBound v m code).run P w = .ok h w := by
    rintro v rfl code
    cases hi with
    | none => simp [ORo] at hhi
    | some u => exact (run_bnd hhi e2 code w).1
  have f2' : chi = none → h = len ∧ cmx = none := by
    rintro rfl
    cases hi with
    | none =>
      simp [bnd] at e2
      refine ⟨e2.symm, ?_⟩
      cases mx with
      | none => cases cmx with
        | none => rfl
        | some _ => simp [ORo] at hmx
      | some _ => simp at hm
    | some u => simp [ORo] at hhi
  have f3 : ∀ v, clo = some v → ∀ code, (Instr.sliceBound v h code).run P w = .ok l w := by
    rintro v rfl code
    cases lo with
    | none => simp [ORo] at hlo
    | some u => exact (run_bnd hlo e3 code w).1
  have f3' : clo = none → l = 0 := by
    rintro rfl
    cases lo with
    | none => simp [bnd] at e3; exact e3.symm
    | some u => simp [ORo] at hlo
  clear e1 e2 e3 hlo hhi hmx hm
  cases chi with
  | none =>
    obtain ⟨rfl, rfl⟩ := f2' rfl
    obtain rfl := f1' rfl
    cases clo with
    | none => obtain rfl := f3' rfl; simp [Instr.sliceBounds]
    | some v => simp [Instr.sliceBounds, f3 v rfl]
  | some vh =>
    cases cmx with
    | none =>
      obtain rfl := f1' rfl
      cases clo with
      | none => obtain rfl := f3' rfl; simp [Instr.sliceBounds, f2 vh rfl]
      | some v => simp [Instr.sliceBounds, f2 vh rfl, f3 v rfl]
    | some vm =>
      cases clo with
      | none => obtain rfl := f3' rfl; simp [Instr.sliceBounds, f1 vm rfl, f2 vh rfl]
      | some v => simp [Instr.sliceBounds, f1 vm rfl, f2 vh rfl, f3 v rfl]

theorem toNats_extract (s : ByteArray) (l h : Nat) : (s.extract l h).data.toList.map (·.toNat) = ((s.data.toList.map (·.toNat)).drop l).take (h - l) := by
  rw [ByteArray.data_extract, Array.toList_extract, List.extract_eq_take_drop, List.map_take, List.map_drop]

theorem does_slis {o : Oper} {t : TypeId} {x : Operand} {lo hi : Option Operand} (ho : o.op = .slice t x lo hi none) (ht : P.underlying t = some .string) {a : Arg} {alo ahi : Option Arg} (ha : cArg G x = some a) (hlo : cOpt G lo = some alo) (hhi : cOpt G hi = some ahi)
    (hO : OR G E τ ρ o.op.operands.toList) {v : V} (hv : (POp.slis a alo ahi).ev τ = some v) (w : World) : Does P E w ρ o v := by
  rw [ho] at hO
  have hml : ∀ y, lo = some y → y ∈ (Op.slice t x lo hi none).operands.toList := by rintro y rfl; simp [Op.operands]
  have hmh : ∀ y, hi = some y → y ∈ (Op.slice t x lo hi none).operands.toList := by rintro y rfl; simp [Op.operands]
  refine Gives.does (s := Instr.sliceAt t (ρ x) (lo.map ρ) (hi.map ρ) none) ?_ (by simp [execOp, ho])
  simp only [POp.ev] at hv
  split at hv
  · rename_i l hu
    obtain ⟨s, hs, rfl⟩ := (hO.one (x := x) (by simp [Op.operands]) ha hu).str_inv
    split at hv
    · rename_i vlo hvlo
      split at hv
      · rename_i vhi hvhi
        have olo := hO.opt hml hlo hvlo
        have ohi := hO.opt hmh hhi hvhi
        split at hv
        · rename_i h hh
          split at hv
          · rename_i l hl
            simp at hv; subst hv
            have hlen : (s.data.toList.map (·.toNat)).length = s.size := by simp
            rw [hlen] at hh
            have hb := run_sliceBounds (P := P) (isSlice := false) (len := s.size) (cap := s.size) olo ohi (mx := none) (cmx := none) trivial (by simp) rfl hh hl w
            refine ⟨.string (s.extract l h), ?_, ?_⟩
            · simp [Instr.sliceAt, Instr.slice, run_underlying ht, hs, hb]
            · have := VR.str (E := E) (s.extract l h)
              rwa [toNats_extract] at this
          · simp at hv
        · simp at hv
      · simp at hv
    · simp at hv
  · simp at hv

theorem give_slsl {t e : TypeId} (ht : P.underlying t = some (.slice e)) {s : Nat} (hs : szOf P e = some s) {a : V} {ca : Value} (ha : VR E a ca) {lo hi mx : Option V} {clo chi cmx : Option Value} (hlo : ORo E lo clo) (hhi : ORo E hi chi) (hmx : ORo E mx cmx)
    (hm : mx.isSome = true → hi.isSome = true) {v : V} (hv : vslsl s a lo hi mx = some v) (w : World) : Gives P E w (Instr.sliceAt t ca clo chi cmx) v := by
  have base : ∀ (ad : Option Addr) (len cap l h m : Nat), (Instr.sliceBounds true len cap clo chi cmx).run P w = .ok (l, h, m) w →
      (Instr.sliceAt t (.slice ad len cap) clo chi cmx).run P w = .ok (.slice (if m = l then ad else ad.map (·.add (l * s))) (h - l) (m - l)) w := by
    intro ad len cap l h m hb
    simp [Instr.sliceAt, Instr.slice, run_underlying ht, hb, run_sizeOf' hs]
  unfold vslsl at hv
  split at hv
  · -- nil
    split at hv
    · rename_i m e1
      split at hv
      · rename_i h e2
        split at hv
        · rename_i l e3
          simp at hv; subst hv
          cases ha
          have hb := run_sliceBounds (P := P) (isSlice := true) (len := 0) (cap := 0) hlo hhi hmx hm e1 e2 e3 w
          have hm0 := bnd_le e1 (Nat.le_refl _)
          have hh0 := bnd_le e2 (by omega)
          have hl0 := bnd_le e3 (by omega)
          refine ⟨_, base none 0 0 l h m hb, ?_⟩
          have : m = 0 := by omega
          have : h = 0 := by omega
          have : l = 0 := by omega
          subst_vars
          exact .nils
        · simp at hv
      · simp at hv
    · simp at hv
  · -- capacity not known
    rename_i x vv oo len es
    split at hv
    · rename_i hes
      subst hes
      cases ha with
      | sl _ _ _ _ _ _ ccap p ad hp hl hlen had hc =>
        obtain ⟨hes, hcap⟩ := hc
        split at hv
        · cases cmx with
          | some _ => simp [ORo] at hmx
          | none =>
            split at hv
            · rename_i h e2
              split at hv
              · rename_i l e3
                simp at hv; subst hv
                have hh : h ≤ len := bnd_le e2 (Nat.le_refl _)
                have hl' : l ≤ h := bnd_le e3 (by omega)
                have e2' : bnd hi len ccap = some h := by
                  cases hi with
                  | none => simpa [bnd] using e2
                  | some u =>
                    cases u <;> simp only [bnd] at e2 ⊢ <;> try simp at e2
                    obtain ⟨⟨q1, q2⟩, q3⟩ := e2
                    rw [if_pos ⟨q1, by omega⟩, q3]
                have hb := run_sliceBounds (P := P) (isSlice := true) (len := len) (cap := ccap) hlo hhi (mx := none) (cmx := none) trivial (by simp) rfl e2' e3 w
                refine ⟨_, base (some ad) len ccap l h ccap hb, ?_⟩
                by_cases hcl : ccap = l
                · rw [if_pos hcl]
                  refine .sl _ _ _ _ _ _ _ p ad hp (by omega) (by omega) (.inl (by omega)) ⟨hes, ?_⟩
                  subst hcl
                  simp only [Nat.sub_self, Nat.zero_mul, Nat.add_zero]; omega
                · rw [if_neg hcl]
                  have hadd : ad = p.addr oo := had.resolve_left (by omega)
                  simp only [Option.map_some]
                  rw [hadd, Place.addr_add p _ hl]
                  refine .sl _ _ _ _ _ _ _ p _ hp (by omega) (by omega) (.inr rfl) ⟨hes, ?_⟩
                  have : ccap * es = l * es + (ccap - l) * es := by rw [← Nat.add_mul]; congr 1; omega
                  omega
              · simp at hv
            · simp at hv
        · rename_i mv
          split at hv
          · rename_i m e1
            split at hv
            · rename_i h e2
              split at hv
              · rename_i l e3
                simp at hv; subst hv
                have hmle : m ≤ len := bnd_le e1 (by omega)
                have hhm : h ≤ m ∨ hi = none := by
                  cases hi with
                  | none => exact .inr rfl
                  | some u => cases u <;> simp only [bnd] at e2 <;> try simp at e2
                              · exact .inl (by omega)
                have hhm' : h ≤ m := hhm.resolve_right (by rintro rfl; simp at hm)
                have hl' : l ≤ h := bnd_le e3 (by omega)
                have e1' : bnd (some mv) ccap ccap = some m := by
                  cases mv <;> simp only [bnd] at e1 ⊢ <;> try simp at e1
                  obtain ⟨⟨q1, q2⟩, q3⟩ := e1
                  rw [if_pos ⟨q1, by omega⟩, q3]
                have hb := run_sliceBounds (P := P) (isSlice := true) (len := len) (cap := ccap) hlo hhi hmx hm e1' e2 e3 w
                refine ⟨_, base (some ad) len ccap l h m hb, ?_⟩
                by_cases hcl : m = l
                · rw [if_pos hcl, if_pos hcl]
                  exact .sl _ _ _ _ _ _ _ p ad hp (by omega) (by omega) (.inl (by omega)) rfl
                · rw [if_neg hcl, if_neg hcl]
                  have hadd : ad = p.addr oo := had.resolve_left (by omega)
                  simp only [Option.map_some]
                  rw [hadd, Place.addr_add p _ hl]
                  exact .sl _ _ _ _ _ _ _ p _ hp (by omega) (by omega) (.inr rfl) rfl
              · simp at hv
            · simp at hv
          · simp at hv
    · simp at hv
  · -- capacity known
    rename_i x vv oo len c es
    cases ha with
    | sl _ _ _ _ _ _ ccap p ad hp hl hlen had hc =>
      simp only at hc; subst hc
      split at hv
      · rename_i m e1
        split at hv
        · rename_i h e2
          split at hv
          · rename_i l e3
            simp at hv; subst hv
            have hmle : m ≤ ccap := bnd_le e1 (by omega)
            have hhm' : h ≤ m := by
              cases mx with
              | none => simp [bnd] at e1; exact bnd_le e2 (by omega)
              | some u =>
                cases hi with
                | none => simp at hm
                | some u => cases u <;> simp only [bnd] at e2 <;> try simp at e2
                            · omega
            have hl' : l ≤ h := bnd_le e3 (by omega)
            have hb := run_sliceBounds (P := P) (isSlice := true) (len := len) (cap := ccap) hlo hhi hmx hm e1 e2 e3 w
            refine ⟨_, base (some ad) len ccap l h m hb, ?_⟩
            by_cases hcl : m = l
            · rw [if_pos hcl, if_pos hcl]
              exact .sl _ _ _ _ _ _ _ p ad hp (by omega) (by omega) (.inl (by omega)) rfl
            · rw [if_neg hcl, if_neg hcl]
              have hadd : ad = p.addr oo := had.resolve_left (by omega)
              simp only [Option.map_some]
              rw [hadd, Place.addr_add p _ hl]
              exact .sl _ _ _ _ _ _ _ p _ hp (by omega) (by omega) (.inr rfl) rfl
          · simp at hv
        · simp at hv
      · simp at hv
  · -- read only
    rename_i cs oo len c
    cases ha with
    | ros _ _ _ _ bb k0 g ad hbb hlen had hc hvv =>
      split at hv
      · rename_i m e1
        split at hv
        · rename_i h e2
          split at hv
          · rename_i l e3
            simp at hv; subst hv
            have hmle : m ≤ c := bnd_le e1 (by omega)
            have hhm' : h ≤ m := by
              cases mx with
              | none => simp [bnd] at e1; exact bnd_le e2 (by omega)
              | some u =>
                cases hi with
                | none => simp at hm
                | some u => cases u <;> simp only [bnd] at e2 <;> try simp at e2
                            · omega
            have hl' : l ≤ h := bnd_le e3 (by omega)
            have hb := run_sliceBounds (P := P) (isSlice := true) (len := len) (cap := c) hlo hhi hmx hm e1 e2 e3 w
            refine ⟨_, base (some ad) len c l h m hb, ?_⟩
            by_cases hcl : m = l
            · rw [if_pos hcl, if_pos hcl]
              exact .ros _ _ _ _ bb k0 g ad hbb (by omega) (.inl (by omega)) hc hvv
            · rw [if_neg hcl, if_neg hcl]
              have hadd : ad = ⟨bb, k0 + oo, none⟩ := had.resolve_left (by omega)
              simp only [Option.map_some]
              rw [hadd, add_mk, Nat.add_assoc]
              exact .ros _ _ _ _ bb k0 g _ hbb (by omega) (.inr rfl) hc hvv
          · simp at hv
        · simp at hv
      · simp at hv
  · simp at hv

theorem does_slsl {o : Oper} {t : TypeId} {x : Operand} {lo hi mx : Option Operand} (ho : o.op = .slice t x lo hi mx) {e : TypeId} (ht : P.underlying t = some (.slice e)) {s : Nat} (hs : szOf P e = some s) {a : Arg} {alo ahi amx : Option Arg}
    (ha : cArg G x = some a) (hlo : cOpt G lo = some alo) (hhi : cOpt G hi = some ahi) (hmx : cOpt G mx = some amx) (hO : OR G E τ ρ o.op.operands.toList) {v : V} (hv : (POp.slsl s a alo ahi amx).ev τ = some v) (w : World) : Does P E w ρ o v := by
  rw [ho] at hO
  have hml : ∀ y, lo = some y → y ∈ (Op.slice t x lo hi mx).operands.toList := by rintro y rfl; simp [Op.operands]
  have hmh : ∀ y, hi = some y → y ∈ (Op.slice t x lo hi mx).operands.toList := by rintro y rfl; simp [Op.operands]
  have hmm : ∀ y, mx = some y → y ∈ (Op.slice t x lo hi mx).operands.toList := by rintro y rfl; simp [Op.operands]
  refine Gives.does (s := Instr.sliceAt t (ρ x) (lo.map ρ) (hi.map ρ) (mx.map ρ)) ?_ (by simp [execOp, ho])
  simp only [POp.ev] at hv
  split at hv
  · rename_i u hu
    split at hv
    · rename_i vlo hvlo
      split at hv
      · rename_i vhi hvhi
        split at hv
        · rename_i vmx hvmx
          split at hv
          · simp at hv
          · rename_i hne
            refine give_slsl ht hs (hO.one (x := x) (by simp [Op.operands]) ha hu) (hO.opt hml hlo hvlo) (hO.opt hmh hhi hvhi) (hO.opt hmm hmx hvmx) ?_ hv w
            intro h1
            cases vmx with
            | none => simp at h1
            | some m => cases vhi with
              | none => exact (hne m rfl rfl).elim
              | some _ => rfl
        · simp at hv
      · simp at hv
    · simp at hv
  · simp at hv

theorem does_slar {o : Oper} {t : TypeId} {x : Operand} {lo hi mx : Option Operand} (ho : o.op = .slice t x lo hi mx) {e : TypeId} {n : Nat}
    (ht : P.underlying t = some (.array n e) ∨ ∃ arr, P.underlying t = some (.pointer arr) ∧ P.underlying arr = some (.array n e)) {s : Nat} (hs : szOf P e = some s) {a : Arg} {alo ahi amx : Option Arg}
    (ha : cArg G x = some a) (hlo : cOpt G lo = some alo) (hhi : cOpt G hi = some ahi) (hmx : cOpt G mx = some amx) (hO : OR G E τ ρ o.op.operands.toList) {v : V} (hv : (POp.slar n s a alo ahi amx).ev τ = some v) (w : World) : Does P E w ρ o v := by
  rw [ho] at hO
  have hml : ∀ y, lo = some y → y ∈ (Op.slice t x lo hi mx).operands.toList := by rintro y rfl; simp [Op.operands]
  have hmh : ∀ y, hi = some y → y ∈ (Op.slice t x lo hi mx).operands.toList := by rintro y rfl; simp [Op.operands]
  have hmm : ∀ y, mx = some y → y ∈ (Op.slice t x lo hi mx).operands.toList := by rintro y rfl; simp [Op.operands]
  refine Gives.does (s := Instr.sliceAt t (ρ x) (lo.map ρ) (hi.map ρ) (mx.map ρ)) ?_ (by simp [execOp, ho])
  simp only [POp.ev] at hv
  split at hv
  · rename_i u hu
    split at hv
    · rename_i vlo hvlo
      split at hv
      · rename_i vhi hvhi
        split at hv
        · rename_i vmx hvmx
          split at hv
          · simp at hv
          · rename_i hne
            have olo := hO.opt hml hlo hvlo
            have ohi := hO.opt hmh hhi hvhi
            have omx := hO.opt hmm hmx hvmx
            have hx := hO.one (x := x) (by simp [Op.operands]) ha hu
            have hm : vmx.isSome = true → vhi.isSome = true := by
              intro h1
              cases vmx with
              | none => simp at h1
              | some m => cases vhi with
                | none => exact (hne m rfl rfl).elim
                | some _ => rfl
            split at hv
            · rename_i m e1
              split at hv
              · rename_i h e2
                split at hv
                · rename_i l e3
                  have hmle : m ≤ n := bnd_le e1 (by omega)
                  have hhm' : h ≤ m := by
                    cases vmx with
                    | none => simp [bnd] at e1; exact bnd_le e2 (by omega)
                    | some u =>
                      cases vhi with
                      | none => simp at hm
                      | some u => cases u <;> simp only [bnd] at e2 <;> try simp at e2
                                  · omega
                  have hl' : l ≤ h := bnd_le e3 (by omega)
                  have hb := run_sliceBounds (P := P) (isSlice := false) (len := n) (cap := n) olo ohi omx hm e1 e2 e3 w
                  have base : ∀ ad : Addr, (Instr.sliceAt t (.pointer (some ad)) (lo.map ρ) (hi.map ρ) (mx.map ρ)).run P w = .ok (.slice (some (if m = l then ad else ad.add (l * s))) (h - l) (m - l)) w := by
                    intro ad
                    rcases ht with ht | ⟨arr, ht, ht'⟩
                    · simp [Instr.sliceAt, run_underlying ht, Instr.sureAddr, hb, run_sizeOf' hs]
                    · simp [Instr.sliceAt, Instr.slice, run_underlying ht, run_underlying ht', asAddr, hb, run_sizeOf' hs]
                  split at hv
                  · rename_i y vv oo
                    simp at hv; subst hv
                    generalize ρ x = c at hx
                    cases hx with
                    | ptr _ _ _ p hp hl =>
                      refine ⟨_, base _, ?_⟩
                      by_cases hcl : m = l
                      · rw [if_pos hcl, if_pos hcl]
                        exact .sl _ _ _ _ _ _ _ p _ hp (by omega) (by omega) (.inl (by omega)) rfl
                      · rw [if_neg hcl, if_neg hcl, Place.addr_add p _ hl]
                        exact .sl _ _ _ _ _ _ _ p _ hp (by omega) (by omega) (.inr rfl) rfl
                  · rename_i cc oo
                    simp at hv; subst hv
                    generalize ρ x = c at hx
                    cases hx with
                    | rop _ _ bb k0 g hbb hc hvv =>
                      refine ⟨_, base _, ?_⟩
                      by_cases hcl : m = l
                      · rw [if_pos hcl, if_pos hcl]
                        exact .ros _ _ _ _ bb k0 g _ hbb (by omega) (.inl (by omega)) hc hvv
                      · rw [if_neg hcl, if_neg hcl, add_mk, Nat.add_assoc]
                        exact .ros _ _ _ _ bb k0 g _ hbb (by omega) (.inr rfl) hc hvv
                  · simp at hv
                · simp at hv
              · simp at hv
            · simp at hv
        · simp at hv
      · simp at hv
    · simp at hv
  · simp at hv

end
end Go.Proofs.YtahgfodccndcjaaGreatEng

namespace Go.Proofs.YtahgfodccndcjaaGreatEng
open Go
section
variable {P : Program} {G : Nat → Option V} {E : Env} {τ : Tr V} {ρ : Operand → Value}

theorem exec_builtin {o : Oper} {b : Builtin} {c : Call} (ho : o.op = .call c) (hc : c.callee = .builtin b) (w : World) :
    ∃ consts, (execOp ρ o).run P w = (builtin b c.argTypes o.type consts (c.args.map ρ)).run P w :=
  ⟨_, by simp [execOp, ho, resolve, hc, invoke]; rfl⟩

theorem arr_of_list1 {α : Type} {a : Array α} {x : α} (h : a.toList = [x]) : a = #[x] := by apply Array.ext'; simpa using h
theorem arr_of_list2 {α : Type} {a : Array α} {x y : α} (h : a.toList = [x, y]) : a = #[x, y] := by apply Array.ext'; simpa using h

theorem mem_call {c : Call} {x : Operand} (h : x ∈ c.args.toList) : x ∈ (Op.call c).operands.toList := by
  simp only [Op.operands, Call.operands, Array.toList_append, List.mem_append]
  exact .inr h

theorem does_lenS {o : Oper} {c : Call} (ho : o.op = .call c) (hc : c.callee = .builtin .len) {x : Operand} (hx : c.args.toList = [x]) {t : TypeId} (ht : c.argTypes[0]? = some t) (hu : P.underlying t = some .string) {a : Arg} (ha : cArg G x = some a)
    (hO : OR G E τ ρ o.op.operands.toList) {v : V} (hv : (POp.lenS a).ev τ = some v) (w : World) : Does P E w ρ o v := by
  rw [ho] at hO
  obtain ⟨consts, he⟩ := exec_builtin (P := P) (ρ := ρ) ho hc w
  simp only [POp.ev] at hv
  split at hv
  · rename_i l hl
    obtain ⟨s, hs, rfl⟩ := (hO.one (x := x) (mem_call (by rw [hx]; simp)) ha hl).str_inv
    simp at hv; subst hv
    refine ⟨.int .i64 s.size, ?_, .int _ _⟩
    rw [he, arr_of_list1 hx]
    simp [builtin, Builtin.len_, ht, run_underlying hu, hs, goInt]
  · simp at hv

theorem does_lens {o : Oper} {c : Call} (ho : o.op = .call c) (hc : c.callee = .builtin .len) {x : Operand} (hx : c.args.toList = [x]) {t e : TypeId} (ht : c.argTypes[0]? = some t) (hu : P.underlying t = some (.slice e)) {a : Arg} (ha : cArg G x = some a)
    (hO : OR G E τ ρ o.op.operands.toList) {v : V} (hv : (POp.lens a).ev τ = some v) (w : World) : Does P E w ρ o v := by
  rw [ho] at hO
  obtain ⟨consts, he⟩ := exec_builtin (P := P) (ρ := ρ) ho hc w
  have run : ∀ ad n cap, ρ x = .slice ad n cap → (execOp ρ o).run P w = .ok (.value (.int .i64 n)) w := by
    intro ad n cap hr
    rw [he, arr_of_list1 hx]
    simp [builtin, Builtin.len_, ht, run_underlying hu, hr, goInt]
  simp only [POp.ev] at hv
  split at hv
  · rename_i hl
    have := hO.one (x := x) (mem_call (by rw [hx]; simp)) ha hl
    simp at hv; subst hv
    generalize hr : ρ x = r at this
    cases this
    exact ⟨_, run _ _ _ hr, .int _ _⟩
  · rename_i hl
    have := hO.one (x := x) (mem_call (by rw [hx]; simp)) ha hl
    simp at hv; subst hv
    generalize hr : ρ x = r at this
    cases this
    exact ⟨_, run _ _ _ hr, .int _ _⟩
  · rename_i hl
    have := hO.one (x := x) (mem_call (by rw [hx]; simp)) ha hl
    simp at hv; subst hv
    generalize hr : ρ x = r at this
    cases this
    exact ⟨_, run _ _ _ hr, .int _ _⟩
  · simp at hv

theorem does_lena {o : Oper} {c : Call} (ho : o.op = .call c) (hc : c.callee = .builtin .len) {x : Operand} (hx : c.args.toList = [x]) {t e : TypeId} {n : Nat} (ht : c.argTypes[0]? = some t) (hu : P.underlying t = some (.array n e))
    {v : V} (hv : (POp.lena n).ev τ = some v) (w : World) : Does P E w ρ o v := by
  obtain ⟨consts, he⟩ := exec_builtin (P := P) (ρ := ρ) ho hc w
  simp [POp.ev] at hv; subst hv
  refine ⟨.int .i64 n, ?_, .int _ _⟩
  rw [he, arr_of_list1 hx]
  simp [builtin, Builtin.len_, ht, run_underlying hu, goInt]

theorem does_caps {o : Oper} {c : Call} (ho : o.op = .call c) (hc : c.callee = .builtin .cap) {x : Operand} (hx : c.args.toList = [x]) {t e : TypeId} (ht : c.argTypes[0]? = some t) (hu : P.underlying t = some (.slice e)) {a : Arg} (ha : cArg G x = some a)
    (hO : OR G E τ ρ o.op.operands.toList) {v : V} (hv : (POp.caps a).ev τ = some v) (w : World) : Does P E w ρ o v := by
  rw [ho] at hO
  obtain ⟨consts, he⟩ := exec_builtin (P := P) (ρ := ρ) ho hc w
  have run : ∀ ad n cap, ρ x = .slice ad n cap → (execOp ρ o).run P w = .ok (.value (.int .i64 cap)) w := by
    intro ad n cap hr
    rw [he, arr_of_list1 hx]
    simp [builtin, Builtin.cap_, ht, run_underlying hu, hr, goInt]
  simp only [POp.ev] at hv
  split at hv
  · rename_i hl
    have := hO.one (x := x) (mem_call (by rw [hx]; simp)) ha hl
    simp at hv; subst hv
    generalize hr : ρ x = r at this
    cases this
    exact ⟨_, run _ _ _ hr, .int _ _⟩
  · rename_i hl
    have := hO.one (x := x) (mem_call (by rw [hx]; simp)) ha hl
    simp at hv; subst hv
    generalize hr : ρ x = r at this
    cases this with
    | sl _ _ _ _ _ _ ccap p ad hp hl' hlen had hcc =>
      simp only at hcc; subst hcc
      exact ⟨_, run _ _ _ hr, .int _ _⟩
  · rename_i hl
    have := hO.one (x := x) (mem_call (by rw [hx]; simp)) ha hl
    simp at hv; subst hv
    generalize hr : ρ x = r at this
    cases this
    exact ⟨_, run _ _ _ hr, .int _ _⟩
  · simp at hv

theorem does_sdata {o : Oper} {c : Call} (ho : o.op = .call c) (hc : c.callee = .builtin .unsafeSliceData) {x : Operand} (hx : c.args.toList = [x]) {a : Arg} (ha : cArg G x = some a)
    (hO : OR G E τ ρ o.op.operands.toList) {v : V} (hv : (POp.sdata a).ev τ = some v) (w : World) : Does P E w ρ o v := by
  rw [ho] at hO
  obtain ⟨consts, he⟩ := exec_builtin (P := P) (ρ := ρ) ho hc w
  simp only [POp.ev] at hv
  split at hv
  · rename_i hl
    have := hO.one (x := x) (mem_call (by rw [hx]; simp)) ha hl
    simp at hv; subst hv
    generalize hr : ρ x = r at this
    cases this
    refine ⟨.pointer none, ?_, .nilp⟩
    rw [he, arr_of_list1 hx, show Array.map ρ #[x] = #[ρ x] by simp, hr]; rfl
  · rename_i hl
    have := hO.one (x := x) (mem_call (by rw [hx]; simp)) ha hl
    split at hv
    · rename_i h0
      simp at hv; subst hv
      generalize hr : ρ x = r at this
      cases this with
      | sl _ _ _ _ _ _ ccap p ad hp hl' hlen had hcc =>
        have hadd := had.resolve_left (by omega)
        refine ⟨.pointer (some ad), ?_, ?_⟩
        · rw [he, arr_of_list1 hx, show Array.map ρ #[x] = #[ρ x] by simp, hr]
          show ((if ccap ≠ 0 then pure (.pointer (some ad)) else _ : Sem Value) >>= fun v => pure (Next.value v)).run P w = _
          rw [if_pos (by omega)]; rfl
        · rw [hadd]; exact .ptr _ _ _ p hp hl'
    · simp at hv
  · simp at hv

/- least, greatest -/
theorem fold_min {r : List V} {C : List Value} (h : VRL E r C) {k : IntKind} {n m : Int} (hm : minL n r k = some m) (w : World) : (C.foldlM Builtin.min2 (.int k n)).run P w = .ok (.int k m) w := by
  induction r generalizing C n with
  | nil => rw [h.nil_left]; simp [minL] at hm; subst hm; rfl
  | cons v r ih =>
    obtain ⟨cv, C', rfl, hv, hr⟩ := h.cons_left
    cases v with
    | int k' n' =>
      simp only [minL] at hm
      split at hm
      · rw [hv.int_inv]
        simp only [List.foldlM_cons, Sem.run_bind, Builtin.min2, Sem.run_pure, Result.andThen_ok]
        exact ih hr hm
      · simp at hm
    | _ => simp [minL] at hm
theorem fold_max {r : List V} {C : List Value} (h : VRL E r C) {k : IntKind} {n m : Int} (hm : maxL n r k = some m) (w : World) : (C.foldlM Builtin.max2 (.int k n)).run P w = .ok (.int k m) w := by
  induction r generalizing C n with
  | nil => rw [h.nil_left]; simp [maxL] at hm; subst hm; rfl
  | cons v r ih =>
    obtain ⟨cv, C', rfl, hv, hr⟩ := h.cons_left
    cases v with
    | int k' n' =>
      simp only [maxL] at hm
      split at hm
      · rw [hv.int_inv]
        simp only [List.foldlM_cons, Sem.run_bind, Builtin.max2, Sem.run_pure, Result.andThen_ok]
        exact ih hr hm
      · simp at hm
    | _ => simp [maxL] at hm

theorem does_mn {o : Oper} {c : Call} (ho : o.op = .call c) (hc : c.callee = .builtin .min) {as : List Arg} (ha : cArgs G c.args.toList = some as)
    (hO : OR G E τ ρ o.op.operands.toList) {v : V} (hv : (POp.mn as).ev τ = some v) (w : World) : Does P E w ρ o v := by
  rw [ho] at hO
  obtain ⟨consts, he⟩ := exec_builtin (P := P) (ρ := ρ) ho hc w
  simp only [POp.ev] at hv
  split at hv
  · rename_i k n r hl
    split at hv
    · rename_i m hm
      simp at hv; subst hv
      have hL := (hO.sub (ys := c.args.toList) fun y hy => mem_call hy).list ha hl
      obtain ⟨cv, C', hC, hcv, hr⟩ := hL.cons_left
      refine ⟨.int k m, ?_, .int _ _⟩
      rw [he]
      rw [hcv.int_inv] at hC
      have := fold_min (P := P) hr hm w
      simp only [builtin, Builtin.min_, Array.toList_map, hC]
      simp [this]
    · simp at hv
  · simp at hv
theorem does_mx {o : Oper} {c : Call} (ho : o.op = .call c) (hc : c.callee = .builtin .max) {as : List Arg} (ha : cArgs G c.args.toList = some as)
    (hO : OR G E τ ρ o.op.operands.toList) {v : V} (hv : (POp.mx as).ev τ = some v) (w : World) : Does P E w ρ o v := by
  rw [ho] at hO
  obtain ⟨consts, he⟩ := exec_builtin (P := P) (ρ := ρ) ho hc w
  simp only [POp.ev] at hv
  split at hv
  · rename_i k n r hl
    split at hv
    · rename_i m hm
      simp at hv; subst hv
      have hL := (hO.sub (ys := c.args.toList) fun y hy => mem_call hy).list ha hl
      obtain ⟨cv, C', hC, hcv, hr⟩ := hL.cons_left
      refine ⟨.int k m, ?_, .int _ _⟩
      rw [he]
      rw [hcv.int_inv] at hC
      have := fold_max (P := P) hr hm w
      simp only [builtin, Builtin.max_, Array.toList_map, hC]
      simp [this]
    · simp at hv
  · simp at hv

/- ---- aggregates ---- -/

theorem foldl_set (c : List Value) (off : Nat) : ∀ (cs : Array Value) (k : Nat), off + k + c.length ≤ cs.size →
    ((c.zipIdx k).foldl (fun cs (x : Value × Nat) => cs.setIfInBounds (off + x.2) x.1) cs).toList = cs.toList.take (off + k) ++ c ++ cs.toList.drop (off + k + c.length) := by
  induction c with
  | nil => intro cs k h; simp
  | cons x c ih =>
    intro cs k h
    simp only [List.zipIdx_cons, List.foldl_cons]
    rw [ih _ (k + 1) (by simp at h ⊢; omega)]
    have hl : cs.toList.length = cs.size := by simp
    simp only [Array.toList_setIfInBounds, List.length_cons]
    rw [List.take_set, List.drop_set_of_lt (by omega), show off + (k + 1) = off + k + 1 by omega,
      List.take_add_one, List.set_append_right _ _ (by simp; omega)]
    have hlen : (cs.toList.take (off + k)).length = off + k := by simp at h ⊢; omega
    rw [hlen, Nat.sub_self]
    have hget : cs.toList[off + k]? = some (cs.toList[off + k]'(by simp at h ⊢; omega)) := List.getElem?_eq_getElem _
    rw [hget]
    simp only [Option.toList_some, List.set_cons_zero, List.append_assoc, List.singleton_append]
    congr 3
    omega

/-- Two lists, place by place. -/
inductive F2 {α β : Type} (R : α → β → Prop) : List α → List β → Prop
  | nil : F2 R [] []
  | cons {a b l m} (h : R a b) (r : F2 R l m) : F2 R (a :: l) (b :: m)

theorem fill_rel : ∀ {l : List (Nat × Nat × V)} {L : List (Nat × Value)} {zs c : List V} {Z : Array Value} (place : Nat → Option (Nat × Nat)),
    F2 (fun (a : Nat × Nat × V) (b : Nat × Value) => place b.1 = some (a.1, a.2.1) ∧ VR E a.2.2 b.2) l L → VRL E zs Z.toList → fillL zs l = some c → ∃ C : Array Value, Instr.fill place Z L = some C ∧ VRL E c C.toList
  | [], _, zs, c, Z, place, h, hz, hf => by
    cases h
    simp [fillL] at hf; subst hf
    exact ⟨Z, rfl, hz⟩
  | (off, size, v) :: l, _, zs, c, Z, place, h, hz, hf => by
    cases h with
    | @cons _ b _ L' hab hr =>
    obtain ⟨i, cv⟩ := b
    obtain ⟨hp, hv⟩ := hab
    simp only at hp hv
    simp only [fillL] at hf
    split at hf
    · rename_i hcond
      have hcells := hv.cells
      have hlen : cv.cells.size = size := by have := hcells.1; simp at this; omega
      have hzl : zs.length = Z.size := by have := hz.1; simpa using this
      have hset := foldl_set cv.cells.toList off Z 0 (by simp; omega)
      simp only [Nat.add_zero] at hset
      have hnew : VRL E (zs.take off ++ v.cells ++ zs.drop (off + size)) (cv.cells.zipIdx.foldl (fun cs (x : Value × Nat) => cs.setIfInBounds (off + x.2) x.1) Z).toList := by
        rw [← Array.foldl_toList, Array.toList_zipIdx, hset]
        refine ((hz.take off).append hcells).append ?_
        have : cv.cells.toList.length = size := by simpa using hlen
        rw [this]
        exact hz.drop _
      obtain ⟨C, h1, h2⟩ := fill_rel place hr hnew hf
      refine ⟨C, ?_, h2⟩
      have e1 : (decide (cv.cells.size ≠ size) || decide (off + cv.cells.size > Z.size)) = false := by simp; omega
      simp only [Instr.fill, hp, e1, Bool.false_eq_true, if_false]
      exact h1
    · simp at hf

theorem evParts_rel {place : Nat → Option (Nat × Nat)} : ∀ {ps : List (Nat × Operand)} {as : List (Nat × Nat × Arg)} {l : List (Nat × Nat × V)}, cParts G place ps = some as → evParts τ as = some l →
    (∀ x ∈ ps.map (·.2), ∀ a, cArg G x = some a → ∀ v, a.ev τ = some v → VR E v (ρ x)) →
    F2 (fun (a : Nat × Nat × V) (b : Nat × Value) => place b.1 = some (a.1, a.2.1) ∧ VR E a.2.2 b.2) l (ps.map fun p => (p.1, ρ p.2))
  | [], as, l, hc, he, hO => by simp [cParts] at hc; subst hc; simp [evParts] at he; subst he; exact .nil
  | (i, x) :: ps, as, l, hc, he, hO => by
    simp only [cParts] at hc
    split at hc
    · rename_i o s hp
      split at hc
      · rename_i a ha
        split at hc
        · rename_i as' has
          simp at hc; subst hc
          simp only [evParts] at he
          split at he
          · rename_i v hv
            split at he
            · rename_i l' hl
              simp at he; subst he
              exact .cons ⟨hp, hO x (by simp) a ha v hv⟩ (evParts_rel has hl fun y hy => hO y (by simp at hy ⊢; exact .inr hy))
            · simp at he
          · simp at he
        · simp at hc
      · simp at hc
    · simp at hc

theorem zcOf_run {t : TypeId} {z : List V} (h : zcOf P t = some z) (w : World) : ∃ zv : Value, (zeroValue t).run P w = .ok zv w ∧ VRL E z zv.cells.toList := by
  unfold zcOf zeroOf at h
  simp only [Option.map_eq_some_iff] at h
  obtain ⟨v, hv, rfl⟩ := h
  split at hv
  · rename_i i hi
    split at hv
    · rename_i zv hzv
      exact ⟨zv, by simp [zeroValue, typeInfo, hi, hzv], (ofVal_VR hv).cells⟩
    · simp at hv
  · simp at hv

theorem fieldPlaces_run : ∀ {fs : List Field} {pl : List (Nat × Nat)}, fieldPlaces P fs = some pl → ∀ w : World, (fs.mapM (fun f => (do pure (f.offset, ← sizeOf f.type) : Sem (Nat × Nat)))).run P w = .ok pl w
  | [], pl, h, w => by simp [fieldPlaces] at h; subst h; rfl
  | f :: fs, pl, h, w => by
    simp only [fieldPlaces] at h
    split at h
    · rename_i s hs
      split at h
      · rename_i l hl
        simp at h; subst h
        rw [List.mapM_cons]
        have := fieldPlaces_run hl w
        simp only [Sem.run_bind, run_sizeOf' hs, Result.andThen_ok, Sem.run_pure, this]
      · simp at h
    · simp at h

theorem does_build {o : Oper} {t : TypeId} {ps : Array (Nat × Operand)} (ho : o.op = .build t ps) {z : List V} (hz : zcOf P t = some z) {as : List (Nat × Nat × Arg)}
    (hp : (∃ fs pl, P.underlying t = some (.struct fs) ∧ fieldPlaces P fs.toList = some pl ∧ cParts G (fun i => pl[i]?) ps.toList = some as) ∨
      ∃ n e s, P.underlying t = some (.array n e) ∧ szOf P e = some s ∧ cParts G (fun i => some (i * s, s)) ps.toList = some as)
    (hO : OR G E τ ρ o.op.operands.toList) {v : V} (hv : (POp.build z as).ev τ = some v) (w : World) : Does P E w ρ o v := by
  rw [ho] at hO
  refine Gives.does (s := Instr.build t (ps.map fun (i, x) => (i, ρ x))) ?_ (by simp [execOp, ho])
  have hO' : ∀ x ∈ ps.toList.map (·.2), ∀ a, cArg G x = some a → ∀ v, a.ev τ = some v → VR E v (ρ x) := fun x hx => hO x (by simpa [Op.operands] using hx)
  obtain ⟨zv, hzr, hzc⟩ := zcOf_run (E := E) hz w
  simp only [POp.ev] at hv
  split at hv
  · rename_i l hl
    split at hv
    · rename_i c hc
      simp at hv; subst hv
      rcases hp with ⟨fs, pl, hu, hpl, hcp⟩ | ⟨n, e, s, hu, hs, hcp⟩
      · obtain ⟨C, h1, h2⟩ := fill_rel (E := E) (Z := zv.cells) (fun i => pl[i]?) (evParts_rel hcp hl hO') hzc hc
        refine ⟨.agg C, ?_, .mk_agg h2⟩
        have hm := fieldPlaces_run hpl w
        have hm' : (fs.mapM (fun f => (do pure (f.offset, ← sizeOf f.type) : Sem (Nat × Nat)))).run P w = .ok pl.toArray w := by
          rw [← Array.toArray_toList (xs := fs), List.mapM_toArray]
          simp only [Sem.run_map, hm, Result.andThen_ok]
        simp only [Instr.build, Sem.run_bind, hzr, Result.andThen_ok, run_underlying hu, hm', Array.toList_map, List.getElem?_toArray]
        rw [h1]; rfl
      · obtain ⟨C, h1, h2⟩ := fill_rel (E := E) (Z := zv.cells) (fun i => some (i * s, s)) (evParts_rel hcp hl hO') hzc hc
        refine ⟨.agg C, ?_, .mk_agg h2⟩
        simp only [Instr.build, Sem.run_bind, hzr, Result.andThen_ok, run_underlying hu, run_sizeOf' hs, Array.toList_map]
        rw [h1]; rfl
    · simp at hv
  · simp at hv

end
end Go.Proofs.YtahgfodccndcjaaGreatEng

