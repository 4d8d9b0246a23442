/- The engine, part 8: operations that look at no memory. -/
import Derived.Test.YtplaefbblpiehaaEng7
namespace Go.Proofs.YtplaefbblpiehaaEng
open Go
section
variable {P : Program} {G : Nat → Option V} {E : Env} {τ : Tr V} {ρ : Operand → Value}

def Does (P : Program) (E : Env) (w : World) (ρ : Operand → Value) (o : Oper) (v : V) : Prop := ∃ cv, (execOp ρ o).run P w = .ok (.value cv) w ∧ VR E v cv

theorem Gives.does {w : World} {s : Sem Value} {v : V} (h : Gives P E w s v) {o : Oper} (he : execOp ρ o = (do pure (Next.value (← s)))) : Does P E w ρ o v := by
  obtain ⟨cv, h1, h2⟩ := h
  exact ⟨cv, by rw [he]; simp [h1], h2⟩

theorem OR.one {xs : List Operand} (h : OR G E τ ρ xs) {x : Operand} (hx : x ∈ xs) {a : Arg} (ha : cArg G x = some a) {v : V} (hv : a.ev τ = some v) : VR E v (ρ x) := h x hx a ha v hv

theorem VR.int_inv {k : IntKind} {n : Int} {c : Value} (h : VR E (.int k n) c) : c = .int k n := by cases h; rfl
theorem VR.bool_inv {b : Bool} {c : Value} (h : VR E (.bool b) c) : c = .bool b := by cases h; rfl
theorem VR.str_inv {l : List Nat} {c : Value} (h : VR E (.str l) c) : ∃ s : ByteArray, c = .string s ∧ l = s.data.toList.map (·.toNat) := by cases h; exact ⟨_, rfl, rfl⟩

theorem does_mv {o : Oper} {x : Operand} (ho : o.op = .move x ∨ o.op = .assign x) {a : Arg} (ha : cArg G x = some a) (hO : OR G E τ ρ o.op.operands.toList) {v : V} (hv : (POp.mv a).ev τ = some v) (w : World) : Does P E w ρ o v := by
  have hx : x ∈ o.op.operands.toList := by rcases ho with h | h <;> rw [h] <;> simp [Op.operands]
  refine ⟨ρ x, ?_, hO.one hx ha hv⟩
  rcases ho with h | h <;> simp [execOp, h]

theorem does_pick {o : Oper} {c x y : Operand} (ho : o.op = .pick c x y) {ac ax ay : Arg} (hc : cArg G c = some ac) (hx : cArg G x = some ax) (hy : cArg G y = some ay) (hO : OR G E τ ρ o.op.operands.toList) {v : V}
    (hv : (POp.pick ac ax ay).ev τ = some v) (w : World) : Does P E w ρ o v := by
  rw [ho] at hO
  simp only [POp.ev] at hv
  split at hv
  · rename_i h
    have := (hO.one (x := c) (by simp [Op.operands]) hc h).bool_inv
    exact ⟨ρ x, by simp [execOp, ho, this, asBool], hO.one (x := x) (by simp [Op.operands]) hx hv⟩
  · rename_i h
    have := (hO.one (x := c) (by simp [Op.operands]) hc h).bool_inv
    exact ⟨ρ y, by simp [execOp, ho, this, asBool], hO.one (x := y) (by simp [Op.operands]) hy hv⟩
  · simp at hv

theorem give_veq_sc {t : TypeId} {d : TypeDesc} {k : SK} (hu : P.underlying t = some d) (hk : scOf P d = some k) {x y : V} {cx cy : Value} (hx : VR E x cx) (hy : VR E y cy) {r : Bool} (h : vsc k x y = some r) (w : World) :
    (Op.equal t cx cy).run P w = .ok r w := by
  unfold Op.equal Op.maxDepth
  exact run_equalIn_sc hu hk hx hy h 9999 w

theorem binOp_eql {t : TypeId} {cx cy : Value} (h : ∀ k k' a b, ¬ (cx = .int k a ∧ cy = .int k' b)) (h2 : ∀ a b, ¬ (cx = .string a ∧ cy = .string b)) (h3 : ∀ k a k' b, ¬ (cx = .float k a ∧ cy = .float k' b))
    (h4 : ∀ k a b k' c d, ¬ (cx = .complex k a b ∧ cy = .complex k' c d)) : binOp .eql t cx cy = (do pure (.bool (← Op.equal t cx cy))) ∧ binOp .neq t cx cy = (do pure (.bool (!(← Op.equal t cx cy)))) := by
  cases cx <;> cases cy <;> first
    | exact ⟨rfl, rfl⟩
    | exact (h _ _ _ _ ⟨rfl, rfl⟩).elim
    | exact (h2 _ _ ⟨rfl, rfl⟩).elim
    | exact (h3 _ _ _ _ ⟨rfl, rfl⟩).elim
    | exact (h4 _ _ _ _ _ _ ⟨rfl, rfl⟩).elim

theorem vsc_not_float {k : SK} {x y : V} {cx cy : Value} (hx : VR E x cx) (hy : VR E y cy) {r : Bool} (h : vsc k x y = some r) :
    (∀ k a k' b, ¬ (cx = .float k a ∧ cy = .float k' b)) ∧ (∀ k a b k' c d, ¬ (cx = .complex k a b ∧ cy = .complex k' c d)) := by
  refine ⟨?_, ?_⟩
  · rintro k1 a k2 b ⟨rfl, rfl⟩
    cases hx; cases hy
    cases k <;> simp [vsc] at h
  · rintro k1 a b k2 c d ⟨rfl, rfl⟩
    cases hx; cases hy
    cases k <;> simp [vsc] at h


theorem scOf_ifc {d : TypeDesc} (h : scOf P d = some .ifc) : ∃ ms, d = .interface ms := by
  cases d <;> simp [scOf] at h
  · split at h <;> simp at h
  · exact ⟨_, rfl⟩

theorem run_eqGuard_ifc {op : BinOp} {t : TypeId} {ms : Array (String × TypeId)} (hu : P.underlying t = some (.interface ms)) {x y : Operand} (hc : (ms.isEmpty || isC x || isC y) = true) (w : World) :
    (eqGuard op t x y .nilIface .nilIface).run P w = .ok () w := by
  have key : (Op.eqGuardIn Op.maxDepth t .nilIface .nilIface).run P w = .ok (!ms.isEmpty) w := by
    have : ∀ d, (Op.eqGuardIn (d + 1) t .nilIface .nilIface).run P w = .ok (!ms.isEmpty) w := fun d => by
      unfold Op.eqGuardIn
      rw [Sem.run_bind, run_underlying hu]; rfl
    exact this 9999
  have go : ∀ b : Bool, (ms.isEmpty || b) = true → (if b = true then pure () else (do if ← Op.eqGuardIn Op.maxDepth t .nilIface .nilIface then unsupported (.noEntry "binop/eql: two nil values of an interface type with methods, neither of them the literal nil")) : Sem Unit).run P w = .ok () w := by
    intro b hb
    cases b with
    | true => rfl
    | false =>
      have hms : ms.isEmpty = true := by simpa using hb
      simp [key, hms]
  cases op
  case eql => cases x <;> cases y <;> first | rfl | exact go false (by simpa [isC] using hc)
  case neq => cases x <;> cases y <;> first | rfl | exact go false (by simpa [isC] using hc)
  all_goals rfl

/-- The two values may be held against each other. -/
theorem run_eqGuard_plain {op : BinOp} {t : TypeId} {x y : Operand} {cx cy : Value} (h1 : ¬ (cx = .nilIface ∧ cy = .nilIface)) (h2 : (∃ a b, cx = .agg a ∧ cy = .agg b) → P.eqGuardType P.depth t = false) (w : World) :
    (eqGuard op t x y cx cy).run P w = .ok () w := by
  have go : ∀ op, (op = .eql ∨ op = .neq) → (eqGuard op t x y cx cy).run P w = .ok () w := by
    intro op hop
    have he : eqGuard op t x y cx cy = eqGuard .eql t x y cx cy := by rcases hop with rfl | rfl <;> rfl
    rw [he]
    cases cx with
    | nilIface => cases cy with
      | nilIface => exact (h1 ⟨rfl, rfl⟩).elim
      | _ => rfl
    | agg a => cases cy with
      | agg b =>
        exact run_eqGuard_agg w .eql t x y a b (h2 ⟨a, b, rfl, rfl⟩)
      | _ => rfl
    | _ => rfl
  cases op
  case eql => exact go .eql (.inl rfl)
  case neq => exact go .neq (.inr rfl)
  all_goals rfl

theorem not_int_str {x y : V} {cx cy : Value} (hx : VR E x cx) (hy : VR E y cy) (h1 : ∀ k a k' b, ¬ (x = .int k a ∧ y = .int k' b)) (h2 : ∀ a b, ¬ (x = .str a ∧ y = .str b)) (hax : x ≠ .any) (hay : y ≠ .any) :
    (∀ k k' a b, ¬ (cx = .int k a ∧ cy = .int k' b)) ∧ (∀ a b, ¬ (cx = .string a ∧ cy = .string b)) := by
  refine ⟨?_, ?_⟩
  · rintro k k' a b ⟨rfl, rfl⟩
    cases hx <;> cases hy <;> first | exact h1 _ _ _ _ ⟨rfl, rfl⟩ | exact hax rfl | exact hay rfl
  · rintro a b ⟨rfl, rfl⟩
    cases hx <;> cases hy <;> first | exact h2 _ _ ⟨rfl, rfl⟩ | exact hax rfl | exact hay rfl

theorem veq_not_any {q : EqT} {x y : V} {r : Bool} (h : veq q x y = some r) : x ≠ .any ∧ y ≠ .any := by
  unfold veq at h
  split at h
  · rename_i k
    refine ⟨?_, ?_⟩
    · rintro rfl; cases k <;> simp [vsc] at h
    · rintro rfl; cases k <;> cases x <;> simp [vsc] at h
  · split at h
    · exact ⟨by simp, by simp⟩
    · simp at h
  · simp at h

/-- the type of an equality fits its words -/
def QOk (P : Program) (t : TypeId) (x y : Operand) (q : EqT) : Prop :=
  (∃ ms, P.underlying t = some (.interface ms) ∧ (ms.isEmpty || isC x || isC y) = true ∧ q = .sc .ifc) ∨ ((∀ ms, P.underlying t ≠ some (.interface ms)) ∧ q = eqOf P t)

theorem run_veq {t : TypeId} {x y : Operand} {q : EqT} (hq : QOk P t x y q) {a b : V} {ca cb : Value} (ha : VR E a ca) (hb : VR E b cb) {r : Bool} (h : veq q a b = some r) (op : BinOp) (w : World) :
    (eqGuard op t x y ca cb).run P w = .ok () w ∧ (Op.equal t ca cb).run P w = .ok r w := by
  rcases hq with ⟨ms, hu, hc, rfl⟩ | ⟨hn, rfl⟩
  · simp only [veq] at h
    refine ⟨?_, give_veq_sc hu rfl ha hb h w⟩
    by_cases hnn : ca = .nilIface ∧ cb = .nilIface
    · obtain ⟨rfl, rfl⟩ := hnn; exact run_eqGuard_ifc hu hc w
    · refine run_eqGuard_plain hnn ?_ w
      rintro ⟨A, B, rfl, rfl⟩
      cases ha with
      | agg => simp [vsc] at h
      | any _ hc => simp [Value.oneCell'] at hc
  · unfold eqOf at h
    split at h
    · rename_i fs hu
      split at h
      · simp [veq] at h
      · rename_i hg
        obtain ⟨X, Y, rfl, rfl, he⟩ := run_equal_eqStruct hu ha hb h w
        exact ⟨run_eqGuard_plain (by simp) (fun _ => by simpa using hg) w, he⟩
    · rename_i d hns hu
      split at h
      · rename_i k hk
        simp only [veq] at h
        refine ⟨run_eqGuard_plain ?_ ?_ w, give_veq_sc hu hk ha hb h w⟩
        · rintro ⟨rfl, rfl⟩
          have hki : k = .ifc := by
            cases ha; cases hb
            all_goals cases k <;> simp [vsc] at h <;> rfl
          subst hki
          obtain ⟨ms, rfl⟩ := scOf_ifc hk
          exact hn ms hu
        · rintro ⟨A, B, rfl, rfl⟩
          cases ha with
          | agg => cases k <;> simp [vsc] at h
          | any _ hc => simp [Value.oneCell'] at hc
      · simp [veq] at h
    · simp [veq] at h

theorem does_bin {o : Oper} {op : BinOp} {t yt : TypeId} {x y : Operand} (ho : o.op = .binOp op t x y yt) {ax ay : Arg} {q : EqT} (hx : cArg G x = some ax) (hy : cArg G y = some ay) (hq : QOk P t x y q)
    (hO : OR G E τ ρ o.op.operands.toList) {v : V} (hv : (POp.bin op q ax ay).ev τ = some v) (w : World) : Does P E w ρ o v := by
  rw [ho] at hO
  have he : execOp ρ o = (do pure (Next.value (← (do eqGuard op t x y (ρ x) (ρ y); binOp op t (ρ x) (ρ y))))) := by simp [execOp, ho]
  simp only [POp.ev] at hv
  split at hv
  · rename_i a ha
    split at hv
    · rename_i b hb
      have hA := hO.one (x := x) (by simp [Op.operands]) hx ha
      have hB := hO.one (x := y) (by simp [Op.operands]) hy hb
      refine Gives.does ?_ he
      generalize ρ x = ca at *
      generalize ρ y = cb at *
      unfold vbin at hv
      split at hv
      · rename_i k n k' n'
        rw [hA.int_inv, hB.int_inv]
        have hg := run_eqGuard_plain (P := P) (op := op) (t := t) (x := x) (y := y) (cx := .int k n) (cy := .int k' n') (by simp) (by simp) w
        have hr : Gives P E w (binOp op t (.int k n) (.int k' n')) v := by
          split at hv
          · exact give_ishift hv t w
          · split at hv
            · rename_i hk; subst hk; exact give_ibin hv t w
            · simp at hv
        obtain ⟨cv, h1, h2⟩ := hr
        exact ⟨cv, by simp [hg, h1], h2⟩
      · rename_i l l'
        obtain ⟨s, rfl, rfl⟩ := hA.str_inv
        obtain ⟨s', rfl, rfl⟩ := hB.str_inv
        have hg := run_eqGuard_plain (P := P) (op := op) (t := t) (x := x) (y := y) (cx := .string s) (cy := .string s') (by simp) (by simp) w
        have hr : Gives P E w (binOp op t (.string s) (.string s')) v := by
          split at hv
          · simp at hv
          · rename_i hl
            refine give_sbin ?_ hv t w
            rintro rfl
            simpa using hl
        obtain ⟨cv, h1, h2⟩ := hr
        exact ⟨cv, by simp [hg, h1], h2⟩
      · rename_i h1 h2
        have fin : ∀ r, veq q a b = some r → (binOp .eql t ca cb = (do pure (.bool (← Op.equal t ca cb))) ∧ binOp .neq t ca cb = (do pure (.bool (!(← Op.equal t ca cb))))) := by
          intro r hr
          obtain ⟨n1, n2⟩ := veq_not_any hr
          obtain ⟨m1, m2⟩ := not_int_str hA hB (fun k n k' n' hc => h1 k n k' n' hc.1 hc.2) (fun l l' hc => h2 l l' hc.1 hc.2) n1 n2
          obtain ⟨m3, m4⟩ : (∀ k a k' b, ¬ (ca = .float k a ∧ cb = .float k' b)) ∧ (∀ k a b k' c d, ¬ (ca = .complex k a b ∧ cb = .complex k' c d)) := by
            refine ⟨?_, ?_⟩
            · rintro k1 a1 k2 b1 ⟨rfl, rfl⟩; cases hA; exact n1 rfl
            · rintro k1 a1 b1 k2 c1 d1 ⟨rfl, rfl⟩; cases hA; exact n1 rfl
          exact binOp_eql m1 m2 m3 m4
        split at hv
        · split at hv
          · rename_i r hr
            simp at hv; subst hv
            obtain ⟨g1, g2⟩ := run_veq hq hA hB hr .eql w
            exact ⟨.bool r, by simp [g1, (fin r hr).1, g2], .bool _⟩
          · simp at hv
        · split at hv
          · rename_i r hr
            simp at hv; subst hv
            obtain ⟨g1, g2⟩ := run_veq hq hA hB hr .neq w
            exact ⟨.bool (!r), by simp [g1, (fin r hr).2, g2], .bool _⟩
          · simp at hv
        · simp at hv
    · simp at hv
  · simp at hv

theorem cBin_spec {op : BinOp} {t : TypeId} {x y : Operand} {po : POp} (h : cBin P G op t x y = some po) : ∃ ax ay q, cArg G x = some ax ∧ cArg G y = some ay ∧ QOk P t x y q ∧ po = .bin op q ax ay := by
  unfold cBin at h
  split at h
  · rename_i ms hu
    split at h
    · rename_i hc
      split at h
      · rename_i a b ha hb
        simp at h
        exact ⟨a, b, _, ha, hb, .inl ⟨ms, hu, hc, rfl⟩, h.symm⟩
      · simp at h
    · simp at h
  · rename_i hn
    split at h
    · rename_i a b ha hb
      simp at h
      exact ⟨a, b, _, ha, hb, .inr ⟨hn, rfl⟩, h.symm⟩
    · simp at h

end
end Go.Proofs.YtplaefbblpiehaaEng
