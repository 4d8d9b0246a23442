/- The engine, part 11: built-ins without memory, aggregates; operations that read. -/
import Derived.Test.YtplaefbblpiehaaEng10
namespace Go.Proofs.YtplaefbblpiehaaEng
open Go
section
variable {P : Program} {G : Nat → Option V} {E : Env} {τ : Tr V} {ρ : Operand → Value}

theorem exec_builtin {o : Oper} {b : Builtin} {c : Call} (ho : o.op = .call c) (hc : c.callee = .builtin b) (w : World) :
    ∃ consts, (execOp ρ o).run P w = (builtin b c.argTypes o.type consts (c.args.map ρ)).run P w :=
  ⟨_, by simp [execOp, ho, resolve, hc, invoke]; rfl⟩

theorem arr_of_list1 {α : Type} {a : Array α} {x : α} (h : a.toList = [x]) : a = #[x] := by apply Array.ext'; simpa using h
theorem arr_of_list2 {α : Type} {a : Array α} {x y : α} (h : a.toList = [x, y]) : a = #[x, y] := by apply Array.ext'; simpa using h

theorem mem_call {c : Call} {x : Operand} (h : x ∈ c.args.toList) : x ∈ (Op.call c).operands.toList := by
  simp only [Op.operands, Call.operands, Array.toList_append, List.mem_append]
  exact .inr h

theorem does_lenS {o : Oper} {c : Call} (ho : o.op = .call c) (hc : c.callee = .builtin .len) {x : Operand} (hx : c.args.toList = [x]) {t : TypeId} (ht : c.argTypes[0]? = some t) (hu : P.underlying t = some .string) {a : Arg} (ha : cArg G x = some a)
    (hO : OR G E τ ρ o.op.operands.toList) {v : V} (hv : (POp.lenS a).ev τ = some v) (w : World) : Does P E w ρ o v := by
  rw [ho] at hO
  obtain ⟨consts, he⟩ := exec_builtin (P := P) (ρ := ρ) ho hc w
  simp only [POp.ev] at hv
  split at hv
  · rename_i l hl
    obtain ⟨s, hs, rfl⟩ := (hO.one (x := x) (mem_call (by rw [hx]; simp)) ha hl).str_inv
    simp at hv; subst hv
    refine ⟨.int .i64 s.size, ?_, .int _ _⟩
    rw [he, arr_of_list1 hx]
    simp [builtin, Builtin.len_, ht, run_underlying hu, hs, goInt]
  · simp at hv

theorem does_lens {o : Oper} {c : Call} (ho : o.op = .call c) (hc : c.callee = .builtin .len) {x : Operand} (hx : c.args.toList = [x]) {t e : TypeId} (ht : c.argTypes[0]? = some t) (hu : P.underlying t = some (.slice e)) {a : Arg} (ha : cArg G x = some a)
    (hO : OR G E τ ρ o.op.operands.toList) {v : V} (hv : (POp.lens a).ev τ = some v) (w : World) : Does P E w ρ o v := by
  rw [ho] at hO
  obtain ⟨consts, he⟩ := exec_builtin (P := P) (ρ := ρ) ho hc w
  have run : ∀ ad n cap, ρ x = .slice ad n cap → (execOp ρ o).run P w = .ok (.value (.int .i64 n)) w := by
    intro ad n cap hr
    rw [he, arr_of_list1 hx]
    simp [builtin, Builtin.len_, ht, run_underlying hu, hr, goInt]
  simp only [POp.ev] at hv
  split at hv
  · rename_i hl
    have := hO.one (x := x) (mem_call (by rw [hx]; simp)) ha hl
    simp at hv; subst hv
    generalize hr : ρ x = r at this
    cases this
    exact ⟨_, run _ _ _ hr, .int _ _⟩
  · rename_i hl
    have := hO.one (x := x) (mem_call (by rw [hx]; simp)) ha hl
    simp at hv; subst hv
    generalize hr : ρ x = r at this
    cases this
    exact ⟨_, run _ _ _ hr, .int _ _⟩
  · rename_i hl
    have := hO.one (x := x) (mem_call (by rw [hx]; simp)) ha hl
    simp at hv; subst hv
    generalize hr : ρ x = r at this
    cases this
    exact ⟨_, run _ _ _ hr, .int _ _⟩
  · simp at hv

theorem does_lena {o : Oper} {c : Call} (ho : o.op = .call c) (hc : c.callee = .builtin .len) {x : Operand} (hx : c.args.toList = [x]) {t e : TypeId} {n : Nat} (ht : c.argTypes[0]? = some t) (hu : P.underlying t = some (.array n e))
    {v : V} (hv : (POp.lena n).ev τ = some v) (w : World) : Does P E w ρ o v := by
  obtain ⟨consts, he⟩ := exec_builtin (P := P) (ρ := ρ) ho hc w
  simp [POp.ev] at hv; subst hv
  refine ⟨.int .i64 n, ?_, .int _ _⟩
  rw [he, arr_of_list1 hx]
  simp [builtin, Builtin.len_, ht, run_underlying hu, goInt]

theorem does_caps {o : Oper} {c : Call} (ho : o.op = .call c) (hc : c.callee = .builtin .cap) {x : Operand} (hx : c.args.toList = [x]) {t e : TypeId} (ht : c.argTypes[0]? = some t) (hu : P.underlying t = some (.slice e)) {a : Arg} (ha : cArg G x = some a)
    (hO : OR G E τ ρ o.op.operands.toList) {v : V} (hv : (POp.caps a).ev τ = some v) (w : World) : Does P E w ρ o v := by
  rw [ho] at hO
  obtain ⟨consts, he⟩ := exec_builtin (P := P) (ρ := ρ) ho hc w
  have run : ∀ ad n cap, ρ x = .slice ad n cap → (execOp ρ o).run P w = .ok (.value (.int .i64 cap)) w := by
    intro ad n cap hr
    rw [he, arr_of_list1 hx]
    simp [builtin, Builtin.cap_, ht, run_underlying hu, hr, goInt]
  simp only [POp.ev] at hv
  split at hv
  · rename_i hl
    have := hO.one (x := x) (mem_call (by rw [hx]; simp)) ha hl
    simp at hv; subst hv
    generalize hr : ρ x = r at this
    cases this
    exact ⟨_, run _ _ _ hr, .int _ _⟩
  · rename_i hl
    have := hO.one (x := x) (mem_call (by rw [hx]; simp)) ha hl
    simp at hv; subst hv
    generalize hr : ρ x = r at this
    cases this with
    | sl _ _ _ _ _ _ ccap p ad hp hl' hlen had hcc =>
      simp only at hcc; subst hcc
      exact ⟨_, run _ _ _ hr, .int _ _⟩
  · rename_i hl
    have := hO.one (x := x) (mem_call (by rw [hx]; simp)) ha hl
    simp at hv; subst hv
    generalize hr : ρ x = r at this
    cases this
    exact ⟨_, run _ _ _ hr, .int _ _⟩
  · simp at hv

theorem does_sdata {o : Oper} {c : Call} (ho : o.op = .call c) (hc : c.callee = .builtin .unsafeSliceData) {x : Operand} (hx : c.args.toList = [x]) {a : Arg} (ha : cArg G x = some a)
    (hO : OR G E τ ρ o.op.operands.toList) {v : V} (hv : (POp.sdata a).ev τ = some v) (w : World) : Does P E w ρ o v := by
  rw [ho] at hO
  obtain ⟨consts, he⟩ := exec_builtin (P := P) (ρ := ρ) ho hc w
  simp only [POp.ev] at hv
  split at hv
  · rename_i hl
    have := hO.one (x := x) (mem_call (by rw [hx]; simp)) ha hl
    simp at hv; subst hv
    generalize hr : ρ x = r at this
    cases this
    refine ⟨.pointer none, ?_, .nilp⟩
    rw [he, arr_of_list1 hx, show Array.map ρ #[x] = #[ρ x] by simp, hr]; rfl
  · rename_i hl
    have := hO.one (x := x) (mem_call (by rw [hx]; simp)) ha hl
    split at hv
    · rename_i h0
      simp at hv; subst hv
      generalize hr : ρ x = r at this
      cases this with
      | sl _ _ _ _ _ _ ccap p ad hp hl' hlen had hcc =>
        have hadd := had.resolve_left (by omega)
        refine ⟨.pointer (some ad), ?_, ?_⟩
        · rw [he, arr_of_list1 hx, show Array.map ρ #[x] = #[ρ x] by simp, hr]
          show ((if ccap ≠ 0 then pure (.pointer (some ad)) else _ : Sem Value) >>= fun v => pure (Next.value v)).run P w = _
          rw [if_pos (by omega)]; rfl
        · rw [hadd]; exact .ptr _ _ _ p hp hl'
    · simp at hv
  · simp at hv

/- least, greatest -/
theorem fold_min {r : List V} {C : List Value} (h : VRL E r C) {k : IntKind} {n m : Int} (hm : minL n r k = some m) (w : World) : (C.foldlM Builtin.min2 (.int k n)).run P w = .ok (.int k m) w := by
  induction r generalizing C n with
  | nil => rw [h.nil_left]; simp [minL] at hm; subst hm; rfl
  | cons v r ih =>
    obtain ⟨cv, C', rfl, hv, hr⟩ := h.cons_left
    cases v with
    | int k' n' =>
      simp only [minL] at hm
      split at hm
      · rw [hv.int_inv]
        simp only [List.foldlM_cons, Sem.run_bind, Builtin.min2, Sem.run_pure, Result.andThen_ok]
        exact ih hr hm
      · simp at hm
    | _ => simp [minL] at hm
theorem fold_max {r : List V} {C : List Value} (h : VRL E r C) {k : IntKind} {n m : Int} (hm : maxL n r k = some m) (w : World) : (C.foldlM Builtin.max2 (.int k n)).run P w = .ok (.int k m) w := by
  induction r generalizing C n with
  | nil => rw [h.nil_left]; simp [maxL] at hm; subst hm; rfl
  | cons v r ih =>
    obtain ⟨cv, C', rfl, hv, hr⟩ := h.cons_left
    cases v with
    | int k' n' =>
      simp only [maxL] at hm
      split at hm
      · rw [hv.int_inv]
        simp only [List.foldlM_cons, Sem.run_bind, Builtin.max2, Sem.run_pure, Result.andThen_ok]
        exact ih hr hm
      · simp at hm
    | _ => simp [maxL] at hm

theorem does_mn {o : Oper} {c : Call} (ho : o.op = .call c) (hc : c.callee = .builtin .min) {as : List Arg} (ha : cArgs G c.args.toList = some as)
    (hO : OR G E τ ρ o.op.operands.toList) {v : V} (hv : (POp.mn as).ev τ = some v) (w : World) : Does P E w ρ o v := by
  rw [ho] at hO
  obtain ⟨consts, he⟩ := exec_builtin (P := P) (ρ := ρ) ho hc w
  simp only [POp.ev] at hv
  split at hv
  · rename_i k n r hl
    split at hv
    · rename_i m hm
      simp at hv; subst hv
      have hL := (hO.sub (ys := c.args.toList) fun y hy => mem_call hy).list ha hl
      obtain ⟨cv, C', hC, hcv, hr⟩ := hL.cons_left
      refine ⟨.int k m, ?_, .int _ _⟩
      rw [he]
      rw [hcv.int_inv] at hC
      have := fold_min (P := P) hr hm w
      simp only [builtin, Builtin.min_, Array.toList_map, hC]
      simp [this]
    · simp at hv
  · simp at hv
theorem does_mx {o : Oper} {c : Call} (ho : o.op = .call c) (hc : c.callee = .builtin .max) {as : List Arg} (ha : cArgs G c.args.toList = some as)
    (hO : OR G E τ ρ o.op.operands.toList) {v : V} (hv : (POp.mx as).ev τ = some v) (w : World) : Does P E w ρ o v := by
  rw [ho] at hO
  obtain ⟨consts, he⟩ := exec_builtin (P := P) (ρ := ρ) ho hc w
  simp only [POp.ev] at hv
  split at hv
  · rename_i k n r hl
    split at hv
    · rename_i m hm
      simp at hv; subst hv
      have hL := (hO.sub (ys := c.args.toList) fun y hy => mem_call hy).list ha hl
      obtain ⟨cv, C', hC, hcv, hr⟩ := hL.cons_left
      refine ⟨.int k m, ?_, .int _ _⟩
      rw [he]
      rw [hcv.int_inv] at hC
      have := fold_max (P := P) hr hm w
      simp only [builtin, Builtin.max_, Array.toList_map, hC]
      simp [this]
    · simp at hv
  · simp at hv

/- ---- aggregates ---- -/

theorem foldl_set (c : List Value) (off : Nat) : ∀ (cs : Array Value) (k : Nat), off + k + c.length ≤ cs.size →
    ((c.zipIdx k).foldl (fun cs (x : Value × Nat) => cs.setIfInBounds (off + x.2) x.1) cs).toList = cs.toList.take (off + k) ++ c ++ cs.toList.drop (off + k + c.length) := by
  induction c with
  | nil => intro cs k h; simp
  | cons x c ih =>
    intro cs k h
    simp only [List.zipIdx_cons, List.foldl_cons]
    rw [ih _ (k + 1) (by simp at h ⊢; omega)]
    have hl : cs.toList.length = cs.size := by simp
    simp only [Array.toList_setIfInBounds, List.length_cons]
    rw [List.take_set, List.drop_set_of_lt (by omega), show off + (k + 1) = off + k + 1 by omega,
      List.take_add_one, List.set_append_right _ _ (by simp; omega)]
    have hlen : (cs.toList.take (off + k)).length = off + k := by simp at h ⊢; omega
    rw [hlen, Nat.sub_self]
    have hget : cs.toList[off + k]? = some (cs.toList[off + k]'(by simp at h ⊢; omega)) := List.getElem?_eq_getElem _
    rw [hget]
    simp only [Option.toList_some, List.set_cons_zero, List.append_assoc, List.singleton_append]
    congr 3
    omega

/-- Two lists, place by place. -/
inductive F2 {α β : Type} (R : α → β → Prop) : List α → List β → Prop
  | nil : F2 R [] []
  | cons {a b l m} (h : R a b) (r : F2 R l m) : F2 R (a :: l) (b :: m)

theorem fill_rel : ∀ {l : List (Nat × Nat × V)} {L : List (Nat × Value)} {zs c : List V} {Z : Array Value} (place : Nat → Option (Nat × Nat)),
    F2 (fun (a : Nat × Nat × V) (b : Nat × Value) => place b.1 = some (a.1, a.2.1) ∧ VR E a.2.2 b.2) l L → VRL E zs Z.toList → fillL zs l = some c → ∃ C : Array Value, Instr.fill place Z L = some C ∧ VRL E c C.toList
  | [], _, zs, c, Z, place, h, hz, hf => by
    cases h
    simp [fillL] at hf; subst hf
    exact ⟨Z, rfl, hz⟩
  | (off, size, v) :: l, _, zs, c, Z, place, h, hz, hf => by
    cases h with
    | @cons _ b _ L' hab hr =>
    obtain ⟨i, cv⟩ := b
    obtain ⟨hp, hv⟩ := hab
    simp only at hp hv
    simp only [fillL] at hf
    split at hf
    · rename_i hcond
      have hcells := hv.cells
      have hlen : cv.cells.size = size := by have := hcells.1; simp at this; omega
      have hzl : zs.length = Z.size := by have := hz.1; simpa using this
      have hset := foldl_set cv.cells.toList off Z 0 (by simp; omega)
      simp only [Nat.add_zero] at hset
      have hnew : VRL E (zs.take off ++ v.cells ++ zs.drop (off + size)) (cv.cells.zipIdx.foldl (fun cs (x : Value × Nat) => cs.setIfInBounds (off + x.2) x.1) Z).toList := by
        rw [← Array.foldl_toList, Array.toList_zipIdx, hset]
        refine ((hz.take off).append hcells).append ?_
        have : cv.cells.toList.length = size := by simpa using hlen
        rw [this]
        exact hz.drop _
      obtain ⟨C, h1, h2⟩ := fill_rel place hr hnew hf
      refine ⟨C, ?_, h2⟩
      have e1 : (decide (cv.cells.size ≠ size) || decide (off + cv.cells.size > Z.size)) = false := by simp; omega
      simp only [Instr.fill, hp, e1, Bool.false_eq_true, if_false]
      exact h1
    · simp at hf

theorem evParts_rel {place : Nat → Option (Nat × Nat)} : ∀ {ps : List (Nat × Operand)} {as : List (Nat × Nat × Arg)} {l : List (Nat × Nat × V)}, cParts G place ps = some as → evParts τ as = some l →
    (∀ x ∈ ps.map (·.2), ∀ a, cArg G x = some a → ∀ v, a.ev τ = some v → VR E v (ρ x)) →
    F2 (fun (a : Nat × Nat × V) (b : Nat × Value) => place b.1 = some (a.1, a.2.1) ∧ VR E a.2.2 b.2) l (ps.map fun p => (p.1, ρ p.2))
  | [], as, l, hc, he, hO => by simp [cParts] at hc; subst hc; simp [evParts] at he; subst he; exact .nil
  | (i, x) :: ps, as, l, hc, he, hO => by
    simp only [cParts] at hc
    split at hc
    · rename_i o s hp
      split at hc
      · rename_i a ha
        split at hc
        · rename_i as' has
          simp at hc; subst hc
          simp only [evParts] at he
          split at he
          · rename_i v hv
            split at he
            · rename_i l' hl
              simp at he; subst he
              exact .cons ⟨hp, hO x (by simp) a ha v hv⟩ (evParts_rel has hl fun y hy => hO y (by simp at hy ⊢; exact .inr hy))
            · simp at he
          · simp at he
        · simp at hc
      · simp at hc
    · simp at hc

theorem zcOf_run {t : TypeId} {z : List V} (h : zcOf P t = some z) (w : World) : ∃ zv : Value, (zeroValue t).run P w = .ok zv w ∧ VRL E z zv.cells.toList := by
  unfold zcOf zeroOf at h
  simp only [Option.map_eq_some_iff] at h
  obtain ⟨v, hv, rfl⟩ := h
  split at hv
  · rename_i i hi
    split at hv
    · rename_i zv hzv
      exact ⟨zv, by simp [zeroValue, typeInfo, hi, hzv], (ofVal_VR hv).cells⟩
    · simp at hv
  · simp at hv

theorem fieldPlaces_run : ∀ {fs : List Field} {pl : List (Nat × Nat)}, fieldPlaces P fs = some pl → ∀ w : World, (fs.mapM (fun f => (do pure (f.offset, ← sizeOf f.type) : Sem (Nat × Nat)))).run P w = .ok pl w
  | [], pl, h, w => by simp [fieldPlaces] at h; subst h; rfl
  | f :: fs, pl, h, w => by
    simp only [fieldPlaces] at h
    split at h
    · rename_i s hs
      split at h
      · rename_i l hl
        simp at h; subst h
        rw [List.mapM_cons]
        have := fieldPlaces_run hl w
        simp only [Sem.run_bind, run_sizeOf' hs, Result.andThen_ok, Sem.run_pure, this]
      · simp at h
    · simp at h

theorem does_build {o : Oper} {t : TypeId} {ps : Array (Nat × Operand)} (ho : o.op = .build t ps) {z : List V} (hz : zcOf P t = some z) {as : List (Nat × Nat × Arg)}
    (hp : (∃ fs pl, P.underlying t = some (.struct fs) ∧ fieldPlaces P fs.toList = some pl ∧ cParts G (fun i => pl[i]?) ps.toList = some as) ∨
      ∃ n e s, P.underlying t = some (.array n e) ∧ szOf P e = some s ∧ cParts G (fun i => some (i * s, s)) ps.toList = some as)
    (hO : OR G E τ ρ o.op.operands.toList) {v : V} (hv : (POp.build z as).ev τ = some v) (w : World) : Does P E w ρ o v := by
  rw [ho] at hO
  refine Gives.does (s := Instr.build t (ps.map fun (i, x) => (i, ρ x))) ?_ (by simp [execOp, ho])
  have hO' : ∀ x ∈ ps.toList.map (·.2), ∀ a, cArg G x = some a → ∀ v, a.ev τ = some v → VR E v (ρ x) := fun x hx => hO x (by simpa [Op.operands] using hx)
  obtain ⟨zv, hzr, hzc⟩ := zcOf_run (E := E) hz w
  simp only [POp.ev] at hv
  split at hv
  · rename_i l hl
    split at hv
    · rename_i c hc
      simp at hv; subst hv
      rcases hp with ⟨fs, pl, hu, hpl, hcp⟩ | ⟨n, e, s, hu, hs, hcp⟩
      · obtain ⟨C, h1, h2⟩ := fill_rel (E := E) (Z := zv.cells) (fun i => pl[i]?) (evParts_rel hcp hl hO') hzc hc
        refine ⟨.agg C, ?_, .mk_agg h2⟩
        have hm := fieldPlaces_run hpl w
        have hm' : (fs.mapM (fun f => (do pure (f.offset, ← sizeOf f.type) : Sem (Nat × Nat)))).run P w = .ok pl.toArray w := by
          rw [← Array.toArray_toList (xs := fs), List.mapM_toArray]
          simp only [Sem.run_map, hm, Result.andThen_ok]
        simp only [Instr.build, Sem.run_bind, hzr, Result.andThen_ok, run_underlying hu, hm', Array.toList_map, List.getElem?_toArray]
        rw [h1]; rfl
      · obtain ⟨C, h1, h2⟩ := fill_rel (E := E) (Z := zv.cells) (fun i => some (i * s, s)) (evParts_rel hcp hl hO') hzc hc
        refine ⟨.agg C, ?_, .mk_agg h2⟩
        simp only [Instr.build, Sem.run_bind, hzr, Result.andThen_ok, run_underlying hu, run_sizeOf' hs, Array.toList_map]
        rw [h1]; rfl
    · simp at hv
  · simp at hv

end
end Go.Proofs.YtplaefbblpiehaaEng
