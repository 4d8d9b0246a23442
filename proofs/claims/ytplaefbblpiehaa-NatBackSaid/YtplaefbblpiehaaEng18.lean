/- The engine, part 18: maps that are written, strings walked, bytes turned. -/
import Derived.Test.YtplaefbblpiehaaEng17
namespace Go.Proofs.YtplaefbblpiehaaEng
open Go
section
variable {P : Program} {G : Nat → Option V} {E : Env} {τ : Tr V} {ρ : Operand → Value} {σ : H} {w : World}

/-- A block that is no row of cells gets a new content. -/
theorem HRel.putObj (h : HRel P E σ w) {x : Pos} {b b' : Blk} (hg : σ.get x = some b) {p : Place} (hp : E.pl x 0 = some p) {o o' : Obj} (ho : w.heap[p.blk]? = some o) (hc : ∀ c t f, o ≠ .cells c t f)
    (hb : ∀ ty c ver minv fz ex, b ≠ .cells ty c ver minv fz ex) (hb' : ∀ ty c ver minv fz ex, b' ≠ .cells ty c ver minv fz ex)
    (hnew : ∀ w' : World, w'.heap[p.blk]? = some o' → ObjOk E w' p b') :
    ∃ w', (setObj p.blk o').run P w = .ok () w' ∧ HRel P E (σ.put x b') w' ∧ Ext E σ w E (σ.put x b') w' := by
  have hr := h.rng x 0 p hp
  let w' : World := { w with heap := w.heap.setIfInBounds p.blk o' }
  have hat : w'.heap[p.blk]? = some o' := by simp [w', hr.2]
  refine ⟨w', ?_, ?_⟩
  · simp only [setObj, Sem.run, ho]
    cases o with
    | cells c t f => exact absurd rfl (hc c t f)
    | map es clock => rfl
    | chan => rfl
    | stringIter s pos => rfl
    | mapIter a b c d => rfl
    | _ => rfl
  · have hl0 : live σ x 0 := by
      unfold live; rw [hg]
      cases b with
      | cells ty c ver minv fz ex => exact absurd rfl (hb ty c ver minv fz ex)
      | sit => rfl
      | mp => rfl
    refine h.upd (g := p.blk) hg ⟨0, p, hp⟩ (.refl E) (fun _ _ _ => rfl) rfl rfl rfl (by simp [w']) (fun b _ hb => by simp [w']; rw [Array.getElem?_setIfInBounds_ne]; omega) hr.1 ?_ ?_ ?_ ?_ ?_
    · intro y u r hy hly hr' e
      exact h.dis y x u 0 r p hy hly hl0 hr' hp e
    · intro v q hq
      have := h.rng x v q hq
      simp [w']; exact this
    · cases b' with
      | cells ty c ver minv fz ex => exact absurd rfl (hb' ty c ver minv fz ex)
      | sit s pos => intro q hq; rw [hp] at hq; simp at hq; subst hq; exact hnew w' hat
      | mp es => intro q hq; rw [hp] at hq; simp at hq; subst hq; exact hnew w' hat
    · exact fun v u q r => h.same x v u q r
    · intro v q y u r hlu hq hy hly hr' e
      have : v = 0 := by
        unfold live at hlu
        rw [H.get_put, if_pos rfl] at hlu
        cases b' with
        | cells ty c ver minv fz ex => exact absurd rfl (hb' ty c ver minv fz ex)
        | sit => exact hlu
        | mp => exact hlu
      subst this
      exact h.dis x y 0 u q r (fun e => hy e.symm) hl0 hly hq hr' e

theorem dec_eq (s : ByteArray) (i : Nat) : dec (s.data.toList.map (·.toNat)) i = Utf8.decode s i := by
  have hg : ∀ k, (s.data.toList.map (·.toNat)).getD k 0 = (s.get! k).toNat := by
    intro k
    simp only [List.getD_eq_getElem?_getD, List.getElem?_map, ByteArray.get!]
    rw [getElem!_def, ← Array.getElem?_toList]
    cases s.data.toList[k]? <;> rfl
  have hl : (s.data.toList.map (·.toNat)).length = s.size := by rw [List.length_map, Array.length_toList]; rfl
  unfold dec Utf8.decode
  simp only [hg, hl]

theorem doesH_next {o : Oper} {x : Operand} (ho : o.op = .next x true) {a : Arg} (ha : cArg G x = some a) (hO : OR G E τ ρ o.op.operands.toList) (h : HRel P E σ w) : DoesH P E σ w ρ o ((HOp.next a).ev τ σ) := by
  rw [ho] at hO
  simp only [HOp.ev]
  split
  · rename_i xx hu
    have hx := hO.one (x := x) (by simp [Op.operands]) ha hu
    split
    · rename_i s pos hg
      generalize hr : ρ x = r at hx
      cases hx with
      | it _ p hp =>
        obtain ⟨ba, h1, h2⟩ := h.obj xx _ p hg hp
        have hgo := run_getObj (P := P) h1 (by simp)
        have hsz : s.length = ba.size := by rw [h2, List.length_map, Array.length_toList]; rfl
        split
        · rename_i hlt
          obtain ⟨w', q1, q2, q3⟩ := h.putObj (b' := .sit s (pos + (dec s pos).2)) (o' := .stringIter ba (pos + (dec s pos).2)) hg hp h1 (by simp) (by simp) (by simp) (fun w' hw => ⟨ba, hw, h2⟩)
          have hd := dec_eq ba pos
          rw [← h2] at hd
          show DoesH P E σ w ρ o (.ok _ _)
          refine StepV.does (s := Instr.next (ρ x) true o.type) ⟨.tuple #[.bool true, goInt pos, .int .i32 (Utf8.decode ba pos).1], w', E, ?_, ?_, q2, q3⟩ (by simp [execOp, ho])
          · rw [hr]
            simp only [Instr.next, Sem.run_bind, hgo, Result.andThen_ok]
            rw [if_pos (by omega)]
            rw [← hd]
            simp [q1]
          · rw [← hd]
            exact .mk_tup (.cons (.bool _) (.cons (.int .i64 (pos : Int)) (.cons (.int .i32 _) .nil)))
        · rename_i hlt
          refine StepV.does (s := Instr.next (ρ x) true o.type) ⟨.tuple #[.bool false], w, E, ?_, .mk_tup (.cons (.bool _) .nil), h, .refl _ _ _⟩ (by simp [execOp, ho])
          rw [hr]
          simp only [Instr.next, Sem.run_bind, hgo, Result.andThen_ok]
          rw [if_neg (by omega)]
          rfl
    · trivial
  · trivial

theorem beq_self (s : ByteArray) : (s == s) = true := by rw [beq_toListBytes]; simp
theorem plainSame_eq {a b : V} (h : plainSame a b = true) : a = b := by
  unfold plainSame at h
  split at h
  · simp at h; rw [h]
  · split at h
    · rename_i e; simp at h; rw [e, h]
    · simp at h
  · rw [natEq_iff] at h; simp at h; rw [h]
  · simp at h
theorem plainAll_eq : ∀ {a b : List V}, plainAll a b = true → a = b
  | [], [], _ => rfl
  | a :: x, b :: y, h => by
    simp only [plainAll, Bool.and_eq_true] at h
    rw [plainSame_eq h.1, plainAll_eq h.2]
  | [], _ :: _, h => by simp [plainAll] at h
  | _ :: _, [], h => by simp [plainAll] at h
theorem plainEq_eq {a b : V} (h : plainEq a b = true) : a = b := by
  unfold plainEq at h
  split at h
  · rw [plainAll_eq h]
  · exact plainSame_eq h

theorem bytes_inj {s t : ByteArray} (h : s.data.toList.map (·.toNat) = t.data.toList.map (·.toNat)) : s = t := by
  have : s.data.toList = t.data.toList := by
    have h2 := natEq_map s.data.toList t.data.toList
    rw [natEq_iff, h] at h2
    simp at h2; rw [h2]
  cases s; cases t; simp at this; simp [this]

theorem sameBits_plain {v : V} {a b : Value} (ha : VR E v a) (hb : VR E v b) (h : plainSame v v = true) (n : Nat) : Instr.sameBits n a b = true := by
  cases v <;> simp only [plainSame, Bool.false_eq_true] at h
  · rw [ha.bool_inv, hb.bool_inv]; cases n <;> simp [Instr.sameBits]
  · rw [ha.int_inv, hb.int_inv]; cases n <;> simp [Instr.sameBits]
  · obtain ⟨s, rfl, h1⟩ := ha.str_inv
    obtain ⟨t, rfl, h2⟩ := hb.str_inv
    have : s = t := bytes_inj (h1.symm.trans h2)
    subst this
    have hs : (s == s) = true := beq_self s
    cases n <;> simpa [Instr.sameBits] using hs
theorem sameBits_all : ∀ {c : List V} {A B : List Value}, VRL E c A → VRL E c B → plainAll c c = true → ∀ n, ((A.zip B).all fun (x, y) => Instr.sameBits n x y) = true
  | [], A, B, ha, hb, _, n => by rw [ha.nil_left]; rfl
  | v :: c, A, B, ha, hb, h, n => by
    obtain ⟨a, A', rfl, h1, h2⟩ := ha.cons_left
    obtain ⟨b, B', rfl, h3, h4⟩ := hb.cons_left
    simp only [plainAll, Bool.and_eq_true] at h
    simp only [List.zip_cons_cons, List.all_cons, Bool.and_eq_true]
    exact ⟨sameBits_plain h1 h3 h.1 n, sameBits_all h2 h4 h.2 n⟩
theorem sameBits_eq {v : V} {a b : Value} (ha : VR E v a) (hb : VR E v b) (h : plainEq v v = true) : Instr.sameBits 10000 a b = true := by
  by_cases hc : ∃ c, v = .agg c
  · obtain ⟨c, rfl⟩ := hc
    obtain ⟨A, rfl, h1⟩ := ha.agg_inv
    obtain ⟨B, rfl, h2⟩ := hb.agg_inv
    have hs : A.size = B.size := by have := h1.1; have := h2.1; simp at *; omega
    show (A.size == B.size && _) = true
    rw [Bool.and_eq_true]
    exact ⟨by simp [hs], sameBits_all h1 h2 h 9999⟩
  · have : plainSame v v = true := by
      unfold plainEq at h
      split at h
      · exact absurd ⟨_, rfl⟩ hc
      · exact h
    exact sameBits_plain ha hb this _

theorem setK_spec {q : EqT} {k v : V} : ∀ {es es' : List (V × V)}, setK q k v es = some es' → ∀ i, (∃ r, findK q k es = some r) ∧ ((findI q k es i = some none ∧ es' = es ++ [(k, v)]) ∨
    ∃ n u, findI q k es i = some (some (i + n)) ∧ es[n]? = some (k, u) ∧ es' = es.set n (k, v) ∧ plainEq k k = true)
  | [], es', h, i => by simp [setK] at h; subst h; exact ⟨⟨none, rfl⟩, .inl ⟨rfl, rfl⟩⟩
  | (a, u) :: es, es', h, i => by
    simp only [setK] at h
    cases hv : veq q k a with
    | none => simp [hv] at h
    | some b =>
      cases b with
      | true =>
        simp only [hv] at h
        split at h
        · rename_i hp
          simp at h; subst h
          have hka := plainEq_eq hp
          subst hka
          exact ⟨⟨some u, by simp [findK, hv]⟩, .inr ⟨0, u, by simp [findI, hv], rfl, rfl, hp⟩⟩
        · simp at h
      | false =>
        simp only [hv] at h
        split at h
        · rename_i l hl
          simp at h; subst h
          obtain ⟨⟨r, hr⟩, h2⟩ := setK_spec hl (i + 1)
          refine ⟨⟨r, by simp only [findK, hv]; exact hr⟩, ?_⟩
          rcases h2 with ⟨h2, rfl⟩ | ⟨n, u', h2, h3, rfl, h4⟩
          · exact .inl ⟨by simp only [findI, hv]; exact h2, rfl⟩
          · exact .inr ⟨n + 1, u', by simp only [findI, hv]; rw [h2, show i + 1 + n = i + (n + 1) by omega], by simpa using h3, rfl, h4⟩
        · simp at h

theorem VRL.set {c : List V} {C : List Value} (h : VRL E c C) (n : Nat) {v : V} {cv : Value} (hv : VR E v cv) : VRL E (c.set n v) (C.set n cv) := by
  refine ⟨by simp [h.1], fun i u cu h1 h2 => ?_⟩
  rw [List.getElem?_set] at h1 h2
  split at h1
  · rename_i e
    rw [if_pos e] at h2
    split at h1
    · split at h2
      · simp at h1 h2; subst h1; subst h2; exact hv
      · simp at h2
    · simp at h1
  · rename_i e
    rw [if_neg e] at h2
    exact h.2 i u cu h1 h2

theorem doesH_mupd {o : Oper} {t : TypeId} {m i x : Operand} (ho : o.op = .mapUpdate t m i x ∨ o.op = .insert t m i x) {kt e : TypeId} (ht : P.underlying t = some (.map kt e)) {a b c : Arg} (ha : cArg G m = some a) (hb : cArg G i = some b) (hc : cArg G x = some c)
    (hO : OR G E τ ρ o.op.operands.toList) (h : HRel P E σ w) : DoesH P E σ w ρ o ((HOp.mupd (eqKey P kt) a b c).ev τ σ) := by
  have hmem : m ∈ o.op.operands.toList ∧ i ∈ o.op.operands.toList ∧ x ∈ o.op.operands.toList := by rcases ho with ho | ho <;> rw [ho] <;> simp [Op.operands]
  have hex : execOp ρ o = (do Instr.mapUpdate t (ρ m) (ρ i) (ρ x); pure .skip) := by rcases ho with ho | ho <;> simp [execOp, ho]
  simp only [HOp.ev]
  split
  · rename_i xx hu
    split
    · rename_i k hk
      split
      · rename_i v hv
        split
        · rename_i es hg
          split
          · rename_i hok
            split
            · rename_i es' hset
              have hm := hO.one hmem.1 ha hu
              have hi := hO.one hmem.2.1 hb hk
              have hx := hO.one hmem.2.2 hc hv
              generalize hrm : ρ m = rm at hm
              cases hm with
              | map _ p hp =>
                obtain ⟨ents, clock, h1, h2⟩ := h.map_at hg hp
                have hgo := run_getObj (P := P) h1 (by simp)
                have hck := run_checkKey_eq (P := P) false hi hok w
                have hud : ∃ d, P.underlying kt = some d := by
                  cases hd : P.underlying kt with
                  | some d => exact ⟨d, rfl⟩
                  | none =>
                    have : eqKey P kt = .no := by simp [eqKey, hd]
                    rw [this] at hok; simp [keyOk] at hok
                obtain ⟨⟨r, hr⟩, hcase⟩ := setK_spec hset 0
                obtain ⟨r', h3, _, h5⟩ := run_findKey hi h2 hr hud w
                rcases hcase with ⟨q1, rfl⟩ | ⟨n, u, q1, q2, rfl, q4⟩
                · rw [q1] at h5
                  cases r' with
                  | some _ => simp at h5
                  | none =>
                    obtain ⟨w', p1, p2, p3⟩ := h.putObj (b' := .mp (es ++ [(k, v)])) (o' := .map (ents.push { key := ρ i, val := ρ x, born := clock }) (clock + 1)) hg hp h1 (by simp) (by simp) (by simp)
                      (fun w' hw => ⟨_, _, hw, by simpa using h2.1.append (.cons hi .nil), by simpa using h2.2.append (.cons hx .nil)⟩)
                    exact ⟨.skip, w', E, by rw [hex]; simp [hrm, Instr.mapUpdate, run_underlying ht, hgo, hck, h3, p1], .inr ⟨rfl, rfl⟩, p2, p3⟩
                · rw [q1] at h5
                  cases r' with
                  | none => simp at h5
                  | some q =>
                    obtain ⟨j, cv⟩ := q
                    simp at h5; subst h5
                    have hkn : (es.map (·.1))[n]? = some k := by simp [q2]
                    obtain ⟨ck, e1, e2⟩ := h2.1.get hkn
                    simp only [List.getElem?_map, Option.map_eq_some_iff] at e1
                    obtain ⟨en, e1, rfl⟩ := e1
                    have hsb := sameBits_eq e2 hi q4
                    have hstay : (Instr.keyThatStays (((ents[n]?).map (·.key)).getD (ρ i)) (ρ i)).run P w = .ok (ρ i) w := by
                      have : ents[n]? = some en := by simpa using e1
                      rw [this]
                      simp [Instr.keyThatStays, hsb]
                    have hlist : (ents.modify n fun e => { e with key := ρ i, val := ρ x }).toList = ents.toList.set n { en with key := ρ i, val := ρ x } := by
                      apply List.ext_getElem?
                      intro m
                      rw [Array.getElem?_toList, Array.getElem?_modify, List.getElem?_set]
                      by_cases hnm : n = m
                      · subst hnm
                        rw [if_pos rfl, if_pos rfl]
                        have hlt : n < ents.toList.length := by
                          rcases Nat.lt_or_ge n ents.toList.length with h | h
                          · exact h
                          · simp [List.getElem?_eq_none h] at e1
                        rw [if_pos hlt, ← Array.getElem?_toList, e1]; rfl
                      · rw [if_neg hnm, if_neg hnm, Array.getElem?_toList]
                    obtain ⟨w', p1, p2, p3⟩ := h.putObj (b' := .mp (es.set n (k, v))) (o' := .map (ents.modify n fun e => { e with key := ρ i, val := ρ x }) clock) hg hp h1 (by simp) (by simp) (by simp)
                      (fun w' hw => ⟨_, _, hw, by rw [hlist, List.map_set, List.map_set]; exact h2.1.set n hi, by rw [hlist, List.map_set, List.map_set]; exact h2.2.set n hx⟩)
                    exact ⟨.skip, w', E, by rw [hex]; simp [hrm, Instr.mapUpdate, run_underlying ht, hgo, hck, h3, hstay, p1], .inr ⟨rfl, rfl⟩, p2, p3⟩
            · trivial
          · trivial
        · trivial
      · trivial
    · trivial
  · trivial

end
end Go.Proofs.YtplaefbblpiehaaEng
