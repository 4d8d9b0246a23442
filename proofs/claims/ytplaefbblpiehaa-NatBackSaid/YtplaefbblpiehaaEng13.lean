/- The engine, part 13: maps. -/
import Derived.Test.YtplaefbblpiehaaEng12
namespace Go.Proofs.YtplaefbblpiehaaEng
open Go
section
variable {P : Program} {G : Nat → Option V} {E : Env} {τ : Tr V} {ρ : Operand → Value} {σ : H} {w : World}

/-- a key's fields, one by one -/
def chkF (em : Bool) (d : Nat) (C : Array Value) : List Field → Sem Unit
  | [] => pure ()
  | f :: fs => do
    if f.name ≠ "_" then Instr.checkKey em d f.type (← part f.type C f.offset)
    chkF em d C fs

theorem run_chkF (em : Bool) (d : Nat) (C : Array Value) (fs : List Field) (w : World) :
    (forIn fs PUnit.unit (fun f (_ : PUnit) => do
      if f.name ≠ "_" then Instr.checkKey em d f.type (← part f.type C f.offset)
      pure (ForInStep.yield PUnit.unit)) : Sem PUnit).run P w = (chkF em d C fs).run P w := by
  induction fs generalizing w with
  | nil => rfl
  | cons f fs ih =>
    rw [List.forIn_cons]
    simp only [chkF, Sem.run_bind]
    by_cases hn : f.name = "_"
    · simp only [hn, ne_eq, not_true_eq_false, if_false, Sem.run_pure, Result.andThen_ok]
      exact ih w
    · simp only [ne_eq, hn, not_false_eq_true, if_true, Sem.run_bind]
      generalize (part f.type C f.offset).run P w = r1
      cases r1 with
      | ok a w1 =>
        simp only [Result.andThen_ok]
        generalize (Instr.checkKey em d f.type a).run P w1 = r2
        cases r2 with
        | ok u w2 => simp only [Result.andThen_ok, Sem.run_pure]; exact ih w2
        | halt => rfl
      | halt => rfl

theorem run_checkKey_struct (em : Bool) (d : Nat) {t : TypeId} {fs : Array Field} (hu : P.underlying t = some (.struct fs)) (C : Array Value) (w : World) :
    (Instr.checkKey em (d + 1) t (.agg C)).run P w = (chkF em d C fs.toList).run P w := by
  have hk := run_chkF (P := P) em d C fs.toList w
  simp only [Instr.checkKey, Sem.run_bind, run_underlying hu, Result.andThen_ok]
  rw [← Array.forIn_toList]
  have e : ∀ r : Result PUnit, (r.andThen fun a w' => Sem.run P (pure a : Sem PUnit) w') = r := fun r => by cases r <;> rfl
  first
    | exact (e _).trans hk
    | exact hk

mutual
theorem check_flat (em : Bool) (n : Nat) (t : TypeId) (off : Nat) (l : List (Nat × SK)) (hf : flatT P n t off = some l) (d : Nat) (hd : n ≤ d) (X : Array Value) (cx : Value) (hX : Lies P t X off cx)
    (hfull : ∀ s, szOf P t = some s → off + s ≤ X.size) (w : World) : (Instr.checkKey em d t cx).run P w = .ok () w := by
  match n, d, hd with
  | 0, _, _ => simp [flatT] at hf
  | n + 1, d + 1, hd =>
    unfold flatT at hf
    split at hf
    · rename_i fs hu
      split at hf
      · simp at hf
      · split at hf
        · rename_i s hsz
          unfold Lies at hX
          rw [hu] at hX
          obtain ⟨s1, C, hsz1, rfl, hC⟩ := hX
          rw [hsz] at hsz1; simp at hsz1; subst hsz1
          rw [run_checkKey_struct em d hu]
          exact check_flatF em n fs.toList off s l hf d (by omega) X C hC (hfull s hsz) w
        · simp at hf
    · rename_i d0 hns hu
      simp only [Option.map_eq_some_iff] at hf
      obtain ⟨k, hk, rfl⟩ := hf
      cases d0 <;> simp [plainK?] at hk <;> simp [Instr.checkKey, run_underlying hu]
    · simp at hf
theorem check_flatF (em : Bool) (n : Nat) (fs : List Field) (off s : Nat) (l : List (Nat × SK)) (hf : flatF P n fs off s = some l) (d : Nat) (hd : n ≤ d) (X C : Array Value)
    (hC : ∀ i, i < s → C[i]? = X[off + i]?) (hfull : off + s ≤ X.size) (w : World) : (chkF em d C fs).run P w = .ok () w := by
  match n, fs with
  | 0, _ => simp [flatF] at hf
  | n + 1, [] => rfl
  | n + 1, f :: fs =>
    unfold flatF at hf
    split at hf
    · simp at hf
    · rename_i hn
      split at hf
      · rename_i sz hsz
        split at hf
        · rename_i hle
          split at hf
          · rename_i l1 hl1
            split at hf
            · rename_i l2 hl2
              have hlies : ∃ cx, (part f.type C f.offset).run P w = .ok cx w ∧ Lies P f.type X (off + f.offset) cx := by
                have hCo : ∃ cv, C[f.offset]? = some cv := by
                  rw [hC f.offset (by omega)]
                  exact ⟨_, Array.getElem?_eq_getElem (by omega)⟩
                obtain ⟨cv, hcv⟩ := hCo
                cases n with
                | zero => simp [flatT] at hl1
                | succ n' =>
                  unfold flatT at hl1
                  split at hl1
                  · rename_i fs' hu
                    refine ⟨.agg (C.extract f.offset (f.offset + sz)), ?_, ?_⟩
                    · simp [part, isAgg, run_underlying hu, run_sizeOf' hsz]
                    · unfold Lies; rw [hu]
                      refine ⟨sz, _, hsz, rfl, fun i hi => ?_⟩
                      rw [Array.getElem?_extract]
                      have := hC (f.offset + i) (by omega)
                      rw [Nat.add_assoc, ← this]
                      rcases Nat.lt_or_ge (f.offset + i) C.size with hlt | hge
                      · rw [if_pos (by omega)]
                      · rw [if_neg (by omega), Array.getElem?_eq_none (by omega)]
                  · rename_i d0 hns hu
                    simp only [Option.map_eq_some_iff] at hl1
                    obtain ⟨k, hk, rfl⟩ := hl1
                    refine ⟨cv, ?_, ?_⟩
                    · cases d0 <;> simp [plainK?] at hk <;> simp [part, isAgg, run_underlying hu, hcv]
                    · unfold Lies; rw [hu]
                      rw [hC f.offset (by omega)] at hcv
                      cases d0 <;> first | exact (hns _ rfl).elim | exact hcv
                  · simp at hl1
              obtain ⟨cx, h1, h2⟩ := hlies
              have h3 := check_flat em n f.type (off + f.offset) l1 hl1 d (by omega) X cx h2 (fun s' hs' => by rw [hsz] at hs'; simp at hs'; omega) w
              have h4 := check_flatF em n fs off s l2 hl2 d (by omega) X C hC hfull w
              simp only [chkF, Sem.run_bind, ne_eq, hn, not_false_eq_true, if_true, h1, Result.andThen_ok, h3, h4]
            · simp at hf
          · simp at hf
        · simp at hf
      · simp at hf
end

theorem run_checkKey_eq (em : Bool) {t : TypeId} {k : V} {ck : Value} (hk : VR E k ck) (h : keyOk (eqKey P t) k = true) (w : World) : (Instr.checkKey em 10000 t ck).run P w = .ok () w := by
  unfold eqKey at h
  split at h
  · rename_i fs hu
    unfold eqStruct at h
    split at h
    · rename_i l n hl hn
      cases k <;> simp [keyOk] at h
      rename_i c
      obtain ⟨C, rfl, hC⟩ := hk.agg_inv
      have hlen : C.size = n := by have := hC.1; simp at this; omega
      refine check_flat em 40 t 0 l hl 10000 (by omega) C (.agg C) ?_ ?_ w
      · unfold Lies; rw [hu]; exact ⟨n, C, hn, rfl, fun i _ => by simp⟩
      · intro s hs; rw [hn] at hs; simp at hs; omega
    · simp [keyOk] at h
  · rename_i d hns hu
    split at h
    · rename_i q hq
      cases d <;> simp [plainK?] at hq
      all_goals
        have : ∀ n, (Instr.checkKey em (n + 1) t ck).run P w = .ok () w := fun n => by
          unfold Instr.checkKey
          rw [Sem.run_bind, run_underlying hu]
          cases ck <;> rfl
        exact this 9999
    · simp [keyOk] at h
  · simp [keyOk] at h

/-- The entries' keys, the entries' values. -/
def Ents (E : Env) (es : List (V × V)) (ents : List MapEntry) : Prop := VRL E (es.map (·.1)) (ents.map (·.key)) ∧ VRL E (es.map (·.2)) (ents.map (·.val))

theorem Ents.cons_inv {a : V × V} {es : List (V × V)} {L : List MapEntry} (h : Ents E (a :: es) L) : ∃ e L', L = e :: L' ∧ VR E a.1 e.key ∧ VR E a.2 e.val ∧ Ents E es L' := by
  obtain ⟨h1, h2⟩ := h
  cases L with
  | nil => have := h1.1; simp at this
  | cons e L' => exact ⟨e, L', rfl, (VRL.head (by simpa using h1)), (VRL.head (by simpa using h2)), VRL.tail (by simpa using h1), VRL.tail (by simpa using h2)⟩

/-- what a search finds -/
def Found (E : Env) (r : Option V) (r' : Option (Nat × Value)) : Prop :=
  match r, r' with
  | none, none => True
  | some v, some (_, cv) => VR E v cv
  | _, _ => False

/-- where a search finds -/
def findI (q : EqT) (k : V) : List (V × V) → Nat → Option (Option Nat)
  | [], _ => some none
  | (a, _) :: r, i => match veq q k a with
    | some true => some (some i)
    | some false => findI q k r (i + 1)
    | none => none

theorem run_findKey {t : TypeId} {k : V} {ck : Value} (hk : VR E k ck) : ∀ {es : List (V × V)} {L : List MapEntry} {r : Option V}, Ents E es L → findK (eqKey P t) k es = some r → (∃ d, P.underlying t = some d) → ∀ w : World,
    ∃ r', (Instr.findKey t ck L).run P w = .ok r' w ∧ Found E r r' ∧ findI (eqKey P t) k es 0 = some (r'.map (·.1)) := by
  intro es L r hE hf ⟨d, hu⟩ w
  -- asking one by one
  have ask : ∀ (es : List (V × V)) (L : List MapEntry) (i : Nat), Ents E es L → findK (eqKey P t) k es = some r → (∀ a ca r0, VR E a ca → veq (eqKey P t) k a = some r0 → ∀ w : World, (Op.equal t ck ca).run P w = .ok r0 w) →
      ∃ r', (Instr.findAsking t ck L i).run P w = .ok r' w ∧ Found E r r' ∧ findI (eqKey P t) k es i = some (r'.map (·.1)) := by
    intro es
    induction es with
    | nil =>
      intro L i hE hf _
      have : L = [] := by have := hE.1.1; simp at this; exact List.eq_nil_of_length_eq_zero this.symm
      subst this
      simp [findK] at hf; subst hf
      exact ⟨none, rfl, trivial, rfl⟩
    | cons a es ih =>
      intro L i hE hf heq
      obtain ⟨e, L', rfl, hkey, hval, hE'⟩ := hE.cons_inv
      obtain ⟨a1, a2⟩ := a
      simp only [findK] at hf
      cases hv : veq (eqKey P t) k a1 with
      | none => simp [hv] at hf
      | some b =>
        have hq := heq a1 e.key b hkey hv w
        cases b with
        | true =>
          simp [hv] at hf; subst hf
          exact ⟨some (i, e.val), by simp [Instr.findAsking, hq], hval, by simp [findI, hv]⟩
        | false =>
          simp only [hv] at hf
          obtain ⟨r', h1, h2, h3⟩ := ih L' (i + 1) hE' hf heq
          exact ⟨r', by simp [Instr.findAsking, hq, h1], h2, by simp only [findI, hv]; exact h3⟩
  unfold Instr.findKey
  simp only [Sem.run_bind, run_underlying hu, Result.andThen_ok]
  by_cases hs : ∃ fs, d = .struct fs
  · obtain ⟨fs, rfl⟩ := hs
    have hqe : eqKey P t = eqStruct P t := by simp [eqKey, hu]
    have heq : ∀ a ca r0, VR E a ca → veq (eqKey P t) k a = some r0 → ∀ w : World, (Op.equal t ck ca).run P w = .ok r0 w := by
      intro a ca r0 ha hv w'
      rw [hqe] at hv
      obtain ⟨X, Y, _, _, h3⟩ := run_equal_eqStruct hu hk ha hv w'
      exact h3
    cases L with
    | nil =>
      have : es = [] := by have := hE.1.1; simp at this; exact this
      subst this
      simp [findK] at hf; subst hf
      exact ⟨none, rfl, trivial, rfl⟩
    | cons e L' =>
      have : Instr.findNow (.struct fs) ck (e :: L') 0 = none := by simp [Instr.findNow, Instr.sameNow]
      rw [this]
      exact ask es _ 0 hE hf heq
  · have hqe : ∀ q, plainK? d = some q → eqKey P t = .sc q := by
      intro q hq
      cases d <;> simp [plainK?] at hq <;> simp [eqKey, hu, plainK?, hq]
    cases hq : plainK? d with
    | none =>
      have : eqKey P t = .no := by
        unfold eqKey
        rw [hu]
        cases d <;> first | exact (hs ⟨_, rfl⟩).elim | simp [hq]
      rw [this] at hf
      cases es with
      | nil =>
        have : L = [] := by have := hE.1.1; simp at this; exact List.eq_nil_of_length_eq_zero this.symm
        subst this
        simp [findK] at hf; subst hf
        exact ⟨none, rfl, trivial, rfl⟩
      | cons a es => obtain ⟨a1, a2⟩ := a; simp [findK, veq] at hf
    | some q =>
      have hq' := hqe q hq
      have now : ∀ (es : List (V × V)) (L : List MapEntry) (i : Nat), Ents E es L → findK (eqKey P t) k es = some r → ∃ r', Instr.findNow d ck L i = some r' ∧ Found E r r' ∧ findI (eqKey P t) k es i = some (r'.map (·.1)) := by
        intro es
        induction es with
        | nil =>
          intro L i hE hf
          have : L = [] := by have := hE.1.1; simp at this; exact List.eq_nil_of_length_eq_zero this.symm
          subst this
          simp [findK] at hf; subst hf
          exact ⟨none, rfl, trivial, rfl⟩
        | cons a es ih =>
          intro L i hE hf
          obtain ⟨e, L', rfl, hkey, hval, hE'⟩ := hE.cons_inv
          obtain ⟨a1, a2⟩ := a
          simp only [findK] at hf
          rw [hq'] at hf
          cases hv : veq (.sc q) k a1 with
          | none => simp [hv] at hf
          | some b =>
            have hsame : Instr.sameNow d ck e.key = some b := by
              simp only [veq] at hv
              simp only at hkey
              generalize e.key = ek at hkey
              cases d <;> simp only [plainK?, Option.some.injEq, reduceCtorEq] at hq <;> subst hq <;> simp only [vsc] at hv <;> split at hv <;> (try (simp only [reduceCtorEq] at hv; done))
              · rw [hk.bool_inv, hkey.bool_inv]; simp at hv; subst hv; rfl
              · split at hv
                · rename_i hkk
                  rw [hk.int_inv, hkey.int_inv]; simp at hv; subst hv; subst hkk
                  simp [Instr.sameNow]
                · simp at hv
              · obtain ⟨s1, rfl, rfl⟩ := hk.str_inv
                obtain ⟨s2, h2, h3⟩ := hkey.str_inv
                subst h2; subst h3
                rw [natEq_map] at hv
                simp only [Option.some.injEq] at hv
                subst hv
                simp only [Instr.sameNow, beq_toListBytes, toList_data]
            cases b with
            | true =>
              simp [hv] at hf; subst hf
              exact ⟨some (i, e.val), by simp [Instr.findNow, hsame], hval, by simp [findI, hq', hv]⟩
            | false =>
              simp only [hv] at hf
              rw [← hq'] at hf
              obtain ⟨r', h1, h2, h3⟩ := ih L' (i + 1) hE' hf
              exact ⟨r', by simp [Instr.findNow, hsame, h1], h2, by simp only [findI]; rw [hq'] at h3 ⊢; simp only [hv]; exact h3⟩
      obtain ⟨r', h1, h2, h3⟩ := now es L 0 hE hf
      exact ⟨r', by simp [h1], h2, h3⟩

theorem HRel.map_at (h : HRel P E σ w) {x : Pos} {es : List (V × V)} (hg : σ.get x = some (.mp es)) {p : Place} (hp : E.pl x 0 = some p) :
    ∃ (ents : Array MapEntry) (clock : Nat), w.heap[p.blk]? = some (.map ents clock) ∧ Ents E es ents.toList := by
  obtain ⟨ents, clock, h1, h2, h3⟩ := h.obj x _ p hg hp
  exact ⟨ents, clock, h1, h2, h3⟩

theorem run_getObj {r : Nat} {o : Obj} (h : w.heap[r]? = some o) (hc : ∀ c t f, o ≠ .cells c t f) : (getObj r).run P w = .ok o w := by
  simp only [getObj, Sem.run, h]

theorem does_lookup {o : Oper} {t : TypeId} {x i : Operand} {ok : Bool} (ho : o.op = .lookup t x i ok) {kt e : TypeId} (ht : P.underlying t = some (.map kt e)) {z : V} (hz : zeroOf P e = some z) {a b : Arg} (ha : cArg G x = some a) (hb : cArg G i = some b)
    (hO : OR G E τ ρ o.op.operands.toList) (h : HRel P E σ w) {v : V} (hv : (ROp.lookup z ok (eqKey P kt) a b).ev τ σ = some v) : Does P E w ρ o v := by
  rw [ho] at hO
  refine Gives.does (s := Instr.lookup t (ρ x) (ρ i) ok) ?_ (by simp [execOp, ho])
  have two : ∀ u cu (b : Bool), VR E u cu → VR E (.tup [u, .bool b]) (.tuple #[cu, .bool b]) := fun u cu b h => .mk_tup (.cons h (.cons (.bool b) .nil))
  obtain ⟨zv, hzr, hzv⟩ : ∃ zv, (zeroValue e).run P w = .ok zv w ∧ VR E z zv := by
    unfold zeroOf at hz
    split at hz
    · rename_i inf hi
      split at hz
      · rename_i zv hzv; exact ⟨zv, by simp [zeroValue, typeInfo, hi, hzv], ofVal_VR hz⟩
      · simp at hz
    · simp at hz
  simp only [ROp.ev] at hv
  split at hv
  · rename_i y hu
    split at hv
    · rename_i k hk
      split at hv
      · rename_i hok
        split at hv
        · rename_i es hg
          have hx := hO.one (x := x) (by simp [Op.operands]) ha hu
          have hi := hO.one (x := i) (by simp [Op.operands]) hb hk
          generalize ρ x = r at hx
          generalize ρ i = ck at hi
          cases hx with
          | map _ p hp =>
            obtain ⟨ents, clock, h1, h2⟩ := h.map_at hg hp
            have hgo := run_getObj (P := P) h1 (by simp)
            have hck := run_checkKey_eq (P := P) ents.isEmpty hi hok w
            have hud : ∃ d, P.underlying kt = some d := by
              cases hd : P.underlying kt with
              | some d => exact ⟨d, rfl⟩
              | none =>
                have : eqKey P kt = .no := by simp [eqKey, hd]
                rw [this] at hok; simp [keyOk] at hok
            cases hfk : findK (eqKey P kt) k es with
            | none => simp [hfk] at hv
            | some r0 =>
              obtain ⟨r', h3, h4, _⟩ := run_findKey hi h2 hfk hud w
              cases r0 with
              | some u =>
                simp [hfk] at hv; subst hv
                cases r' with
                | none => simp [Found] at h4
                | some q =>
                  obtain ⟨j, cv⟩ := q
                  simp only [Found] at h4
                  cases ok with
                  | true => exact ⟨.tuple #[cv, .bool true], by simp [Instr.lookup, run_underlying ht, hgo, hck, h3], two _ _ _ h4⟩
                  | false => exact ⟨cv, by simp [Instr.lookup, run_underlying ht, hgo, hck, h3], h4⟩
              | none =>
                simp [hfk] at hv; subst hv
                cases r' with
                | some q => simp [Found] at h4
                | none =>
                  cases ok with
                  | true => exact ⟨.tuple #[zv, .bool false], by simp [Instr.lookup, run_underlying ht, hgo, hck, h3, hzr], two _ _ _ hzv⟩
                  | false => exact ⟨zv, by simp [Instr.lookup, run_underlying ht, hgo, hck, h3, hzr], hzv⟩
        · simp at hv
      · simp at hv
    · simp at hv
  · simp at hv

theorem does_lenm {o : Oper} {c : Call} (ho : o.op = .call c) (hc : c.callee = .builtin .len) {x : Operand} (hx : c.args.toList = [x]) {t k e : TypeId} (ht : c.argTypes[0]? = some t) (hu : P.underlying t = some (.map k e)) {a : Arg} (ha : cArg G x = some a)
    (hO : OR G E τ ρ o.op.operands.toList) (h : HRel P E σ w) {v : V} (hv : (ROp.lenm a).ev τ σ = some v) : Does P E w ρ o v := by
  rw [ho] at hO
  obtain ⟨consts, he⟩ := exec_builtin (P := P) (ρ := ρ) ho hc w
  simp only [ROp.ev] at hv
  split at hv
  · rename_i hl
    have := hO.one (x := x) (mem_call (by rw [hx]; simp)) ha hl
    simp at hv; subst hv
    generalize hr : ρ x = r at this
    cases this
    refine ⟨.int .i64 0, ?_, .int _ _⟩
    rw [he, arr_of_list1 hx]
    simp [builtin, Builtin.len_, ht, run_underlying hu, hr, goInt]
  · rename_i y hl
    have := hO.one (x := x) (mem_call (by rw [hx]; simp)) ha hl
    split at hv
    · rename_i es hg
      simp at hv; subst hv
      generalize hr : ρ x = r at this
      cases this with
      | map _ p hp =>
        obtain ⟨ents, clock, h1, h2⟩ := h.map_at hg hp
        have hlen : ents.size = es.length := by have := h2.1.1; simpa using this.symm
        refine ⟨.int .i64 es.length, ?_, .int _ _⟩
        rw [he, arr_of_list1 hx]
        simp [builtin, Builtin.len_, ht, run_underlying hu, hr, goInt, run_getObj (P := P) h1 (by simp), hlen]
    · simp at hv
  · simp at hv

end
end Go.Proofs.YtplaefbblpiehaaEng
