/- The engine, part 7: equality. -/
import Derived.Test.YtahgfodccndcjaaGreatEng6
import Derived.Laws.StructEq
namespace Go.Proofs.YtahgfodccndcjaaGreatEng
open Go
section
variable {P : Program} {G : Nat → Option V} {E : Env} {τ : Tr V} {ρ : Operand → Value}

theorem plainK_scOf {d : TypeDesc} {k : SK} (h : plainK? d = some k) : scOf P d = some k := by
  cases d <;> simp_all [plainK?, scOf]

set_option maxHeartbeats 1000000 in
theorem run_equalIn_sc {t : TypeId} {d : TypeDesc} {k : SK} {a b : V} {ca cb : Value} {r : Bool} (hu : P.underlying t = some d) (hk : scOf P d = some k)
    (ha : VR E a ca) (hb : VR E b cb) (h : vsc k a b = some r) (n : Nat) (w : World) : (Op.equalIn (n + 1) t ca cb).run P w = .ok r w := by
  cases d <;> simp only [scOf, Option.some.injEq, reduceCtorEq] at hk
  case bool =>
    subst hk
    simp only [vsc] at h
    split at h <;> simp at h
    all_goals (cases ha; cases hb; subst h; simp_all [Op.equalIn, run_underlying hu]; done)
  case int q =>
    subst hk
    simp only [vsc] at h
    split at h <;> simp at h
    all_goals (cases ha; cases hb; obtain ⟨h1, rfl⟩ := h; subst h1; simp [Op.equalIn, run_underlying hu]; done)
  case string =>
    subst hk
    simp only [vsc] at h
    split at h <;> simp at h
    rename_i x y hx hy
    cases ha; cases hb
    subst h
    rw [natEq_map, run_equalIn_string w n t _ _ hu, toList_data, toList_data]
  case pointer e =>
    split at hk
    · rename_i sz hsz
      simp at hk; subst hk
      simp only [vsc] at h
      split at h <;> simp at h
      · cases ha; cases hb; subst h; simp [Op.equalIn, run_underlying hu]
      · obtain ⟨⟨rfl, rfl, rfl⟩, rfl⟩ := h
        cases ha with
        | ptr x v o p hp hl =>
          cases hb with
          | ptr _ _ _ q hq hl' =>
            rw [hp] at hq; simp at hq; subst hq
            simp [Op.equalIn, run_underlying hu, run_sizeOf' hsz, sameAddr]
      all_goals (cases ha; cases hb; subst h; simp [Op.equalIn, run_underlying hu]; done)
    · simp at hk
  case slice e =>
    subst hk
    simp only [vsc] at h
    split at h <;> simp at h
    all_goals (cases ha; cases hb; subst h; simp [Op.equalIn, run_underlying hu]; done)
  case map e1 e2 =>
    subst hk
    simp only [vsc] at h
    split at h <;> simp at h
    all_goals (cases ha; cases hb; subst h; simp [Op.equalIn, run_underlying hu]; done)
  case func e1 e2 e3 =>
    subst hk
    simp only [vsc] at h
    split at h <;> simp at h
    all_goals (cases ha; cases hb; subst h; simp [Op.equalIn, run_underlying hu]; done)
  case interface ms =>
    subst hk
    simp only [vsc] at h
    split at h <;> simp at h
    · cases ha; cases hb; subst h; unfold Op.equalIn; rw [Sem.run_bind, run_underlying hu]; rfl
    · cases ha; cases hb; subst h; unfold Op.equalIn; rw [Sem.run_bind, run_underlying hu]; rfl
    · cases ha; cases hb; subst h; unfold Op.equalIn; rw [Sem.run_bind, run_underlying hu]; rfl
    · obtain ⟨h1, rfl⟩ := h
      cases ha; cases hb
      unfold Op.equalIn
      rw [Sem.run_bind, run_underlying hu, Result.andThen_ok]
      show (if _ ≠ _ then pure false else _ : Sem Bool).run P w = _
      rw [if_pos h1]; rfl

theorem vflat_append {x y : List V} {l l' : List (Nat × SK)} {r : Bool} (h : vflat x y (l ++ l') = some r) :
    (vflat x y l = some false ∧ r = false) ∨ (vflat x y l = some true ∧ vflat x y l' = some r) := by
  induction l with
  | nil => exact .inr ⟨rfl, by simpa using h⟩
  | cons a l ih =>
    obtain ⟨i, k⟩ := a
    simp only [List.cons_append, vflat] at h ⊢
    cases hx : x[i]? with
    | none => simp [hx] at h
    | some u =>
      cases hy : y[i]? with
      | none => simp [hx, hy] at h
      | some v =>
        simp only [hx, hy] at h ⊢
        cases hs : vsc k u v with
        | none => simp [hs] at h
        | some b =>
          simp only [hs] at h ⊢
          cases b with
          | false => simp at h; exact .inl ⟨rfl, h⟩
          | true => exact ih h

/-- What lies at 'off' in the cells is the value of the type. -/
def Lies (P : Program) (t : TypeId) (X : Array Value) (off : Nat) (cx : Value) : Prop :=
  match P.underlying t with
  | some (.struct _) => ∃ s, ∃ C : Array Value, szOf P t = some s ∧ cx = .agg C ∧ ∀ i, i < s → C[i]? = X[off + i]?
  | _ => X[off]? = some cx

theorem run_part_lies {n : Nat} {t : TypeId} {o off sz s : Nat} {l : List (Nat × SK)} (hf : flatT P n t (off + o) = some l) (hsz : szOf P t = some sz) (h0 : 0 < sz) (hle : o + sz ≤ s)
    {x : List V} {X C : Array Value} (hC : ∀ i, i < s → C[i]? = X[off + i]?) (hx : VRL E x X.toList) (hl : ∀ i k, l = [(i, k)] → ∃ v, x[i]? = some v) (w : World) :
    ∃ cx, (part t C o).run P w = .ok cx w ∧ Lies P t X (off + o) cx := by
  cases n with
  | zero => simp [flatT] at hf
  | succ n =>
    unfold flatT at hf
    split at hf
    · rename_i fs hu
      refine ⟨.agg (C.extract o (o + sz)), ?_, ?_⟩
      · simp [part, isAgg, run_underlying hu, run_sizeOf' hsz]
      · unfold Lies; rw [hu]
        refine ⟨sz, _, hsz, rfl, fun i hi => ?_⟩
        rw [Array.getElem?_extract]
        have := hC (o + i) (by omega)
        rw [Nat.add_assoc, ← this]
        rcases Nat.lt_or_ge (o + i) C.size with hlt | hge
        · rw [if_pos (by omega)]
        · rw [if_neg (by omega), Array.getElem?_eq_none (by omega)]
    · rename_i d0 hns hu
      simp only [Option.map_eq_some_iff] at hf
      obtain ⟨k, hk, rfl⟩ := hf
      obtain ⟨v, hv⟩ := hl _ _ rfl
      obtain ⟨cv, hcv, _⟩ := hx.get hv
      have hCo : C[o]? = some cv := by rw [hC o (by omega)]; simpa using hcv
      refine ⟨cv, ?_, ?_⟩
      · cases d0 <;> simp [plainK?] at hk <;> simp [part, isAgg, run_underlying hu, hCo]
      · unfold Lies; rw [hu]
        cases d0 <;> first | exact (hns _ rfl).elim | simpa using hcv
    · simp at hf

mutual
theorem flat_eq (n : Nat) (t : TypeId) (off : Nat) (l : List (Nat × SK)) (hf : flatT P n t off = some l) (d : Nat) (hd : n ≤ d) (x y : List V) (X Y : Array Value)
    (hx : VRL E x X.toList) (hy : VRL E y Y.toList) (w : World) (cx cy : Value) (hX : Lies P t X off cx) (hY : Lies P t Y off cy) (r : Bool) (h : vflat x y l = some r) :
    (Op.equalIn d t cx cy).run P w = .ok r w := by
  match n, d, hd with
  | 0, _, _ => simp [flatT] at hf
  | n + 1, d + 1, hd =>
    unfold flatT at hf
    split at hf
    · rename_i fs hu
      split at hf
      · simp at hf
      · rename_i hs
        split at hf
        · rename_i s hsz
          have hf' : P.fieldsOf t = fs := by simp [Program.fieldsOf, hu]
          unfold Lies at hX hY
          rw [hu] at hX hY
          obtain ⟨s1, C, hsz1, rfl, hC⟩ := hX
          obtain ⟨s2, C', hsz2, rfl, hC'⟩ := hY
          rw [hsz] at hsz1 hsz2; simp at hsz1 hsz2; subst hsz1; subst hsz2
          rw [run_equalIn_struct w d t C C' (by rw [hf']; exact hu) (by simpa using hs), hf']
          exact flat_eqF n fs.toList off s l hf d (by omega) x y X Y hx hy w C C' hC hC' r h
        · simp at hf
    · rename_i d0 hns hu
      simp only [Option.map_eq_some_iff] at hf
      obtain ⟨k, hk, rfl⟩ := hf
      have hX' : X[off]? = some cx := by
        unfold Lies at hX; rw [hu] at hX
        cases d0 <;> first | exact hX | exact (hns _ rfl).elim
      have hY' : Y[off]? = some cy := by
        unfold Lies at hY; rw [hu] at hY
        cases d0 <;> first | exact hY | exact (hns _ rfl).elim
      simp only [vflat] at h
      cases hxo : x[off]? with
      | none => simp [hxo] at h
      | some u =>
        cases hyo : y[off]? with
        | none => simp [hxo, hyo] at h
        | some v =>
          simp only [hxo, hyo] at h
          cases hs : vsc k u v with
          | none => simp [hs] at h
          | some b =>
            simp only [hs] at h
            have hb : b = r := by cases b <;> simpa using h
            subst hb
            exact run_equalIn_sc hu (plainK_scOf hk) (hx.2 off _ _ hxo (by simpa using hX')) (hy.2 off _ _ hyo (by simpa using hY')) hs d w
    · simp at hf
theorem flat_eqF (n : Nat) (fs : List Field) (off s : Nat) (l : List (Nat × SK)) (hf : flatF P n fs off s = some l) (d : Nat) (hd : n ≤ d) (x y : List V) (X Y : Array Value)
    (hx : VRL E x X.toList) (hy : VRL E y Y.toList) (w : World) (C C' : Array Value) (hC : ∀ i, i < s → C[i]? = X[off + i]?) (hC' : ∀ i, i < s → C'[i]? = Y[off + i]?) (r : Bool) (h : vflat x y l = some r) :
    (Op.eqFields d C C' fs).run P w = .ok r w := by
  match n, fs with
  | 0, _ => simp [flatF] at hf
  | n + 1, [] =>
    simp [flatF] at hf; subst hf
    simp [vflat] at h; subst h
    simp [Op.eqFields]
  | n + 1, f :: fs =>
    unfold flatF at hf
    split at hf
    · simp at hf
    · rename_i hn
      split at hf
      · rename_i sz hsz
        split at hf
        · rename_i hle
          split at hf
          · rename_i l1 hl1
            split at hf
            · rename_i l2 hl2
              simp at hf; subst hf
              have key : ∀ (i : Nat) (k : SK), l1 = [(i, k)] → (∃ v, x[i]? = some v) ∧ ∃ v, y[i]? = some v := by
                rintro i k rfl
                simp only [List.singleton_append, vflat] at h
                cases hxo : x[i]? with
                | none => simp [hxo] at h
                | some u =>
                  cases hyo : y[i]? with
                  | none => simp [hxo, hyo] at h
                  | some v => exact ⟨⟨u, rfl⟩, v, rfl⟩
              obtain ⟨a, ha, hla⟩ := run_part_lies hl1 hsz hle.1 hle.2 hC hx (fun i k e => (key i k e).1) w
              obtain ⟨b, hb, hlb⟩ := run_part_lies hl1 hsz hle.1 hle.2 hC' hy (fun i k e => (key i k e).2) w
              rcases vflat_append h with ⟨h1, rfl⟩ | ⟨h1, h2⟩
              · have := flat_eq n f.type (off + f.offset) l1 hl1 d (by omega) x y X Y hx hy w a b hla hlb false h1
                simp [Op.eqFields, hn, ha, hb, this]
              · have := flat_eq n f.type (off + f.offset) l1 hl1 d (by omega) x y X Y hx hy w a b hla hlb true h1
                have h3 := flat_eqF n fs off s l2 hl2 d (by omega) x y X Y hx hy w C C' hC hC' r h2
                simp [Op.eqFields, hn, ha, hb, this, h3]
            · simp at hf
          · simp at hf
        · simp at hf
      · simp at hf
end

/-- Equality of values of a struct. -/
theorem run_equal_struct {t : TypeId} {n : Nat} {l : List (Nat × SK)} (hf : flatT P 40 t 0 = some l) (hn : szOf P t = some n) {fs : Array Field} (hu : P.underlying t = some (.struct fs))
    {x y : List V} {X Y : Array Value} (hx : VRL E x X.toList) (hy : VRL E y Y.toList) {r : Bool} (h : vflat x y l = some r) (w : World) :
    (Op.equal t (.agg X) (.agg Y)).run P w = .ok r w := by
  unfold Op.equal Op.maxDepth
  refine flat_eq 40 t 0 l hf 10000 (by omega) x y X Y hx hy w _ _ ?_ ?_ r h
  · unfold Lies; rw [hu]; exact ⟨n, X, hn, rfl, fun i _ => by simp⟩
  · unfold Lies; rw [hu]; exact ⟨n, Y, hn, rfl, fun i _ => by simp⟩

theorem run_equal_eqStruct {t : TypeId} {fs : Array Field} (hu : P.underlying t = some (.struct fs)) {a b : V} {ca cb : Value} (ha : VR E a ca) (hb : VR E b cb) {r : Bool}
    (h : veq (eqStruct P t) a b = some r) (w : World) : ∃ X Y, ca = .agg X ∧ cb = .agg Y ∧ (Op.equal t ca cb).run P w = .ok r w := by
  unfold eqStruct at h
  split at h
  · rename_i l n hl hn
    simp only [veq] at h
    split at h
    · rename_i x y
      split at h
      · obtain ⟨X, rfl, hX⟩ := ha.agg_inv
        obtain ⟨Y, rfl, hY⟩ := hb.agg_inv
        exact ⟨X, Y, rfl, rfl, run_equal_struct hl hn hu hX hY h w⟩
      · simp at h
    · simp at h
  · simp [veq] at h

end
end Go.Proofs.YtahgfodccndcjaaGreatEng
