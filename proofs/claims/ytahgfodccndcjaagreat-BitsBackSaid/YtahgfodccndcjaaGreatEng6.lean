/- The engine, part 6: operations without memory do what the engine says. -/
import Derived.Test.YtahgfodccndcjaaGreatEng5
import Derived.Laws.BytesString
import Derived.Laws.Entries
import Derived.Laws.Strings
namespace Go.Proofs.YtahgfodccndcjaaGreatEng
open Go

theorem ofVal1_VR {E : Env} {c : Value} {v : V} (h : ofVal1 c = some v) : VR E v c := by
  unfold ofVal1 at h
  split at h <;> try simp at h
  · subst h; exact .bool _
  · subst h; exact .int _ _
  · subst h; exact .str _
  · subst h; exact .nilp
  · subst h; exact .nils
  · subst h; exact .mapn
  · subst h; exact .nilf
  · subst h; exact .nili
  · rename_i f a b
    obtain ⟨⟨ha, hb⟩, rfl⟩ := h
    subst ha; subst hb
    exact .fn _ _ _ _ _ rfl rfl (fun _ _ _ h => by simp at h) (fun _ _ _ h => by simp at h)
theorem ofVals_VRL {E : Env} : ∀ {c : List Value} {l : List V}, ofVals c = some l → VRL E l c
  | [], l, h => by simp [ofVals] at h; subst h; exact .nil
  | x :: r, l, h => by
    unfold ofVals at h
    split at h
    · rename_i v hv
      split at h
      · rename_i l' hl
        simp at h; subst h
        exact .cons (ofVal1_VR hv) (ofVals_VRL hl)
      · simp at h
    · simp at h
theorem ofVal_VR {E : Env} {c : Value} {v : V} (h : ofVal c = some v) : VR E v c := by
  unfold ofVal at h
  split at h
  · rename_i cs
    simp only [Option.map_eq_some_iff] at h
    obtain ⟨l, hl, rfl⟩ := h
    exact .mk_agg (ofVals_VRL hl)
  · rename_i cs
    simp only [Option.map_eq_some_iff] at h
    obtain ⟨l, hl, rfl⟩ := h
    exact .mk_tup (ofVals_VRL hl)
  · exact ofVal1_VR h

/-- What an operation's operands are. -/
def OR (G : Nat → Option V) (E : Env) (τ : Tr V) (ρ : Operand → Value) (xs : List Operand) : Prop :=
  ∀ x ∈ xs, ∀ a, cArg G x = some a → ∀ v, a.ev τ = some v → VR E v (ρ x)

section
variable {P : Program} {G : Nat → Option V} {E : Env} {τ : Tr V} {ρ : Operand → Value}

theorem OR.sub {xs ys : List Operand} (h : OR G E τ ρ xs) (hs : ∀ y ∈ ys, y ∈ xs) : OR G E τ ρ ys := fun y hy => h y (hs y hy)

theorem OR.list : ∀ {xs : List Operand} (_ : OR G E τ ρ xs) {as : List Arg}, cArgs G xs = some as → ∀ {vs : List V}, evL τ as = some vs → VRL E vs (xs.map ρ)
  | [], _, as, hc, vs, hv => by simp [cArgs] at hc; subst hc; simp [evL] at hv; subst hv; exact .nil
  | x :: r, h, as, hc, vs, hv => by
    unfold cArgs at hc
    split at hc
    · rename_i a ha
      split at hc
      · rename_i l hl
        simp at hc; subst hc
        unfold evL at hv
        split at hv
        · rename_i v hva
          split at hv
          · rename_i vs' hvs
            simp at hv; subst hv
            exact .cons (h x (by simp) a ha v hva) (OR.list (h.sub fun y hy => by simp [hy]) hl hvs)
          · simp at hv
        · simp at hv
      · simp at hc
    · simp at hc

/-- The value is what a run of 's' leaves. -/
def Gives (P : Program) (E : Env) (w : World) (s : Sem Value) (v : V) : Prop := ∃ cv, s.run P w = .ok cv w ∧ VR E v cv

theorem szOf_info {t n : Nat} (h : szOf P t = some n) : ∃ i, P.info? t = some i ∧ i.size = n := by
  unfold szOf at h
  simp only [Option.map_eq_some_iff] at h
  exact h
theorem run_sizeOf' {t n : Nat} (h : szOf P t = some n) (w : World) : (sizeOf t).run P w = .ok n w := by
  obtain ⟨i, h1, rfl⟩ := szOf_info h
  simp [sizeOf, typeInfo, h1]
theorem run_isAgg' {t : Nat} {ag : Option Nat} (h : aggOf P t = some ag) (w : World) : (isAgg t).run P w = .ok ag.isSome w ∧ ∀ n, ag = some n → szOf P t = some n := by
  unfold aggOf at h
  split at h
  · rename_i hu
    simp only [Option.map_eq_some_iff] at h
    obtain ⟨n, hn, rfl⟩ := h
    exact ⟨by simp [isAgg, run_underlying hu], fun m hm => by simp at hm; subst hm; exact hn⟩
  · rename_i hu
    simp only [Option.map_eq_some_iff] at h
    obtain ⟨n, hn, rfl⟩ := h
    exact ⟨by simp [isAgg, run_underlying hu], fun m hm => by simp at hm; subst hm; exact hn⟩
  · rename_i d hs ha hu
    simp at h; subst h
    refine ⟨?_, fun m hm => by simp at hm⟩
    simp only [isAgg, Sem.run_bind, run_underlying hu, Result.andThen_ok]
    cases d <;> first | rfl | exact (hs _ rfl).elim | exact (ha _ _ rfl).elim
  · simp at h

/- the parts of an aggregate -/
theorem give_part {w : World} {t : Nat} {ag : Option Nat} {off : Nat} {c : List V} {C : Array Value} {v : V} (ha : aggOf P t = some ag) (hC : VRL E c C.toList)
    (hv : pick1 ag c off = some v) : Gives P E w (part t C off) v := by
  obtain ⟨h1, h2⟩ := run_isAgg' ha w
  cases ag with
  | none =>
    simp only [pick1] at hv
    obtain ⟨cv, h3, h4⟩ := hC.get hv
    refine ⟨cv, ?_, h4⟩
    have h3' : C[off]? = some cv := by simpa using h3
    simp [part, h1, h3']
  | some n =>
    simp only [pick1] at hv
    split at hv
    · rename_i l hl
      simp at hv; subst hv
      obtain ⟨hle, rfl⟩ := cut_some hl
      refine ⟨.agg (C.extract off (off + n)), ?_, .mk_agg ?_⟩
      · simp [part, h1, run_sizeOf' (h2 n rfl)]
      · have := (hC.drop off).take n
        simpa [Array.toList_extract, List.extract_eq_take_drop] using this
    · simp at hv

theorem natEq_iff : ∀ {a b : List Nat}, natEq a b = (a == b)
  | [], [] => rfl
  | [], _ :: _ => rfl
  | _ :: _, [] => rfl
  | a :: x, b :: y => by
    show (Nat.beq a b && natEq x y) = _
    rw [natEq_iff (a := x) (b := y), Bool.eq_iff_iff]
    simp
theorem natEq_map (a b : List UInt8) : natEq (a.map (·.toNat)) (b.map (·.toNat)) = (a == b) := by
  induction a generalizing b with
  | nil => cases b <;> rfl
  | cons x a ih =>
    cases b with
    | nil => rfl
    | cons y b =>
      show (Nat.beq x.toNat y.toNat && natEq (a.map (·.toNat)) (b.map (·.toNat))) = _
      rw [ih b, Bool.eq_iff_iff]
      simp [UInt8.toNat_inj]
theorem natLess_map (a b : List UInt8) : natLess (a.map (·.toNat)) (b.map (·.toNat)) = Op.bytesLess a b := by
  induction a generalizing b with
  | nil => cases b <;> rfl
  | cons x a ih =>
    cases b with
    | nil => rfl
    | cons y b =>
      show (Nat.blt x.toNat y.toNat || (Nat.beq x.toNat y.toNat && natLess (a.map (·.toNat)) (b.map (·.toNat)))) = _
      rw [ih b, Bool.eq_iff_iff]
      show _ ↔ (decide (x < y) || (x == y && Op.bytesLess a b)) = true
      simp [Nat.blt_eq, UInt8.lt_iff_toNat_lt, UInt8.toNat_inj]

theorem toList_data (s : ByteArray) : s.toList = s.data.toList := ByteArray.toList_eq s


/- ---- arithmetic ---- -/

theorem gives_of_eq {w : World} {s s' : Sem Value} {v : V} (h : s = s') (h' : Gives P E w s' v) : Gives P E w s v := h ▸ h'

theorem give_ibin {op : BinOp} {k : IntKind} {a b : Int} {v : V} (h : ibin op k a b = some v) (t : Nat) (w : World) :
    Gives P E w (binOp op t (.int k a) (.int k b)) v := by
  cases op <;> simp only [ibin, Option.some.injEq, reduceCtorEq] at h
  case quo =>
    split at h
    · simp at h
    · rename_i hb; simp at h; subst h; exact gives_of_eq (s' := Op.intDiv .quo k a b) (by simp [binOp]) ⟨_, by simp only [Op.intDiv, if_neg hb]; rfl, .int _ _⟩
  case rem =>
    split at h
    · simp at h
    · rename_i hb; simp at h; subst h; exact gives_of_eq (s' := Op.intDiv .rem k a b) (by simp [binOp]) ⟨_, by simp only [Op.intDiv, if_neg hb]; rfl, .int _ _⟩
  case add => subst h; exact gives_of_eq (s' := Op.intArith .add k a b) (by simp [binOp]) ⟨_, rfl, .int _ _⟩
  case sub => subst h; exact gives_of_eq (s' := Op.intArith .sub k a b) (by simp [binOp]) ⟨_, rfl, .int _ _⟩
  case mul => subst h; exact gives_of_eq (s' := Op.intArith .mul k a b) (by simp [binOp]) ⟨_, rfl, .int _ _⟩
  case and => subst h; exact gives_of_eq (s' := Op.intBits .and k a b) (by simp [binOp]) ⟨_, rfl, .int _ _⟩
  case or => subst h; exact gives_of_eq (s' := Op.intBits .or k a b) (by simp [binOp]) ⟨_, rfl, .int _ _⟩
  case xor => subst h; exact gives_of_eq (s' := Op.intBits .xor k a b) (by simp [binOp]) ⟨_, rfl, .int _ _⟩
  case andNot => subst h; exact gives_of_eq (s' := Op.intBits .andNot k a b) (by simp [binOp]) ⟨_, rfl, .int _ _⟩
  case eql => subst h; exact gives_of_eq (s' := Op.intCmp .eql a b) (by simp [binOp]) ⟨_, rfl, .bool _⟩
  case neq => subst h; exact gives_of_eq (s' := Op.intCmp .neq a b) (by simp [binOp]) ⟨_, rfl, .bool _⟩
  case lss => subst h; exact gives_of_eq (s' := Op.intCmp .lss a b) (by simp [binOp]) ⟨_, rfl, .bool _⟩
  case leq => subst h; exact gives_of_eq (s' := Op.intCmp .leq a b) (by simp [binOp]) ⟨_, rfl, .bool _⟩
  case gtr => subst h; exact gives_of_eq (s' := Op.intCmp .gtr a b) (by simp [binOp]) ⟨_, rfl, .bool _⟩
  case geq => subst h; exact gives_of_eq (s' := Op.intCmp .geq a b) (by simp [binOp]) ⟨_, rfl, .bool _⟩

theorem give_ishift {op : BinOp} {k k' : IntKind} {a b : Int} {v : V} (h : ishift op k a b = some v) (t : Nat) (w : World) :
    Gives P E w (binOp op t (.int k a) (.int k' b)) v := by
  unfold ishift at h
  split at h
  · simp at h
  · rename_i hb
    cases op <;> simp at h <;> subst h
    · exact gives_of_eq (s' := Op.shift .shl k a k' b) (by simp [binOp]) ⟨_, by simp only [Op.shift, if_neg hb]; rfl, .int _ _⟩
    · exact gives_of_eq (s' := Op.shift .shr k a k' b) (by simp [binOp]) ⟨_, by simp only [Op.shift, if_neg hb]; rfl, .int _ _⟩

theorem give_sbin {op : BinOp} {a b : ByteArray} {v : V} (hlen : op = .add → a.size + b.size ≤ mostLen) (h : sbin op (a.data.toList.map (·.toNat)) (b.data.toList.map (·.toNat)) = some v) (t : Nat) (w : World) :
    Gives P E w (binOp op t (.string a) (.string b)) v := by
  have e1 : (a.toList == b.toList) = natEq (a.data.toList.map (·.toNat)) (b.data.toList.map (·.toNat)) := by rw [natEq_map, toList_data, toList_data]
  have e2 : Op.bytesLess a.toList b.toList = natLess (a.data.toList.map (·.toNat)) (b.data.toList.map (·.toNat)) := by rw [natLess_map, toList_data, toList_data]
  have hb : binOp op t (.string a) (.string b) = Op.stringOp op a b := by cases op <;> simp [binOp]
  refine gives_of_eq hb ?_
  cases op <;> simp only [sbin, Option.some.injEq, reduceCtorEq] at h
  case add =>
    subst h
    have hl := hlen rfl
    refine ⟨.string (a ++ b), ?_, ?_⟩
    · have : ¬ (((a.size + b.size : Nat) : Int) > IntKind.i64.max) := by
        have : IntKind.i64.max = 9223372036854775807 := rfl
        unfold mostLen at hl
        omega
      simp only [Op.stringOp, if_neg this]; rfl
    · have := VR.str (E := E) (a ++ b)
      rwa [show (a ++ b).data.toList.map (·.toNat) = a.data.toList.map (·.toNat) ++ b.data.toList.map (·.toNat) by simp [ByteArray.data_append]] at this
  case eql => subst h; exact ⟨_, by simp only [Op.stringOp, e1]; rfl, .bool _⟩
  case neq => subst h; exact ⟨_, by simp only [Op.stringOp, e1]; rfl, .bool _⟩
  case lss => subst h; exact ⟨_, by simp only [Op.stringOp, e2]; rfl, .bool _⟩
  case leq => subst h; exact ⟨_, by simp only [Op.stringOp, e1, e2]; rfl, .bool _⟩
  case gtr => subst h; exact ⟨_, by simp only [Op.stringOp, e1, e2]; rfl, .bool _⟩
  case geq => subst h; exact ⟨_, by simp only [Op.stringOp, e2]; rfl, .bool _⟩

end
end Go.Proofs.YtahgfodccndcjaaGreatEng
