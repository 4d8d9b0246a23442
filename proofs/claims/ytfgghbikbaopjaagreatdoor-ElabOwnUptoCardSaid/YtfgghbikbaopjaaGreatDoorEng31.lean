/- The engine, part 31: strings.Fields by its contract. -/
import Derived.Test.YtfgghbikbaopjaaGreatDoorEng30
import Derived.Shelf.Strings.Fields
namespace Go.Proofs.YtfgghbikbaopjaaGreatDoorEng
open Go Go.Shelf

def spN (b : Nat) : Bool := (Nat.ble 9 b && Nat.ble b 13) || Nat.beq b 32
/-- the fields; the first: what is being read, turned round -/
def fldN : List Nat → List Nat → List (List Nat)
  | [], [] => []
  | c :: r, [] => [(c :: r).reverse]
  | cur, b :: l => match spN b with
    | true => match cur with
      | [] => fldN [] l
      | c :: r => (c :: r).reverse :: fldN [] l
    | false => fldN (b :: cur) l
def iFields (ty : Nat) : List V → H → CR
  | [.str l], σ => if l.length < 4294967281 ∧ l.all (fun b => Nat.blt b 128) = true then
      .ret (.sl σ.nx 0 0 (fldN [] l).length (some (fldN [] l).length) 0) (σ.new (.cells ty ((fldN [] l).map .str) 0 0 (some 0) [])) else .bad
  | _, _ => .bad

theorem spN_eq (b : UInt8) : spN b.toNat = Lib.isSp b := by
  have : ∀ n : Fin 256, spN n.val = Lib.isSp (UInt8.ofNat n.val) := by decide +kernel
  have h := this ⟨b.toNat, b.toNat_lt⟩
  simpa using h
theorem fldN_eq : ∀ (l cur : List UInt8), fldN (cur.reverse.map (·.toNat)) (l.map (·.toNat)) = (Lib.fieldsGo cur l).map (·.map (·.toNat))
  | [], cur => by
    cases hc : cur.reverse with
    | nil => have : cur = [] := by simpa using hc
             subst this; rfl
    | cons c r =>
      have : cur = (c :: r).reverse := by rw [← hc]; simp
      subst this
      simp [fldN, Lib.fieldsGo]
  | b :: l, cur => by
    have h1 := fldN_eq l []
    have h2 := fldN_eq l (cur ++ [b])
    simp only [List.map_nil, List.reverse_nil] at h1
    simp only [List.reverse_append, List.reverse_cons, List.reverse_nil, List.nil_append, List.cons_append, List.map_cons] at h2
    cases hc : cur.reverse with
    | nil =>
      have : cur = [] := by simpa using hc
      subst this
      simp only [List.map_nil, List.map_cons, fldN, spN_eq, Lib.fieldsGo]
      cases Lib.isSp b with
      | true => simpa using h1
      | false => simpa using h2
    | cons c r =>
      have hcur : cur = (c :: r).reverse := by rw [← hc]; simp
      rw [hc] at h2
      simp only [List.map_cons, fldN, spN_eq, Lib.fieldsGo]
      cases Lib.isSp b with
      | true =>
        have hne : cur.isEmpty = false := by rw [hcur]; simp
        simp only [if_true, hne, Bool.false_eq_true, if_false, List.map_cons, h1]
        rw [hcur]; simp
      | false =>
        simp only [Bool.false_eq_true, if_false]
        exact h2

section
variable {P : Program} {w0 : World} {ρ : Ren}
theorem iFields_ok (L : Lays.n157 P ρ) (hi9 : (P.info? (ρ.t 9)).map (fun i => (i.zero, i.size, i.bytes)) = some (some (.string ByteArray.empty), 1, 16)) (hs : szOf P (ρ.t 9) = some 1)
    (hT : ∀ c : Nat, c < 256 → w0.cell? ⟨ρ.g 0, c, none⟩ = some (.int .u8 (if Lib.isSp (UInt8.ofNat c) then 1 else 0))) {fn : Func} {body : Code} (hf : P.funcs[ρ.f 157]? = some fn) (hb : fn.body = some body) (hname : (fn.name == "runtime.NumGoroutine") = false) :
    IntrOk P w0 (ρ.f 157) (iFields (ρ.t 9)) := by
  intro args σ E w cargs h0 h hargs
  generalize hr : iFields (ρ.t 9) args σ = r
  unfold iFields at hr
  split at hr
  · rename_i _ l
    split at hr
    · rename_i hc
      subst hr
      obtain ⟨a1, r1, e1, h1, hr1⟩ := hargs.cons_left
      have := hr1.nil_left; subst this
      obtain ⟨s, rfl, rfl⟩ := h1.str_inv
      rw [arr_of_list1 e1]
      have hsz : s.size < 4294967281 := by have := hc.1; simpa using this
      have hasc : ∀ (j : Nat) b, s.data.toList[j]? = some b → b.toNat < 128 := by
        intro j b hb
        have := List.all_eq_true.1 hc.2 b.toNat (List.mem_map_of_mem (List.mem_of_getElem? hb))
        have : b.toNat ≤ 127 := by simpa [Nat.blt] using this
        omega
      have hT' : ∀ c : Nat, c < 256 → w.cell? ⟨ρ.g 0, c, none⟩ = some (.int .u8 (if Lib.isSp (UInt8.ofNat c) then 1 else 0)) := by
        intro c hc
        have h1 := hT c hc
        have hlt := World.block_lt_of_cell? _ _ h1
        have := h.old (ρ.g 0) (by rw [h0]; exact hlt)
        rw [h0] at this
        rw [← h1]
        simp only [World.cell?, this]
      refine ⟨.enter _ _, w, callFunc_run hf hb (by rw [hname]; decide) _ w, (Any.strings_Fields_core L hi9 s w hsz hasc hT').mono ?_⟩
      rintro e w' ⟨rfl, rfl⟩
      have hfl : fldN [] (s.data.toList.map (·.toNat)) = (Lib.fields s.data.toList).map (·.map (·.toNat)) := fldN_eq s.data.toList []
      rw [hfl]
      generalize Lib.fields s.data.toList = F
      obtain ⟨g1, g2⟩ := h.alloc (b := .cells (ρ.t 9) ((F.map (·.map (·.toNat))).map .str) 0 0 (some 0) []) (o := .cells (F.map fun l => Value.string ⟨l.toArray⟩).toArray (ρ.t 9)) (p := ⟨w.heap.size, 0, F.length, 1⟩) rfl
        ⟨rfl, rfl, rfl, by simp, hs, _, _, rfl, .inr rfl, by simp, by simp, fun i v hv => by
          simp only [List.getElem?_map, Option.map_eq_some_iff] at hv
          obtain ⟨x, ⟨y, hy, rfl⟩, rfl⟩ := hv
          refine ⟨.string ⟨y.toArray⟩, by simp [hy], ?_⟩
          have := VR.str (E := E) ⟨y.toArray⟩
          simpa using this⟩
      refine ⟨_, ?_, g1, g2⟩
      have hlen : (F.map (·.map (·.toNat))).length = F.length := by simp
      rw [hlen]
      exact .sl σ.nx 0 0 F.length (some F.length) 0 F.length ⟨w.heap.size, 0, F.length, 1⟩ _ (Env.put_self _ _ _ _) (Nat.zero_le _) (Nat.le_refl _) (.inr (by simp [Place.addr])) rfl
    · subst hr; trivial
  · subst hr; trivial
end
end Go.Proofs.YtfgghbikbaopjaaGreatDoorEng
