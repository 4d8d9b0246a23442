/- The engine, part 10: slicing, lengths, aggregates. -/
import Derived.Test.YtplaefbblpiehaaEng9
namespace Go.Proofs.YtplaefbblpiehaaEng
open Go
section
variable {P : Program} {G : Nat → Option V} {E : Env} {τ : Tr V} {ρ : Operand → Value}

/-- an optional operand -/
def ORo (E : Env) (a : Option V) (c : Option Value) : Prop :=
  match a, c with
  | none, none => True
  | some v, some cv => VR E v cv
  | _, _ => False

theorem OR.opt {xs : List Operand} (h : OR G E τ ρ xs) {x : Option Operand} (hx : ∀ y, x = some y → y ∈ xs) {a : Option Arg} (ha : cOpt G x = some a) {v : Option V} (hv : ofOpt τ a = some v) : ORo E v (x.map ρ) := by
  cases x with
  | none =>
    simp [cOpt] at ha; subst ha
    simp [ofOpt] at hv; subst hv; trivial
  | some y =>
    simp only [cOpt, Option.map_eq_some_iff] at ha
    obtain ⟨a', ha', rfl⟩ := ha
    simp only [ofOpt] at hv
    split at hv
    · rename_i u hu
      simp at hv; subst hv
      exact h y (hx y rfl) a' ha' u hu
    · simp at hv

theorem run_bnd {a : V} {c : Value} (h : VR E a c) {d most m : Nat} (hb : bnd (some a) d most = some m) (code : BoundsCode) (w : World) : (Instr.sliceBound c most code).run P w = .ok m w ∧ m ≤ most := by
  unfold bnd at hb
  simp only at hb
  split at hb
  · rename_i k n
    rw [h.int_inv]
    split at hb
    · rename_i hle
      simp at hb; subst hb
      refine ⟨?_, by omega⟩
      simp [Instr.sliceBound, asIntOf, hle]
    · simp at hb
  · simp at hb

theorem bnd_le {a : Option V} {d most m : Nat} (hb : bnd a d most = some m) (hd : d ≤ most) : m ≤ most := by
  unfold bnd at hb
  split at hb
  · simp at hb; omega
  · split at hb
    · split at hb
      · simp at hb; omega
      · simp at hb
    · simp at hb

theorem run_sliceBounds {isSlice : Bool} {len cap : Nat} {lo hi mx : Option V} {clo chi cmx : Option Value} (hlo : ORo E lo clo) (hhi : ORo E hi chi) (hmx : ORo E mx cmx) (hm : mx.isSome = true → hi.isSome = true)
    {l h m : Nat} (e1 : bnd mx cap cap = some m) (e2 : bnd hi len m = some h) (e3 : bnd lo 0 h = some l) (w : World) :
    (Instr.sliceBounds isSlice len cap clo chi cmx).run P w = .ok (l, h, m) w := by
  have f1 : ∀ v, cmx = some v → ∀ code, (Instr.sliceBound v cap code).run P w = .ok m w := by
    rintro v rfl code
    cases mx with
    | none => simp [ORo] at hmx
    | some u => exact (run_bnd hmx e1 code w).1
  have f1' : cmx = none → m = cap := by
    rintro rfl
    cases mx with
    | none => simp [bnd] at e1; exact e1.symm
    | some u => simp [ORo] at hmx
  have f2 : ∀ v, chi = some v → ∀ code, (Instr.sliceBound v m code).run P w = .ok h w := by
    rintro v rfl code
    cases hi with
    | none => simp [ORo] at hhi
    | some u => exact (run_bnd hhi e2 code w).1
  have f2' : chi = none → h = len ∧ cmx = none := by
    rintro rfl
    cases hi with
    | none =>
      simp [bnd] at e2
      refine ⟨e2.symm, ?_⟩
      cases mx with
      | none => cases cmx with
        | none => rfl
        | some _ => simp [ORo] at hmx
      | some _ => simp at hm
    | some u => simp [ORo] at hhi
  have f3 : ∀ v, clo = some v → ∀ code, (Instr.sliceBound v h code).run P w = .ok l w := by
    rintro v rfl code
    cases lo with
    | none => simp [ORo] at hlo
    | some u => exact (run_bnd hlo e3 code w).1
  have f3' : clo = none → l = 0 := by
    rintro rfl
    cases lo with
    | none => simp [bnd] at e3; exact e3.symm
    | some u => simp [ORo] at hlo
  clear e1 e2 e3 hlo hhi hmx hm
  cases chi with
  | none =>
    obtain ⟨rfl, rfl⟩ := f2' rfl
    obtain rfl := f1' rfl
    cases clo with
    | none => obtain rfl := f3' rfl; simp [Instr.sliceBounds]
    | some v => simp [Instr.sliceBounds, f3 v rfl]
  | some vh =>
    cases cmx with
    | none =>
      obtain rfl := f1' rfl
      cases clo with
      | none => obtain rfl := f3' rfl; simp [Instr.sliceBounds, f2 vh rfl]
      | some v => simp [Instr.sliceBounds, f2 vh rfl, f3 v rfl]
    | some vm =>
      cases clo with
      | none => obtain rfl := f3' rfl; simp [Instr.sliceBounds, f1 vm rfl, f2 vh rfl]
      | some v => simp [Instr.sliceBounds, f1 vm rfl, f2 vh rfl, f3 v rfl]

theorem toNats_extract (s : ByteArray) (l h : Nat) : (s.extract l h).data.toList.map (·.toNat) = ((s.data.toList.map (·.toNat)).drop l).take (h - l) := by
  rw [ByteArray.data_extract, Array.toList_extract, List.extract_eq_take_drop, List.map_take, List.map_drop]

theorem does_slis {o : Oper} {t : TypeId} {x : Operand} {lo hi : Option Operand} (ho : o.op = .slice t x lo hi none) (ht : P.underlying t = some .string) {a : Arg} {alo ahi : Option Arg} (ha : cArg G x = some a) (hlo : cOpt G lo = some alo) (hhi : cOpt G hi = some ahi)
    (hO : OR G E τ ρ o.op.operands.toList) {v : V} (hv : (POp.slis a alo ahi).ev τ = some v) (w : World) : Does P E w ρ o v := by
  rw [ho] at hO
  have hml : ∀ y, lo = some y → y ∈ (Op.slice t x lo hi none).operands.toList := by rintro y rfl; simp [Op.operands]
  have hmh : ∀ y, hi = some y → y ∈ (Op.slice t x lo hi none).operands.toList := by rintro y rfl; simp [Op.operands]
  refine Gives.does (s := Instr.sliceAt t (ρ x) (lo.map ρ) (hi.map ρ) none) ?_ (by simp [execOp, ho])
  simp only [POp.ev] at hv
  split at hv
  · rename_i l hu
    obtain ⟨s, hs, rfl⟩ := (hO.one (x := x) (by simp [Op.operands]) ha hu).str_inv
    split at hv
    · rename_i vlo hvlo
      split at hv
      · rename_i vhi hvhi
        have olo := hO.opt hml hlo hvlo
        have ohi := hO.opt hmh hhi hvhi
        split at hv
        · rename_i h hh
          split at hv
          · rename_i l hl
            simp at hv; subst hv
            have hlen : (s.data.toList.map (·.toNat)).length = s.size := by simp
            rw [hlen] at hh
            have hb := run_sliceBounds (P := P) (isSlice := false) (len := s.size) (cap := s.size) olo ohi (mx := none) (cmx := none) trivial (by simp) rfl hh hl w
            refine ⟨.string (s.extract l h), ?_, ?_⟩
            · simp [Instr.sliceAt, Instr.slice, run_underlying ht, hs, hb]
            · have := VR.str (E := E) (s.extract l h)
              rwa [toNats_extract] at this
          · simp at hv
        · simp at hv
      · simp at hv
    · simp at hv
  · simp at hv

theorem give_slsl {t e : TypeId} (ht : P.underlying t = some (.slice e)) {s : Nat} (hs : szOf P e = some s) {a : V} {ca : Value} (ha : VR E a ca) {lo hi mx : Option V} {clo chi cmx : Option Value} (hlo : ORo E lo clo) (hhi : ORo E hi chi) (hmx : ORo E mx cmx)
    (hm : mx.isSome = true → hi.isSome = true) {v : V} (hv : vslsl s a lo hi mx = some v) (w : World) : Gives P E w (Instr.sliceAt t ca clo chi cmx) v := by
  have base : ∀ (ad : Option Addr) (len cap l h m : Nat), (Instr.sliceBounds true len cap clo chi cmx).run P w = .ok (l, h, m) w →
      (Instr.sliceAt t (.slice ad len cap) clo chi cmx).run P w = .ok (.slice (if m = l then ad else ad.map (·.add (l * s))) (h - l) (m - l)) w := by
    intro ad len cap l h m hb
    simp [Instr.sliceAt, Instr.slice, run_underlying ht, hb, run_sizeOf' hs]
  unfold vslsl at hv
  split at hv
  · -- nil
    split at hv
    · rename_i m e1
      split at hv
      · rename_i h e2
        split at hv
        · rename_i l e3
          simp at hv; subst hv
          cases ha
          have hb := run_sliceBounds (P := P) (isSlice := true) (len := 0) (cap := 0) hlo hhi hmx hm e1 e2 e3 w
          have hm0 := bnd_le e1 (Nat.le_refl _)
          have hh0 := bnd_le e2 (by omega)
          have hl0 := bnd_le e3 (by omega)
          refine ⟨_, base none 0 0 l h m hb, ?_⟩
          have : m = 0 := by omega
          have : h = 0 := by omega
          have : l = 0 := by omega
          subst_vars
          exact .nils
        · simp at hv
      · simp at hv
    · simp at hv
  · -- capacity not known
    rename_i x vv oo len es
    split at hv
    · rename_i hes
      subst hes
      cases ha with
      | sl _ _ _ _ _ _ ccap p ad hp hl hlen had hc =>
        obtain ⟨hes, hcap⟩ := hc
        split at hv
        · cases cmx with
          | some _ => simp [ORo] at hmx
          | none =>
            split at hv
            · rename_i h e2
              split at hv
              · rename_i l e3
                simp at hv; subst hv
                have hh : h ≤ len := bnd_le e2 (Nat.le_refl _)
                have hl' : l ≤ h := bnd_le e3 (by omega)
                have e2' : bnd hi len ccap = some h := by
                  cases hi with
                  | none => simpa [bnd] using e2
                  | some u =>
                    cases u <;> simp only [bnd] at e2 ⊢ <;> try simp at e2
                    obtain ⟨⟨q1, q2⟩, q3⟩ := e2
                    rw [if_pos ⟨q1, by omega⟩, q3]
                have hb := run_sliceBounds (P := P) (isSlice := true) (len := len) (cap := ccap) hlo hhi (mx := none) (cmx := none) trivial (by simp) rfl e2' e3 w
                refine ⟨_, base (some ad) len ccap l h ccap hb, ?_⟩
                by_cases hcl : ccap = l
                · rw [if_pos hcl]
                  refine .sl _ _ _ _ _ _ _ p ad hp (by omega) (by omega) (.inl (by omega)) ⟨hes, ?_⟩
                  subst hcl
                  simp only [Nat.sub_self, Nat.zero_mul, Nat.add_zero]; omega
                · rw [if_neg hcl]
                  have hadd : ad = p.addr oo := had.resolve_left (by omega)
                  simp only [Option.map_some]
                  rw [hadd, Place.addr_add p _ hl]
                  refine .sl _ _ _ _ _ _ _ p _ hp (by omega) (by omega) (.inr rfl) ⟨hes, ?_⟩
                  have : ccap * es = l * es + (ccap - l) * es := by rw [← Nat.add_mul]; congr 1; omega
                  omega
              · simp at hv
            · simp at hv
        · rename_i mv
          split at hv
          · rename_i m e1
            split at hv
            · rename_i h e2
              split at hv
              · rename_i l e3
                simp at hv; subst hv
                have hmle : m ≤ len := bnd_le e1 (by omega)
                have hhm : h ≤ m ∨ hi = none := by
                  cases hi with
                  | none => exact .inr rfl
                  | some u => cases u <;> simp only [bnd] at e2 <;> try simp at e2
                              · exact .inl (by omega)
                have hhm' : h ≤ m := hhm.resolve_right (by rintro rfl; simp at hm)
                have hl' : l ≤ h := bnd_le e3 (by omega)
                have e1' : bnd (some mv) ccap ccap = some m := by
                  cases mv <;> simp only [bnd] at e1 ⊢ <;> try simp at e1
                  obtain ⟨⟨q1, q2⟩, q3⟩ := e1
                  rw [if_pos ⟨q1, by omega⟩, q3]
                have hb := run_sliceBounds (P := P) (isSlice := true) (len := len) (cap := ccap) hlo hhi hmx hm e1' e2 e3 w
                refine ⟨_, base (some ad) len ccap l h m hb, ?_⟩
                by_cases hcl : m = l
                · rw [if_pos hcl, if_pos hcl]
                  exact .sl _ _ _ _ _ _ _ p ad hp (by omega) (by omega) (.inl (by omega)) rfl
                · rw [if_neg hcl, if_neg hcl]
                  have hadd : ad = p.addr oo := had.resolve_left (by omega)
                  simp only [Option.map_some]
                  rw [hadd, Place.addr_add p _ hl]
                  exact .sl _ _ _ _ _ _ _ p _ hp (by omega) (by omega) (.inr rfl) rfl
              · simp at hv
            · simp at hv
          · simp at hv
    · simp at hv
  · -- capacity known
    rename_i x vv oo len c es
    cases ha with
    | sl _ _ _ _ _ _ ccap p ad hp hl hlen had hc =>
      simp only at hc; subst hc
      split at hv
      · rename_i m e1
        split at hv
        · rename_i h e2
          split at hv
          · rename_i l e3
            simp at hv; subst hv
            have hmle : m ≤ ccap := bnd_le e1 (by omega)
            have hhm' : h ≤ m := by
              cases mx with
              | none => simp [bnd] at e1; exact bnd_le e2 (by omega)
              | some u =>
                cases hi with
                | none => simp at hm
                | some u => cases u <;> simp only [bnd] at e2 <;> try simp at e2
                            · omega
            have hl' : l ≤ h := bnd_le e3 (by omega)
            have hb := run_sliceBounds (P := P) (isSlice := true) (len := len) (cap := ccap) hlo hhi hmx hm e1 e2 e3 w
            refine ⟨_, base (some ad) len ccap l h m hb, ?_⟩
            by_cases hcl : m = l
            · rw [if_pos hcl, if_pos hcl]
              exact .sl _ _ _ _ _ _ _ p ad hp (by omega) (by omega) (.inl (by omega)) rfl
            · rw [if_neg hcl, if_neg hcl]
              have hadd : ad = p.addr oo := had.resolve_left (by omega)
              simp only [Option.map_some]
              rw [hadd, Place.addr_add p _ hl]
              exact .sl _ _ _ _ _ _ _ p _ hp (by omega) (by omega) (.inr rfl) rfl
          · simp at hv
        · simp at hv
      · simp at hv
  · -- read only
    rename_i cs oo len c
    cases ha with
    | ros _ _ _ _ bb k0 g ad hbb hlen had hc hvv =>
      split at hv
      · rename_i m e1
        split at hv
        · rename_i h e2
          split at hv
          · rename_i l e3
            simp at hv; subst hv
            have hmle : m ≤ c := bnd_le e1 (by omega)
            have hhm' : h ≤ m := by
              cases mx with
              | none => simp [bnd] at e1; exact bnd_le e2 (by omega)
              | some u =>
                cases hi with
                | none => simp at hm
                | some u => cases u <;> simp only [bnd] at e2 <;> try simp at e2
                            · omega
            have hl' : l ≤ h := bnd_le e3 (by omega)
            have hb := run_sliceBounds (P := P) (isSlice := true) (len := len) (cap := c) hlo hhi hmx hm e1 e2 e3 w
            refine ⟨_, base (some ad) len c l h m hb, ?_⟩
            by_cases hcl : m = l
            · rw [if_pos hcl, if_pos hcl]
              exact .ros _ _ _ _ bb k0 g ad hbb (by omega) (.inl (by omega)) hc hvv
            · rw [if_neg hcl, if_neg hcl]
              have hadd : ad = ⟨bb, k0 + oo, none⟩ := had.resolve_left (by omega)
              simp only [Option.map_some]
              rw [hadd, add_mk, Nat.add_assoc]
              exact .ros _ _ _ _ bb k0 g _ hbb (by omega) (.inr rfl) hc hvv
          · simp at hv
        · simp at hv
      · simp at hv
  · simp at hv

theorem does_slsl {o : Oper} {t : TypeId} {x : Operand} {lo hi mx : Option Operand} (ho : o.op = .slice t x lo hi mx) {e : TypeId} (ht : P.underlying t = some (.slice e)) {s : Nat} (hs : szOf P e = some s) {a : Arg} {alo ahi amx : Option Arg}
    (ha : cArg G x = some a) (hlo : cOpt G lo = some alo) (hhi : cOpt G hi = some ahi) (hmx : cOpt G mx = some amx) (hO : OR G E τ ρ o.op.operands.toList) {v : V} (hv : (POp.slsl s a alo ahi amx).ev τ = some v) (w : World) : Does P E w ρ o v := by
  rw [ho] at hO
  have hml : ∀ y, lo = some y → y ∈ (Op.slice t x lo hi mx).operands.toList := by rintro y rfl; simp [Op.operands]
  have hmh : ∀ y, hi = some y → y ∈ (Op.slice t x lo hi mx).operands.toList := by rintro y rfl; simp [Op.operands]
  have hmm : ∀ y, mx = some y → y ∈ (Op.slice t x lo hi mx).operands.toList := by rintro y rfl; simp [Op.operands]
  refine Gives.does (s := Instr.sliceAt t (ρ x) (lo.map ρ) (hi.map ρ) (mx.map ρ)) ?_ (by simp [execOp, ho])
  simp only [POp.ev] at hv
  split at hv
  · rename_i u hu
    split at hv
    · rename_i vlo hvlo
      split at hv
      · rename_i vhi hvhi
        split at hv
        · rename_i vmx hvmx
          split at hv
          · simp at hv
          · rename_i hne
            refine give_slsl ht hs (hO.one (x := x) (by simp [Op.operands]) ha hu) (hO.opt hml hlo hvlo) (hO.opt hmh hhi hvhi) (hO.opt hmm hmx hvmx) ?_ hv w
            intro h1
            cases vmx with
            | none => simp at h1
            | some m => cases vhi with
              | none => exact (hne m rfl rfl).elim
              | some _ => rfl
        · simp at hv
      · simp at hv
    · simp at hv
  · simp at hv

theorem does_slar {o : Oper} {t : TypeId} {x : Operand} {lo hi mx : Option Operand} (ho : o.op = .slice t x lo hi mx) {e : TypeId} {n : Nat}
    (ht : P.underlying t = some (.array n e) ∨ ∃ arr, P.underlying t = some (.pointer arr) ∧ P.underlying arr = some (.array n e)) {s : Nat} (hs : szOf P e = some s) {a : Arg} {alo ahi amx : Option Arg}
    (ha : cArg G x = some a) (hlo : cOpt G lo = some alo) (hhi : cOpt G hi = some ahi) (hmx : cOpt G mx = some amx) (hO : OR G E τ ρ o.op.operands.toList) {v : V} (hv : (POp.slar n s a alo ahi amx).ev τ = some v) (w : World) : Does P E w ρ o v := by
  rw [ho] at hO
  have hml : ∀ y, lo = some y → y ∈ (Op.slice t x lo hi mx).operands.toList := by rintro y rfl; simp [Op.operands]
  have hmh : ∀ y, hi = some y → y ∈ (Op.slice t x lo hi mx).operands.toList := by rintro y rfl; simp [Op.operands]
  have hmm : ∀ y, mx = some y → y ∈ (Op.slice t x lo hi mx).operands.toList := by rintro y rfl; simp [Op.operands]
  refine Gives.does (s := Instr.sliceAt t (ρ x) (lo.map ρ) (hi.map ρ) (mx.map ρ)) ?_ (by simp [execOp, ho])
  simp only [POp.ev] at hv
  split at hv
  · rename_i u hu
    split at hv
    · rename_i vlo hvlo
      split at hv
      · rename_i vhi hvhi
        split at hv
        · rename_i vmx hvmx
          split at hv
          · simp at hv
          · rename_i hne
            have olo := hO.opt hml hlo hvlo
            have ohi := hO.opt hmh hhi hvhi
            have omx := hO.opt hmm hmx hvmx
            have hx := hO.one (x := x) (by simp [Op.operands]) ha hu
            have hm : vmx.isSome = true → vhi.isSome = true := by
              intro h1
              cases vmx with
              | none => simp at h1
              | some m => cases vhi with
                | none => exact (hne m rfl rfl).elim
                | some _ => rfl
            split at hv
            · rename_i m e1
              split at hv
              · rename_i h e2
                split at hv
                · rename_i l e3
                  have hmle : m ≤ n := bnd_le e1 (by omega)
                  have hhm' : h ≤ m := by
                    cases vmx with
                    | none => simp [bnd] at e1; exact bnd_le e2 (by omega)
                    | some u =>
                      cases vhi with
                      | none => simp at hm
                      | some u => cases u <;> simp only [bnd] at e2 <;> try simp at e2
                                  · omega
                  have hl' : l ≤ h := bnd_le e3 (by omega)
                  have hb := run_sliceBounds (P := P) (isSlice := false) (len := n) (cap := n) olo ohi omx hm e1 e2 e3 w
                  have base : ∀ ad : Addr, (Instr.sliceAt t (.pointer (some ad)) (lo.map ρ) (hi.map ρ) (mx.map ρ)).run P w = .ok (.slice (some (if m = l then ad else ad.add (l * s))) (h - l) (m - l)) w := by
                    intro ad
                    rcases ht with ht | ⟨arr, ht, ht'⟩
                    · simp [Instr.sliceAt, run_underlying ht, Instr.sureAddr, hb, run_sizeOf' hs]
                    · simp [Instr.sliceAt, Instr.slice, run_underlying ht, run_underlying ht', asAddr, hb, run_sizeOf' hs]
                  split at hv
                  · rename_i y vv oo
                    simp at hv; subst hv
                    generalize ρ x = c at hx
                    cases hx with
                    | ptr _ _ _ p hp hl =>
                      refine ⟨_, base _, ?_⟩
                      by_cases hcl : m = l
                      · rw [if_pos hcl, if_pos hcl]
                        exact .sl _ _ _ _ _ _ _ p _ hp (by omega) (by omega) (.inl (by omega)) rfl
                      · rw [if_neg hcl, if_neg hcl, Place.addr_add p _ hl]
                        exact .sl _ _ _ _ _ _ _ p _ hp (by omega) (by omega) (.inr rfl) rfl
                  · rename_i cc oo
                    simp at hv; subst hv
                    generalize ρ x = c at hx
                    cases hx with
                    | rop _ _ bb k0 g hbb hc hvv =>
                      refine ⟨_, base _, ?_⟩
                      by_cases hcl : m = l
                      · rw [if_pos hcl, if_pos hcl]
                        exact .ros _ _ _ _ bb k0 g _ hbb (by omega) (.inl (by omega)) hc hvv
                      · rw [if_neg hcl, if_neg hcl, add_mk, Nat.add_assoc]
                        exact .ros _ _ _ _ bb k0 g _ hbb (by omega) (.inr rfl) hc hvv
                  · simp at hv
                · simp at hv
              · simp at hv
            · simp at hv
        · simp at hv
      · simp at hv
    · simp at hv
  · simp at hv

end
end Go.Proofs.YtplaefbblpiehaaEng
