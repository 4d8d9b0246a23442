/- The engine, part 12: operations that read. -/
/- The engine, part 13: maps. -/
/- The engine, part 14: operations that make memory. -/
/- The engine, part 15: writing cells. -/
import Derived.Test.YtahgfodccndcjaaGreatG1
namespace Go.Proofs.YtahgfodccndcjaaGreatEng
open Go
section
variable {P : Program} {G : Nat → Option V} {E : Env} {τ : Tr V} {ρ : Operand → Value} {σ : H} {w : World}

theorem blkCells_spec {x : Pos} {v : Nat} {c : List V} (h : blkCells σ x v = some c) : ∃ ty c0 ver minv fz ex, σ.get x = some (.cells ty c0 ver minv fz ex) ∧ visib c0 ver minv ex v = some c := by
  unfold blkCells at h
  split at h
  · rename_i ty c0 ver minv fz ex hg; exact ⟨ty, c0, ver, minv, fz, ex, hg, h⟩
  · simp at h

/-- Where a version's contents lie. -/
theorem HRel.at_ (h : HRel P E σ w) {x : Pos} {v : Nat} {c : List V} (hc : blkCells σ x v = some c) {p : Place} (hp : E.pl x v = some p) : ∃ ty, PlaceOk P E w ty c p := by
  obtain ⟨ty, c0, ver, minv, fz, ex, hg, hv⟩ := blkCells_spec hc
  exact ⟨ty, (h.cel x ty c0 ver minv fz ex hg v c p hv hp).1⟩

theorem pick1_load {ty : Nat} {c : List V} {p : Place} (hP : PlaceOk P E w ty c p) {t : TypeId} {ag : Option Nat} (hag : aggOf P t = some ag) {o : Nat} (hl : p.lo ≤ o) {v : V} (hv : pick1 ag c o = some v) :
    Gives P E w (loadVar t (p.addr o)) v := by
  obtain ⟨h1, h2⟩ := run_isAgg' hag w
  cases ag with
  | none =>
    simp only [pick1] at hv
    obtain ⟨cv, h3, h4⟩ := hP.cell hv hl
    exact ⟨cv, by simp [loadVar, h1, h3], h4⟩
  | some n =>
    simp only [pick1] at hv
    split at hv
    · rename_i l hl'
      simp at hv; subst hv
      obtain ⟨arr, h3, h4, _, _⟩ := hP.load hl' hl
      exact ⟨.agg arr, by simp [loadVar, h1, run_sizeOf' (h2 n rfl), h3], .mk_agg h4⟩
    · simp at hv

theorem pick1_load_old (h : HRel P E σ w) {c : List V} {b k : Nat} {f : Nat → Value} (hb : b < E.w0.heap.size)
    (hc : ∀ (i : Nat) v, c[i]? = some v → E.w0.cell? ⟨b, k + i, none⟩ = some (f i)) (hvv : ∀ (i : Nat) v, c[i]? = some v → VR E v (f i)) {t : TypeId} {ag : Option Nat} (hag : aggOf P t = some ag) {o : Nat} {v : V} (hv : pick1 ag c o = some v) :
    Gives P E w (loadVar t ⟨b, k + o, none⟩) v := by
  obtain ⟨h1, h2⟩ := run_isAgg' hag w
  cases ag with
  | none =>
    simp only [pick1] at hv
    have h3 : w.cell? ⟨b, k + o, none⟩ = some (f o) := by rw [h.old_cell hb]; exact hc _ _ hv
    exact ⟨f o, by simp [loadVar, h1, h3], hvv _ _ hv⟩
  | some n =>
    simp only [pick1] at hv
    split at hv
    · rename_i l hl'
      simp at hv; subst hv
      obtain ⟨arr, h3, h4, _, _⟩ := h.load_old (P := P) hb hc hvv hl'
      exact ⟨.agg arr, by simp [loadVar, h1, run_sizeOf' (h2 n rfl), h3], .mk_agg h4⟩
    · simp at hv

theorem does_load {o : Oper} {t : TypeId} {x : Operand} (ho : o.op = .load t x) {ag : Option Nat} (hag : aggOf P t = some ag) {a : Arg} (ha : cArg G x = some a) (hO : OR G E τ ρ o.op.operands.toList) (h : HRel P E σ w) {v : V}
    (hv : (ROp.load ag a).ev τ σ = some v) : Does P E w ρ o v := by
  rw [ho] at hO
  refine Gives.does (s := Instr.loadAt t (ρ x)) ?_ (by simp [execOp, ho])
  simp only [ROp.ev] at hv
  split at hv
  · rename_i y vv oo hu
    have hx := hO.one (x := x) (by simp [Op.operands]) ha hu
    split at hv
    · rename_i c hc
      generalize ρ x = r at hx
      cases hx with
      | ptr _ _ _ p hp hl =>
        obtain ⟨ty, hP⟩ := h.at_ hc hp
        obtain ⟨cv, h1, h2⟩ := pick1_load hP hag hl hv
        exact ⟨cv, by simp [Instr.loadAt, Instr.sureAddr, h1], h2⟩
    · simp at hv
  · rename_i c oo hu
    have hx := hO.one (x := x) (by simp [Op.operands]) ha hu
    generalize ρ x = r at hx
    cases hx with
    | rop _ _ b k f hb hc hvv =>
      obtain ⟨cv, h1, h2⟩ := pick1_load_old h hb hc hvv hag hv
      exact ⟨cv, by simp [Instr.loadAt, Instr.sureAddr, h1], h2⟩
  · simp at hv

/- a slice's first elements -/
theorem run_firstCells (h : HRel P E σ w) {s : V} {cs : Value} (hs : VR E s cs) {esz n m : Nat} (hm : slLen s = some m) (hn : n ≤ m) (h1 : (∃ l, s = .str l) → esz = 1) {c : List V} (hc : slCells σ esz n s = some c) :
    ∃ arr : Array Value, (Builtin.firstCells esz n cs).run P w = .ok arr w ∧ VRL E c arr.toList ∧ c.length = n * esz := by
  unfold slCells at hc
  split at hc
  · cases hs
    split at hc
    · rename_i hn0; simp at hc; subst hc; subst hn0
      exact ⟨#[], rfl, .nil, by simp⟩
    · simp at hc
  · rename_i x v o len cap es
    split at hc
    · rename_i c0 hc0
      cases hs with
      | sl _ _ _ _ _ _ ccap p ad hp hl hlen had hcc =>
        simp [slLen] at hm; subst hm
        obtain ⟨ty, hP⟩ := h.at_ hc0 hp
        by_cases h0 : n = 0
        · subst h0
          have := cut_length hc
          have hcn : c = [] := List.eq_nil_of_length_eq_zero (by simpa using this)
          subst hcn
          exact ⟨#[], by simp [Builtin.firstCells, loadCells, loadCellsFrom], .nil, by simp⟩
        · have hadd := had.resolve_left (by omega)
          obtain ⟨arr, h3, h4, _, _⟩ := hP.load hc hl
          exact ⟨arr, by simp only [Builtin.firstCells, hadd]; exact h3, h4, cut_length hc⟩
    · simp at hc
  · rename_i cc o len cap
    cases hs with
    | ros _ _ _ _ b k f ad hb hlen had hcc hvv =>
      simp [slLen] at hm; subst hm
      by_cases h0 : n = 0
      · subst h0
        have := cut_length hc
        have hcn : c = [] := List.eq_nil_of_length_eq_zero (by simpa using this)
        subst hcn
        exact ⟨#[], by simp [Builtin.firstCells, loadCells, loadCellsFrom], .nil, by simp⟩
      · have hadd := had.resolve_left (by omega)
        obtain ⟨arr, h3, h4, _, _⟩ := h.load_old (P := P) hb hcc hvv hc
        exact ⟨arr, by simp only [Builtin.firstCells, hadd]; exact h3, h4, cut_length hc⟩
  · rename_i l
    obtain ⟨b, rfl, rfl⟩ := hs.str_inv
    obtain rfl := h1 ⟨_, rfl⟩
    split at hc
    · rename_i hle
      obtain rfl := Option.some.inj hc
      refine ⟨_, rfl, ?_, by simp at hle ⊢; omega⟩
      refine ⟨by simp, fun i v cv e1 e2 => ?_⟩
      simp only [List.getElem?_map, Option.map_eq_some_iff] at e1
      simp only [Array.toList_map, List.getElem?_map, Option.map_eq_some_iff] at e2
      obtain ⟨q, hq, rfl⟩ := e1
      obtain ⟨q', hq', rfl⟩ := e2
      rw [List.getElem?_take] at hq
      split at hq
      · simp only [List.getElem?_map, Option.map_eq_some_iff] at hq
        obtain ⟨q'', hq'', rfl⟩ := hq
        rw [ByteArray.data_extract, Array.toList_extract, List.extract_eq_take_drop, List.getElem?_take] at hq'
        split at hq'
        · simp only [List.drop_zero] at hq'
          rw [hq''] at hq'; simp at hq'; subst hq'
          exact .int _ _
        · simp at hq'
      · simp at hq
    · simp at hc
  · simp at hc

theorem toBytes_spec : ∀ {c : List V} {l : List Nat}, toBytes c = some l → c = l.map (fun n : Nat => V.int .u8 (n : Int)) ∧ ∀ n ∈ l, n < 256
  | [], l, h => by simp [toBytes] at h; subst h; exact ⟨rfl, by simp⟩
  | .int .u8 n :: r, l, h => by
    simp only [toBytes] at h
    split at h
    · rename_i hn
      split at h
      · rename_i l' hl
        simp at h; subst h
        obtain ⟨h1, h2⟩ := toBytes_spec hl
        refine ⟨by rw [h1]; simp only [List.map_cons]; rw [Int.toNat_of_nonneg hn.1], fun m hm => ?_⟩
        simp at hm
        rcases hm with rfl | hm
        · omega
        · exact h2 m hm
      · simp at h
    · simp at h
  | .int .i8 _ :: _, l, h => by simp [toBytes] at h
  | .int .i16 _ :: _, l, h => by simp [toBytes] at h
  | .int .i32 _ :: _, l, h => by simp [toBytes] at h
  | .int .i64 _ :: _, l, h => by simp [toBytes] at h
  | .int .u16 _ :: _, l, h => by simp [toBytes] at h
  | .int .u32 _ :: _, l, h => by simp [toBytes] at h
  | .int .u64 _ :: _, l, h => by simp [toBytes] at h
  | .bool _ :: _, l, h => by simp [toBytes] at h
  | .str _ :: _, l, h => by simp [toBytes] at h
  | .nilp :: _, l, h => by simp [toBytes] at h
  | .ptr _ _ _ :: _, l, h => by simp [toBytes] at h
  | .rop _ _ :: _, l, h => by simp [toBytes] at h
  | .nils :: _, l, h => by simp [toBytes] at h
  | .sl _ _ _ _ _ _ :: _, l, h => by simp [toBytes] at h
  | .ros _ _ _ _ :: _, l, h => by simp [toBytes] at h
  | .fn _ _ _ :: _, l, h => by simp [toBytes] at h
  | .nilf :: _, l, h => by simp [toBytes] at h
  | .mapn :: _, l, h => by simp [toBytes] at h
  | .map _ :: _, l, h => by simp [toBytes] at h
  | .it _ :: _, l, h => by simp [toBytes] at h
  | .iface _ _ :: _, l, h => by simp [toBytes] at h
  | .nili :: _, l, h => by simp [toBytes] at h
  | .agg _ :: _, l, h => by simp [toBytes] at h
  | .tup _ :: _, l, h => by simp [toBytes] at h
  | .any :: _, l, h => by simp [toBytes] at h

theorem VRL.bytes {l : List Nat} {C : List Value} (h : VRL E (l.map fun n : Nat => V.int .u8 (n : Int)) C) : C = l.map fun n : Nat => Value.int .u8 (n : Int) := by
  induction l generalizing C with
  | nil => exact h.nil_left
  | cons n l ih =>
    obtain ⟨cv, C', rfl, hv, hr⟩ := VRL.cons_left (v := .int .u8 n) (c := l.map fun n : Nat => V.int .u8 (n : Int)) (by simpa using h)
    rw [hv.int_inv, ih hr]; rfl

theorem fold_push (l : List Nat) (hl : ∀ n ∈ l, n < 256) : ∀ s : ByteArray, ((l.map (Int.ofNat ·)).foldl (fun r n => r.push (UInt8.ofNat n.toNat)) s).data.toList.map (·.toNat) = s.data.toList.map (·.toNat) ++ l := by
  induction l with
  | nil => intro s; simp
  | cons n l ih =>
    intro s
    simp only [List.map_cons, List.foldl_cons]
    rw [ih (fun m hm => hl m (by simp [hm]))]
    have := hl n (by simp)
    simp [ByteArray.push]
    omega

theorem does_b2s {o : Oper} {s d e : TypeId} {x : Operand} (ho : o.op = .convert s d x) (hs : P.underlying s = some (.slice e)) (hd : P.underlying d = some .string) (he : P.underlying e = some (.int .u8)) {a : Arg} (ha : cArg G x = some a)
    (hO : OR G E τ ρ o.op.operands.toList) (h : HRel P E σ w) {v : V} (hv : (ROp.b2s a).ev τ σ = some v) : Does P E w ρ o v := by
  rw [ho] at hO
  refine Gives.does (s := convert s d (ρ x)) ?_ (by simp [execOp, ho])
  simp only [ROp.ev] at hv
  split at hv
  · rename_i u hu
    have hx := hO.one (x := x) (by simp [Op.operands]) ha hu
    split at hv
    · simp at hv
    · rename_i hns
      split at hv
      · rename_i n hn
        split at hv
        · rename_i c hc
          split at hv
          · rename_i l hl
            simp at hv; subst hv
            obtain ⟨arr, h1, h2, _⟩ := run_firstCells (P := P) h hx hn (Nat.le_refl _) (fun ⟨l, hl⟩ => (hns l hl).elim) hc
            obtain ⟨h3, h4⟩ := toBytes_spec hl
            subst h3
            have harr : arr = (l.map fun n : Nat => Value.int .u8 (n : Int)).toArray := by
              apply Array.ext'; simpa using h2.bytes
            have hcv : ∃ b : ByteArray, (Conv.bytesToString (ρ x)).run P w = .ok (.string b) w ∧ b.data.toList.map (·.toNat) = l := by
              generalize ρ x = r at hx h1
              unfold slLen at hn
              split at hn
              · cases hx
                simp at hn; subst hn
                have : l = [] := by
                  have := h2.1; simp [slCells] at hc; exact hc
                subst this
                exact ⟨.empty, rfl, by simp⟩
              · cases hx with
                | sl _ _ _ _ _ _ ccap p ad hp hl' hlen had hcc =>
                  simp at hn; subst hn
                  simp only [Builtin.firstCells, Nat.mul_one] at h1
                  rw [harr] at h1
                  refine ⟨_, run_bytesToString w ad _ ccap (l.map (Int.ofNat ·)) (by simpa [Function.comp_def] using h1), ?_⟩
                  rw [fold_push l h4]; simp
              · cases hx with
                | ros _ _ _ _ b k f ad hb hlen had hcc hvv =>
                  simp at hn; subst hn
                  simp only [Builtin.firstCells, Nat.mul_one] at h1
                  rw [harr] at h1
                  refine ⟨_, run_bytesToString w ad _ _ (l.map (Int.ofNat ·)) (by simpa [Function.comp_def] using h1), ?_⟩
                  rw [fold_push l h4]; simp
              · rename_i l'; exact (hns l' rfl).elim
              · simp at hn
            obtain ⟨b, hb1, hb2⟩ := hcv
            refine ⟨.string b, ?_, hb2 ▸ .str b⟩
            generalize ρ x = r at hx hb1
            have : (convert s d r).run P w = (Conv.bytesToString r).run P w := by
              unfold slLen at hn
              split at hn
              · cases hx; simp [convert, run_underlying hs, run_underlying hd, run_underlying he]
              · cases hx; simp [convert, run_underlying hs, run_underlying hd, run_underlying he]
              · cases hx; simp [convert, run_underlying hs, run_underlying hd, run_underlying he]
              · rename_i l'; exact (hns l' rfl).elim
              · simp at hn
            rw [this, hb1]
          · simp at hv
        · simp at hv
      · simp at hv
  · simp at hv

theorem PlaceOk.shape {ty : Nat} {c : List V} {p : Place} (h : PlaceOk P E w ty c p) : w.shape? p.blk = some (ty, p.size) := by
  obtain ⟨arr, fro, h1, h2, _⟩ := h
  simp [World.shape?, h1, h2]

theorem does_cpu {o : Oper} {s d e : TypeId} {x : Operand} (ho : o.op = .convert s d x) (hs : P.underlying s = some (.pointer e)) (hd : P.underlying d = some .unsafePointer) {k : Nat} (he : szOf P e = some (k + 1)) {a : Arg} (ha : cArg G x = some a)
    (hO : OR G E τ ρ o.op.operands.toList) (h : HRel P E σ w) {v : V} (hv : (ROp.cpu a).ev τ σ = some v) : Does P E w ρ o v := by
  rw [ho] at hO
  refine Gives.does (s := convert s d (ρ x)) ?_ (by simp [execOp, ho])
  simp only [ROp.ev] at hv
  split at hv
  · rename_i hu
    have hx := hO.one (x := x) (by simp [Op.operands]) ha hu
    simp at hv; subst hv
    generalize ρ x = r at hx
    cases hx
    exact ⟨.pointer none, by simp [convert, Conv.unsafePointer, run_underlying hs, run_underlying hd], .nilp⟩
  · rename_i y vv oo hu
    have hx := hO.one (x := x) (by simp [Op.operands]) ha hu
    split at hv
    · rename_i c hc
      split at hv
      · rename_i hlt
        simp at hv; subst hv
        generalize ρ x = r at hx
        cases hx with
        | ptr _ _ _ p hp hl =>
          obtain ⟨ty, hP⟩ := h.at_ hc hp
          have hsh := hP.shape
          obtain ⟨arr, fro, h1, h2, h3, h4, _⟩ := hP
          have hge : ¬ (p.size ≤ oo - p.lo) := by omega
          refine ⟨.pointer (some (p.addr oo)), ?_, .ptr _ _ _ p hp hl⟩
          simp [convert, Conv.unsafePointer, run_underlying hs, run_underlying hd, Conv.seenAt, viewAt, cellsIn, Place.addr, hsh, run_sizeOf' he, hge]
      · simp at hv
    · simp at hv
  · simp at hv

theorem does_cup {o : Oper} {s d u : TypeId} {x : Operand} (ho : o.op = .convert s d x) (hs : P.underlying s = some .unsafePointer) (hd : P.underlying d = some (.pointer u)) {sz : Nat} (he : szOf P u = some sz) {a : Arg} (ha : cArg G x = some a)
    (hO : OR G E τ ρ o.op.operands.toList) (h : HRel P E σ w) {v : V} (hv : (ROp.cup u sz a).ev τ σ = some v) : Does P E w ρ o v := by
  rw [ho] at hO
  refine Gives.does (s := convert s d (ρ x)) ?_ (by simp [execOp, ho])
  simp only [ROp.ev] at hv
  split at hv
  · rename_i hu
    have hx := hO.one (x := x) (by simp [Op.operands]) ha hu
    simp at hv; subst hv
    generalize ρ x = r at hx
    cases hx
    exact ⟨.pointer none, by simp [convert, Conv.unsafePointer, run_underlying hs, run_underlying hd], .nilp⟩
  · rename_i y vv oo hu
    have hx := hO.one (x := x) (by simp [Op.operands]) ha hu
    split at hv
    · rename_i hcond
      obtain ⟨rfl, rfl, hh⟩ := hcond
      simp at hv; subst hv
      generalize ρ x = r at hx
      cases hx with
      | ptr _ _ _ p hp hl =>
        unfold headOf at hh
        split at hh
        · rename_i ty c minv fz ex hg
          simp at hh
          obtain ⟨⟨rfl, h0⟩, hlen⟩ := hh
          have hP := (h.cel y ty c 0 minv fz ex hg 0 c p visib_self hp).1
          have hsh := hP.shape
          obtain ⟨arr, fro, h1, h2, h3, h4, _⟩ := hP
          have hlo : p.lo = 0 := by omega
          have hadd : p.addr 0 = ⟨p.blk, 0, none⟩ := by simp [Place.addr]
          refine ⟨.pointer (some (p.addr 0)), ?_, .ptr _ _ _ p hp hl⟩
          have hcells : P.cellsOf ty = sz := by
            obtain ⟨i, hi, rfl⟩ := szOf_info he
            simp [Program.cellsOf, hi]
          have hcount : 1 ≤ p.size / sz := by
            rw [Nat.le_div_iff_mul_le h0]; omega
          have hsame : sameLayout P P.depth ty ty = true := by
            unfold Program.depth
            simp [sameLayout]
          have hrow : rowAt P (fun x => sameLayout P P.depth x ty) P.depth ty (p.size / sz) 0 1 = true := by
            have : P.depth = (2 * (P.types.size + Made.depth) + 1) + 1 := rfl
            have hr : ∀ (f : TypeId → Bool) D cnt, rowAt P f (D + 1) ty cnt 0 1 = (if P.cellsOf ty = 0 then false else ((0 % P.cellsOf ty == 0 && decide (0 / P.cellsOf ty + 1 ≤ cnt) && f ty) || _)) := fun f D cnt => rfl
            rw [this, hr, if_neg (by omega), show (0 % P.cellsOf ty == 0 && decide (0 / P.cellsOf ty + 1 ≤ p.size / sz) && sameLayout P ((2 * (P.types.size + Made.depth) + 1) + 1) ty ty) = true by
              rw [← this, hsame]; simp; omega]
            rfl
          have hlies : liesAt P P.depth ty (p.size / sz) 0 ty 1 = true := by
            have : P.depth = (2 * (P.types.size + Made.depth) + 1) + 1 := rfl
            have hu' : liesAt P ((2 * (P.types.size + Made.depth) + 1) + 1) ty (p.size / sz) 0 ty 1 = (rowAt P (fun x => sameLayout P P.depth x ty) P.depth ty (p.size / sz) 0 1 || _) := rfl
            rw [this, hu', hrow]; rfl
          have hsz : sz ≠ 0 := by omega
          simp [convert, Conv.unsafePointer, run_underlying hs, run_underlying hd, Conv.seenAt, viewAt, hadd, hsh, run_sizeOf' he, variablesAt, hcells, hlies, hsz]
        · simp at hh
    · simp at hv
  · simp at hv

end
end Go.Proofs.YtahgfodccndcjaaGreatEng

namespace Go.Proofs.YtahgfodccndcjaaGreatEng
open Go
section
variable {P : Program} {G : Nat → Option V} {E : Env} {τ : Tr V} {ρ : Operand → Value} {σ : H} {w : World}

/-- a key's fields, one by one -/
def chkF (em : Bool) (d : Nat) (C : Array Value) : List Field → Sem Unit
  | [] => pure ()
  | f :: fs => do
    if f.name ≠ "_" then Instr.checkKey em d f.type (← part f.type C f.offset)
    chkF em d C fs

theorem run_chkF (em : Bool) (d : Nat) (C : Array Value) (fs : List Field) (w : World) :
    (forIn fs PUnit.unit (fun f (_ : PUnit) => do
      if f.name ≠ "_" then Instr.checkKey em d f.type (← part f.type C f.offset)
      pure (ForInStep.yield PUnit.unit)) : Sem PUnit).run P w = (chkF em d C fs).run P w := by
  induction fs generalizing w with
  | nil => rfl
  | cons f fs ih =>
    rw [List.forIn_cons]
    simp only [chkF, Sem.run_bind]
    by_cases hn : f.name = "_"
    · simp only [hn, ne_eq, not_true_eq_false, if_false, Sem.run_pure, Result.andThen_ok]
      exact ih w
    · simp only [ne_eq, hn, not_false_eq_true, if_true, Sem.run_bind]
      generalize (part f.type C f.offset).run P w = r1
      cases r1 with
      | ok a w1 =>
        simp only [Result.andThen_ok]
        generalize (Instr.checkKey em d f.type a).run P w1 = r2
        cases r2 with
        | ok u w2 => simp only [Result.andThen_ok, Sem.run_pure]; exact ih w2
        | halt => rfl
      | halt => rfl

theorem run_checkKey_struct (em : Bool) (d : Nat) {t : TypeId} {fs : Array Field} (hu : P.underlying t = some (.struct fs)) (C : Array Value) (w : World) :
    (Instr.checkKey em (d + 1) t (.agg C)).run P w = (chkF em d C fs.toList).run P w := by
  have hk := run_chkF (P := P) em d C fs.toList w
  simp only [Instr.checkKey, Sem.run_bind, run_underlying hu, Result.andThen_ok]
  rw [← Array.forIn_toList]
  have e : ∀ r : Result PUnit, (r.andThen fun a w' => Sem.run P (pure a : Sem PUnit) w') = r := fun r => by cases r <;> rfl
  first
    | exact (e _).trans hk
    | exact hk

mutual
theorem check_flat (em : Bool) (n : Nat) (t : TypeId) (off : Nat) (l : List (Nat × SK)) (hf : flatT P n t off = some l) (d : Nat) (hd : n ≤ d) (X : Array Value) (cx : Value) (hX : Lies P t X off cx)
    (hfull : ∀ s, szOf P t = some s → off + s ≤ X.size) (w : World) : (Instr.checkKey em d t cx).run P w = .ok () w := by
  match n, d, hd with
  | 0, _, _ => simp [flatT] at hf
  | n + 1, d + 1, hd =>
    unfold flatT at hf
    split at hf
    · rename_i fs hu
      split at hf
      · simp at hf
      · split at hf
        · rename_i s hsz
          unfold Lies at hX
          rw [hu] at hX
          obtain ⟨s1, C, hsz1, rfl, hC⟩ := hX
          rw [hsz] at hsz1; simp at hsz1; subst hsz1
          rw [run_checkKey_struct em d hu]
          exact check_flatF em n fs.toList off s l hf d (by omega) X C hC (hfull s hsz) w
        · simp at hf
    · rename_i d0 hns hu
      simp only [Option.map_eq_some_iff] at hf
      obtain ⟨k, hk, rfl⟩ := hf
      cases d0 <;> simp [plainK?] at hk <;> simp [Instr.checkKey, run_underlying hu]
    · simp at hf
theorem check_flatF (em : Bool) (n : Nat) (fs : List Field) (off s : Nat) (l : List (Nat × SK)) (hf : flatF P n fs off s = some l) (d : Nat) (hd : n ≤ d) (X C : Array Value)
    (hC : ∀ i, i < s → C[i]? = X[off + i]?) (hfull : off + s ≤ X.size) (w : World) : (chkF em d C fs).run P w = .ok () w := by
  match n, fs with
  | 0, _ => simp [flatF] at hf
  | n + 1, [] => rfl
  | n + 1, f :: fs =>
    unfold flatF at hf
    split at hf
    · simp at hf
    · rename_i hn
      split at hf
      · rename_i sz hsz
        split at hf
        · rename_i hle
          split at hf
          · rename_i l1 hl1
            split at hf
            · rename_i l2 hl2
              have hlies : ∃ cx, (part f.type C f.offset).run P w = .ok cx w ∧ Lies P f.type X (off + f.offset) cx := by
                have hCo : ∃ cv, C[f.offset]? = some cv := by
                  rw [hC f.offset (by omega)]
                  exact ⟨_, Array.getElem?_eq_getElem (by omega)⟩
                obtain ⟨cv, hcv⟩ := hCo
                cases n with
                | zero => simp [flatT] at hl1
                | succ n' =>
                  unfold flatT at hl1
                  split at hl1
                  · rename_i fs' hu
                    refine ⟨.agg (C.extract f.offset (f.offset + sz)), ?_, ?_⟩
                    · simp [part, isAgg, run_underlying hu, run_sizeOf' hsz]
                    · unfold Lies; rw [hu]
                      refine ⟨sz, _, hsz, rfl, fun i hi => ?_⟩
                      rw [Array.getElem?_extract]
                      have := hC (f.offset + i) (by omega)
                      rw [Nat.add_assoc, ← this]
                      rcases Nat.lt_or_ge (f.offset + i) C.size with hlt | hge
                      · rw [if_pos (by omega)]
                      · rw [if_neg (by omega), Array.getElem?_eq_none (by omega)]
                  · rename_i d0 hns hu
                    simp only [Option.map_eq_some_iff] at hl1
                    obtain ⟨k, hk, rfl⟩ := hl1
                    refine ⟨cv, ?_, ?_⟩
                    · cases d0 <;> simp [plainK?] at hk <;> simp [part, isAgg, run_underlying hu, hcv]
                    · unfold Lies; rw [hu]
                      rw [hC f.offset (by omega)] at hcv
                      cases d0 <;> first | exact (hns _ rfl).elim | exact hcv
                  · simp at hl1
              obtain ⟨cx, h1, h2⟩ := hlies
              have h3 := check_flat em n f.type (off + f.offset) l1 hl1 d (by omega) X cx h2 (fun s' hs' => by rw [hsz] at hs'; simp at hs'; omega) w
              have h4 := check_flatF em n fs off s l2 hl2 d (by omega) X C hC hfull w
              simp only [chkF, Sem.run_bind, ne_eq, hn, not_false_eq_true, if_true, h1, Result.andThen_ok, h3, h4]
            · simp at hf
          · simp at hf
        · simp at hf
      · simp at hf
end

theorem run_checkKey_eq (em : Bool) {t : TypeId} {k : V} {ck : Value} (hk : VR E k ck) (h : keyOk (eqKey P t) k = true) (w : World) : (Instr.checkKey em 10000 t ck).run P w = .ok () w := by
  unfold eqKey at h
  split at h
  · rename_i fs hu
    unfold eqStruct at h
    split at h
    · rename_i l n hl hn
      cases k <;> simp [keyOk] at h
      rename_i c
      obtain ⟨C, rfl, hC⟩ := hk.agg_inv
      have hlen : C.size = n := by have := hC.1; simp at this; omega
      refine check_flat em 40 t 0 l hl 10000 (by omega) C (.agg C) ?_ ?_ w
      · unfold Lies; rw [hu]; exact ⟨n, C, hn, rfl, fun i _ => by simp⟩
      · intro s hs; rw [hn] at hs; simp at hs; omega
    · simp [keyOk] at h
  · rename_i d hns hu
    split at h
    · rename_i q hq
      cases d <;> simp [plainK?] at hq
      all_goals
        have : ∀ n, (Instr.checkKey em (n + 1) t ck).run P w = .ok () w := fun n => by
          unfold Instr.checkKey
          rw [Sem.run_bind, run_underlying hu]
          cases ck <;> rfl
        exact this 9999
    · simp [keyOk] at h
  · simp [keyOk] at h

/-- The entries' keys, the entries' values. -/
def Ents (E : Env) (es : List (V × V)) (ents : List MapEntry) : Prop := VRL E (es.map (·.1)) (ents.map (·.key)) ∧ VRL E (es.map (·.2)) (ents.map (·.val))

theorem Ents.cons_inv {a : V × V} {es : List (V × V)} {L : List MapEntry} (h : Ents E (a :: es) L) : ∃ e L', L = e :: L' ∧ VR E a.1 e.key ∧ VR E a.2 e.val ∧ Ents E es L' := by
  obtain ⟨h1, h2⟩ := h
  cases L with
  | nil => have := h1.1; simp at this
  | cons e L' => exact ⟨e, L', rfl, (VRL.head (by simpa using h1)), (VRL.head (by simpa using h2)), VRL.tail (by simpa using h1), VRL.tail (by simpa using h2)⟩

/-- what a search finds -/
def Found (E : Env) (r : Option V) (r' : Option (Nat × Value)) : Prop :=
  match r, r' with
  | none, none => True
  | some v, some (_, cv) => VR E v cv
  | _, _ => False

/-- where a search finds -/
def findI (q : EqT) (k : V) : List (V × V) → Nat → Option (Option Nat)
  | [], _ => some none
  | (a, _) :: r, i => match veq q k a with
    | some true => some (some i)
    | some false => findI q k r (i + 1)
    | none => none

theorem run_findKey {t : TypeId} {k : V} {ck : Value} (hk : VR E k ck) : ∀ {es : List (V × V)} {L : List MapEntry} {r : Option V}, Ents E es L → findK (eqKey P t) k es = some r → (∃ d, P.underlying t = some d) → ∀ w : World,
    ∃ r', (Instr.findKey t ck L).run P w = .ok r' w ∧ Found E r r' ∧ findI (eqKey P t) k es 0 = some (r'.map (·.1)) := by
  intro es L r hE hf ⟨d, hu⟩ w
  -- asking one by one
  have ask : ∀ (es : List (V × V)) (L : List MapEntry) (i : Nat), Ents E es L → findK (eqKey P t) k es = some r → (∀ a ca r0, VR E a ca → veq (eqKey P t) k a = some r0 → ∀ w : World, (Op.equal t ck ca).run P w = .ok r0 w) →
      ∃ r', (Instr.findAsking t ck L i).run P w = .ok r' w ∧ Found E r r' ∧ findI (eqKey P t) k es i = some (r'.map (·.1)) := by
    intro es
    induction es with
    | nil =>
      intro L i hE hf _
      have : L = [] := by have := hE.1.1; simp at this; exact List.eq_nil_of_length_eq_zero this.symm
      subst this
      simp [findK] at hf; subst hf
      exact ⟨none, rfl, trivial, rfl⟩
    | cons a es ih =>
      intro L i hE hf heq
      obtain ⟨e, L', rfl, hkey, hval, hE'⟩ := hE.cons_inv
      obtain ⟨a1, a2⟩ := a
      simp only [findK] at hf
      cases hv : veq (eqKey P t) k a1 with
      | none => simp [hv] at hf
      | some b =>
        have hq := heq a1 e.key b hkey hv w
        cases b with
        | true =>
          simp [hv] at hf; subst hf
          exact ⟨some (i, e.val), by simp [Instr.findAsking, hq], hval, by simp [findI, hv]⟩
        | false =>
          simp only [hv] at hf
          obtain ⟨r', h1, h2, h3⟩ := ih L' (i + 1) hE' hf heq
          exact ⟨r', by simp [Instr.findAsking, hq, h1], h2, by simp only [findI, hv]; exact h3⟩
  unfold Instr.findKey
  simp only [Sem.run_bind, run_underlying hu, Result.andThen_ok]
  by_cases hs : ∃ fs, d = .struct fs
  · obtain ⟨fs, rfl⟩ := hs
    have hqe : eqKey P t = eqStruct P t := by simp [eqKey, hu]
    have heq : ∀ a ca r0, VR E a ca → veq (eqKey P t) k a = some r0 → ∀ w : World, (Op.equal t ck ca).run P w = .ok r0 w := by
      intro a ca r0 ha hv w'
      rw [hqe] at hv
      obtain ⟨X, Y, _, _, h3⟩ := run_equal_eqStruct hu hk ha hv w'
      exact h3
    cases L with
    | nil =>
      have : es = [] := by have := hE.1.1; simp at this; exact this
      subst this
      simp [findK] at hf; subst hf
      exact ⟨none, rfl, trivial, rfl⟩
    | cons e L' =>
      have : Instr.findNow (.struct fs) ck (e :: L') 0 = none := by simp [Instr.findNow, Instr.sameNow]
      rw [this]
      exact ask es _ 0 hE hf heq
  · have hqe : ∀ q, plainK? d = some q → eqKey P t = .sc q := by
      intro q hq
      cases d <;> simp [plainK?] at hq <;> simp [eqKey, hu, plainK?, hq]
    cases hq : plainK? d with
    | none =>
      have : eqKey P t = .no := by
        unfold eqKey
        rw [hu]
        cases d <;> first | exact (hs ⟨_, rfl⟩).elim | simp [hq]
      rw [this] at hf
      cases es with
      | nil =>
        have : L = [] := by have := hE.1.1; simp at this; exact List.eq_nil_of_length_eq_zero this.symm
        subst this
        simp [findK] at hf; subst hf
        exact ⟨none, rfl, trivial, rfl⟩
      | cons a es => obtain ⟨a1, a2⟩ := a; simp [findK, veq] at hf
    | some q =>
      have hq' := hqe q hq
      have now : ∀ (es : List (V × V)) (L : List MapEntry) (i : Nat), Ents E es L → findK (eqKey P t) k es = some r → ∃ r', Instr.findNow d ck L i = some r' ∧ Found E r r' ∧ findI (eqKey P t) k es i = some (r'.map (·.1)) := by
        intro es
        induction es with
        | nil =>
          intro L i hE hf
          have : L = [] := by have := hE.1.1; simp at this; exact List.eq_nil_of_length_eq_zero this.symm
          subst this
          simp [findK] at hf; subst hf
          exact ⟨none, rfl, trivial, rfl⟩
        | cons a es ih =>
          intro L i hE hf
          obtain ⟨e, L', rfl, hkey, hval, hE'⟩ := hE.cons_inv
          obtain ⟨a1, a2⟩ := a
          simp only [findK] at hf
          rw [hq'] at hf
          cases hv : veq (.sc q) k a1 with
          | none => simp [hv] at hf
          | some b =>
            have hsame : Instr.sameNow d ck e.key = some b := by
              simp only [veq] at hv
              simp only at hkey
              generalize e.key = ek at hkey
              cases d <;> simp only [plainK?, Option.some.injEq, reduceCtorEq] at hq <;> subst hq <;> simp only [vsc] at hv <;> split at hv <;> (try (simp only [reduceCtorEq] at hv; done))
              · rw [hk.bool_inv, hkey.bool_inv]; simp at hv; subst hv; rfl
              · split at hv
                · rename_i hkk
                  rw [hk.int_inv, hkey.int_inv]; simp at hv; subst hv; subst hkk
                  simp [Instr.sameNow]
                · simp at hv
              · obtain ⟨s1, rfl, rfl⟩ := hk.str_inv
                obtain ⟨s2, h2, h3⟩ := hkey.str_inv
                subst h2; subst h3
                rw [natEq_map] at hv
                simp only [Option.some.injEq] at hv
                subst hv
                simp only [Instr.sameNow, beq_toListBytes, toList_data]
            cases b with
            | true =>
              simp [hv] at hf; subst hf
              exact ⟨some (i, e.val), by simp [Instr.findNow, hsame], hval, by simp [findI, hq', hv]⟩
            | false =>
              simp only [hv] at hf
              rw [← hq'] at hf
              obtain ⟨r', h1, h2, h3⟩ := ih L' (i + 1) hE' hf
              exact ⟨r', by simp [Instr.findNow, hsame, h1], h2, by simp only [findI]; rw [hq'] at h3 ⊢; simp only [hv]; exact h3⟩
      obtain ⟨r', h1, h2, h3⟩ := now es L 0 hE hf
      exact ⟨r', by simp [h1], h2, h3⟩

theorem HRel.map_at (h : HRel P E σ w) {x : Pos} {es : List (V × V)} (hg : σ.get x = some (.mp es)) {p : Place} (hp : E.pl x 0 = some p) :
    ∃ (ents : Array MapEntry) (clock : Nat), w.heap[p.blk]? = some (.map ents clock) ∧ Ents E es ents.toList := by
  obtain ⟨ents, clock, h1, h2, h3⟩ := h.obj x _ p hg hp
  exact ⟨ents, clock, h1, h2, h3⟩

theorem run_getObj {r : Nat} {o : Obj} (h : w.heap[r]? = some o) (hc : ∀ c t f, o ≠ .cells c t f) : (getObj r).run P w = .ok o w := by
  simp only [getObj, Sem.run, h]

theorem does_lookup {o : Oper} {t : TypeId} {x i : Operand} {ok : Bool} (ho : o.op = .lookup t x i ok) {kt e : TypeId} (ht : P.underlying t = some (.map kt e)) {z : V} (hz : zeroOf P e = some z) {a b : Arg} (ha : cArg G x = some a) (hb : cArg G i = some b)
    (hO : OR G E τ ρ o.op.operands.toList) (h : HRel P E σ w) {v : V} (hv : (ROp.lookup z ok (eqKey P kt) a b).ev τ σ = some v) : Does P E w ρ o v := by
  rw [ho] at hO
  refine Gives.does (s := Instr.lookup t (ρ x) (ρ i) ok) ?_ (by simp [execOp, ho])
  have two : ∀ u cu (b : Bool), VR E u cu → VR E (.tup [u, .bool b]) (.tuple #[cu, .bool b]) := fun u cu b h => .mk_tup (.cons h (.cons (.bool b) .nil))
  obtain ⟨zv, hzr, hzv⟩ : ∃ zv, (zeroValue e).run P w = .ok zv w ∧ VR E z zv := by
    unfold zeroOf at hz
    split at hz
    · rename_i inf hi
      split at hz
      · rename_i zv hzv; exact ⟨zv, by simp [zeroValue, typeInfo, hi, hzv], ofVal_VR hz⟩
      · simp at hz
    · simp at hz
  simp only [ROp.ev] at hv
  split at hv
  · rename_i y hu
    split at hv
    · rename_i k hk
      split at hv
      · rename_i hok
        split at hv
        · rename_i es hg
          have hx := hO.one (x := x) (by simp [Op.operands]) ha hu
          have hi := hO.one (x := i) (by simp [Op.operands]) hb hk
          generalize ρ x = r at hx
          generalize ρ i = ck at hi
          cases hx with
          | map _ p hp =>
            obtain ⟨ents, clock, h1, h2⟩ := h.map_at hg hp
            have hgo := run_getObj (P := P) h1 (by simp)
            have hck := run_checkKey_eq (P := P) ents.isEmpty hi hok w
            have hud : ∃ d, P.underlying kt = some d := by
              cases hd : P.underlying kt with
              | some d => exact ⟨d, rfl⟩
              | none =>
                have : eqKey P kt = .no := by simp [eqKey, hd]
                rw [this] at hok; simp [keyOk] at hok
            cases hfk : findK (eqKey P kt) k es with
            | none => simp [hfk] at hv
            | some r0 =>
              obtain ⟨r', h3, h4, _⟩ := run_findKey hi h2 hfk hud w
              cases r0 with
              | some u =>
                simp [hfk] at hv; subst hv
                cases r' with
                | none => simp [Found] at h4
                | some q =>
                  obtain ⟨j, cv⟩ := q
                  simp only [Found] at h4
                  cases ok with
                  | true => exact ⟨.tuple #[cv, .bool true], by simp [Instr.lookup, run_underlying ht, hgo, hck, h3], two _ _ _ h4⟩
                  | false => exact ⟨cv, by simp [Instr.lookup, run_underlying ht, hgo, hck, h3], h4⟩
              | none =>
                simp [hfk] at hv; subst hv
                cases r' with
                | some q => simp [Found] at h4
                | none =>
                  cases ok with
                  | true => exact ⟨.tuple #[zv, .bool false], by simp [Instr.lookup, run_underlying ht, hgo, hck, h3, hzr], two _ _ _ hzv⟩
                  | false => exact ⟨zv, by simp [Instr.lookup, run_underlying ht, hgo, hck, h3, hzr], hzv⟩
        · simp at hv
      · simp at hv
    · simp at hv
  · simp at hv

theorem does_lenm {o : Oper} {c : Call} (ho : o.op = .call c) (hc : c.callee = .builtin .len) {x : Operand} (hx : c.args.toList = [x]) {t k e : TypeId} (ht : c.argTypes[0]? = some t) (hu : P.underlying t = some (.map k e)) {a : Arg} (ha : cArg G x = some a)
    (hO : OR G E τ ρ o.op.operands.toList) (h : HRel P E σ w) {v : V} (hv : (ROp.lenm a).ev τ σ = some v) : Does P E w ρ o v := by
  rw [ho] at hO
  obtain ⟨consts, he⟩ := exec_builtin (P := P) (ρ := ρ) ho hc w
  simp only [ROp.ev] at hv
  split at hv
  · rename_i hl
    have := hO.one (x := x) (mem_call (by rw [hx]; simp)) ha hl
    simp at hv; subst hv
    generalize hr : ρ x = r at this
    cases this
    refine ⟨.int .i64 0, ?_, .int _ _⟩
    rw [he, arr_of_list1 hx]
    simp [builtin, Builtin.len_, ht, run_underlying hu, hr, goInt]
  · rename_i y hl
    have := hO.one (x := x) (mem_call (by rw [hx]; simp)) ha hl
    split at hv
    · rename_i es hg
      simp at hv; subst hv
      generalize hr : ρ x = r at this
      cases this with
      | map _ p hp =>
        obtain ⟨ents, clock, h1, h2⟩ := h.map_at hg hp
        have hlen : ents.size = es.length := by have := h2.1.1; simpa using this.symm
        refine ⟨.int .i64 es.length, ?_, .int _ _⟩
        rw [he, arr_of_list1 hx]
        simp [builtin, Builtin.len_, ht, run_underlying hu, hr, goInt, run_getObj (P := P) h1 (by simp), hlen]
    · simp at hv
  · simp at hv

end
end Go.Proofs.YtahgfodccndcjaaGreatEng

namespace Go.Proofs.YtahgfodccndcjaaGreatEng
open Go
section
variable {P : Program} {G : Nat → Option V} {E : Env} {τ : Tr V} {ρ : Operand → Value} {w : World}

def DoesA (P : Program) (E : Env) (w : World) (ρ : Operand → Value) (o : Oper) (k : AK) (b : Blk) : Prop :=
  ∃ cv ob p, (execOp ρ o).run P w = .ok (.value cv) (World.push w ob) ∧ p.blk = w.heap.size ∧ Fresh P E ob p b ∧ ∀ E' x, E'.pl x 0 = some p → VR E' (k.val x) cv

theorem VR_ptr0 {E' : Env} {x : Pos} {p : Place} (hp : E'.pl x 0 = some p) (hl : p.lo = 0) : VR E' (.ptr x 0 0) (.pointer (some ⟨p.blk, 0, none⟩)) := by
  have := VR.ptr (E := E') x 0 0 p hp (by omega)
  simpa [Place.addr, hl] using this

theorem fresh_cells {ty n : Nat} (hn : szOf P ty = some n) {c : List V} {C : Array Value} (hc : VRL E c C.toList) (b : Nat) :
    Fresh P E (.cells C ty) ⟨b, 0, C.size, n⟩ (.cells ty c 0 0 (some 0) []) := by
  refine ⟨rfl, rfl, rfl, rfl, hn, C, _, rfl, .inr rfl, rfl, by have := hc.1; simp at this; simp [this], fun i v hv => ?_⟩
  obtain ⟨cv, h1, h2⟩ := hc.get hv
  exact ⟨cv, by simpa using h1, h2⟩

theorem zcOf_sz {t : TypeId} {z : List V} (h : zcOf P t = some z) : ∃ n, szOf P t = some n := by
  unfold zcOf zeroOf at h
  simp only [Option.map_eq_some_iff] at h
  obtain ⟨v, hv, rfl⟩ := h
  split at hv
  · rename_i i hi; exact ⟨i.size, by simp [szOf, hi]⟩
  · simp at hv

theorem does_alloc {o : Oper} {t : TypeId} (ho : o.op = .alloc t) {z : List V} (hz : zcOf P t = some z) {k : AK} {b : Blk} (hv : (AOp.alloc t z).ev τ = some (k, b)) : DoesA P E w ρ o k b := by
  simp [AOp.ev] at hv
  obtain ⟨rfl, rfl⟩ := hv
  obtain ⟨zv, h1, h2⟩ := zcOf_run (E := E) hz w
  obtain ⟨n, hn⟩ := zcOf_sz hz
  refine ⟨.pointer (some ⟨w.heap.size, 0, none⟩), .cells zv.cells t, ⟨w.heap.size, 0, zv.cells.size, n⟩, ?_, rfl, fresh_cells hn h2 _, fun E' x hp => VR_ptr0 hp rfl⟩
  simp [execOp, ho, Instr.alloc, h1, newVar, newRow, World.push]

theorem does_box {o : Oper} {t : TypeId} {x : Operand} (ho : o.op = .box t x) {n : Nat} (hn : szOf P t = some n) {a : Arg} (ha : cArg G x = some a) (hO : OR G E τ ρ o.op.operands.toList) {k : AK} {b : Blk}
    (hv : (AOp.box t a).ev τ = some (k, b)) : DoesA P E w ρ o k b := by
  rw [ho] at hO
  simp only [AOp.ev] at hv
  split at hv
  · rename_i v hu
    simp at hv
    obtain ⟨rfl, rfl⟩ := hv
    have hx := hO.one (x := x) (by simp [Op.operands]) ha hu
    refine ⟨.pointer (some ⟨w.heap.size, 0, none⟩), .cells (ρ x).cells t, ⟨w.heap.size, 0, (ρ x).cells.size, n⟩, ?_, rfl, fresh_cells hn hx.cells _, fun E' x hp => VR_ptr0 hp rfl⟩
    simp [execOp, ho, Instr.box, newVar, newRow, World.push]
  · simp at hv

/- zero elements in a row -/
theorem repl_length (z : List V) : ∀ n, (repl z n).length = n * z.length
  | 0 => by simp [repl]
  | n + 1 => by simp [repl, repl_length z n, Nat.add_mul]; omega
theorem repl_get {z : List V} (hz : 0 < z.length) : ∀ n i, i < n * z.length → (repl z n)[i]? = z[i % z.length]?
  | 0, i, h => by simp at h
  | n + 1, i, h => by
    simp only [repl]
    by_cases hi : i < z.length
    · rw [List.getElem?_append_left hi, Nat.mod_eq_of_lt hi]
    · rw [List.getElem?_append_right (by omega), repl_get hz n (i - z.length) (by rw [Nat.add_mul] at h; omega), Nat.mod_eq_sub_mod (by omega : i ≥ z.length)]
theorem repl_rel {z : List V} {Z : Array Value} (hz : VRL E z Z.toList) (n : Nat) : VRL E (repl z n) ((Array.range (n * z.length)).map (Z[· % Z.size]!)).toList := by
  have hlen : z.length = Z.size := by have := hz.1; simpa using this
  refine ⟨by simp [repl_length], fun i v cv h1 h2 => ?_⟩
  have hi : i < n * z.length := by
    rcases Nat.lt_or_ge i (repl z n).length with h | h
    · rw [repl_length] at h; exact h
    · simp [List.getElem?_eq_none h] at h1
  have hz0 : 0 < z.length := Nat.pos_of_ne_zero fun h0 => by rw [h0] at hi; simp at hi
  rw [repl_get hz0 n i hi] at h1
  obtain ⟨cv', h3, h4⟩ := hz.get h1
  have hm : i % Z.size < Z.size := Nat.mod_lt _ (by omega)
  simp [hi] at h2
  rw [hlen] at h3
  simp [hm] at h3
  have : Z[i % Z.size]! = Z[i % Z.size] := getElem!_pos Z _ hm
  rw [this, h3] at h2
  exact h2 ▸ h4

theorem range_zero_cells (n s : Nat) (h : n * s = 0) (f : Nat → Value) : (Array.range (n * s)).map f = #[] := by rw [h]; simp

theorem does_bslice {o : Oper} {t e n : TypeId} {ps : Array (Nat × Operand)} (ho : o.op = .buildSlice t n ps) (ht : P.underlying t = some (.slice e)) {s : Nat} (hs : szOf P e = some s) {z : List V} (hz : zcOf P e = some z) (hsm : n * s ≤ 2 ^ 24) (hzl : z.length = s)
    {as : List (Nat × Nat × Arg)} (hp : cParts G (fun i => some (i * s, s)) ps.toList = some as) (hO : OR G E τ ρ o.op.operands.toList) {k : AK} {b : Blk} (hv : (AOp.bslice e n (repl z n) as).ev τ = some (k, b)) : DoesA P E w ρ o k b := by
  rw [ho] at hO
  have hO' : ∀ x ∈ ps.toList.map (·.2), ∀ a, cArg G x = some a → ∀ v, a.ev τ = some v → VR E v (ρ x) := fun x hx => hO x (by simpa [Op.operands] using hx)
  simp only [AOp.ev] at hv
  split at hv
  · rename_i l hl
    split at hv
    · rename_i c hc
      simp at hv
      obtain ⟨rfl, rfl⟩ := hv
      obtain ⟨zv, hzr, hzc⟩ := zcOf_run (E := E) hz w
      have hrel := repl_rel hzc n
      rw [hzl] at hrel
      obtain ⟨C, h1, h2⟩ := fill_rel (E := E) (Z := (Array.range (n * s)).map (zv.cells[· % zv.cells.size]!)) (fun i => some (i * s, s)) (evParts_rel hp hl hO') hrel hc
      refine ⟨.slice (some ⟨w.heap.size, 0, none⟩) n n, .cells C e, ⟨w.heap.size, 0, C.size, s⟩, ?_, rfl, fresh_cells hs h2 _, fun E' x hp => ?_⟩
      · have hle : ¬ (n * s > 2 ^ 24) := Nat.not_lt.mpr hsm
        simp only [execOp, ho, Instr.buildSlice, Sem.run_bind, run_underlying ht, Result.andThen_ok, run_sizeOf' hs, if_neg hle, Array.toList_map]
        by_cases h0 : n * s = 0
        · rw [if_pos h0]
          simp only [Sem.run_bind, Sem.run_pure, Result.andThen_ok]
          rw [range_zero_cells n s h0] at h1 ⊢
          rw [h1]
          simp [newRow, World.push]
        · rw [if_neg h0]
          simp only [Sem.run_bind, hzr, Sem.run_pure, Result.andThen_ok]
          rw [h1]
          simp [newRow, World.push]
      · exact .sl x 0 0 n (some n) 0 n _ _ hp (Nat.zero_le _) (Nat.le_refl _) (.inr (by simp [Place.addr])) rfl
    · simp at hv
  · simp at hv

theorem does_mkmap {o : Oper} {t : TypeId} (ho : o.op = .makeMap t none) {k : AK} {b : Blk} (hv : (AOp.mkmap).ev τ = some (k, b)) : DoesA P E w ρ o k b := by
  simp [AOp.ev] at hv
  obtain ⟨rfl, rfl⟩ := hv
  refine ⟨.map (some w.heap.size), .map #[] 0, ⟨w.heap.size, 0, 0, 0⟩, ?_, rfl, ⟨rfl, 0, rfl⟩, fun E' x hp => .map x _ hp⟩
  simp [execOp, ho, Instr.makeMap, World.push]

theorem wrap_i64_nat {n : Int} (h0 : 0 ≤ n) (h1 : n < 9223372036854775808) : IntKind.wrap .i64 n = n := by
  simp [IntKind.wrap, IntKind.bits, IntKind.signed]
  omega

theorem does_mksl {o : Oper} {t e : TypeId} {x y : Operand} (ho : o.op = .makeSlice t x y) (ht : P.underlying t = some (.slice e)) {s : Nat} (hs : szOf P e = some s) {eb : Nat} (hb : byOf P e = some eb) {z : List V} (hz : zcOf P e = some z) (hzl : z.length = s)
    {a b : Arg} (ha : cArg G x = some a) (hb' : cArg G y = some b) (hO : OR G E τ ρ o.op.operands.toList) {k : AK} {bl : Blk} (hv : (AOp.mksl e eb z a b).ev τ = some (k, bl)) : DoesA P E w ρ o k bl := by
  rw [ho] at hO
  simp only [AOp.ev] at hv
  split at hv
  · rename_i l hl
    split at hv
    · rename_i c hc
      split at hv
      · rename_i hcond
        obtain ⟨q1, q2, q3, q4⟩ := hcond
        simp at hv
        obtain ⟨rfl, rfl⟩ := hv
        have e1 := (hO.one (x := x) (by simp [Op.operands]) ha hl).int_inv
        have e2 := (hO.one (x := y) (by simp [Op.operands]) hb' hc).int_inv
        obtain ⟨zv, hzr, hzc⟩ := zcOf_run (E := E) hz w
        have hrel := repl_rel hzc c.toNat
        rw [hzl] at hrel
        obtain ⟨inf, hinf, hbb⟩ : ∃ i, P.info? e = some i ∧ i.bytes = eb := by
          unfold byOf at hb; simpa only [Option.map_eq_some_iff] using hb
        have hw1 := wrap_i64_nat q1 (by omega : l < 9223372036854775808)
        have hw2 := wrap_i64_nat (by omega : 0 ≤ c) (by omega : c < 9223372036854775808)
        have hcn : (c.toNat : Int) = c := Int.toNat_of_nonneg (by omega)
        have hbig : ¬ ((inf.bytes : Int) * c > 2 ^ 48) := by
          unfold mostBytes at q3
          have : ((c.toNat * eb : Nat) : Int) ≤ 140737488420864 := by omega
          rw [Int.natCast_mul, hcn] at this
          rw [hbb, Int.mul_comm]
          omega
        let C := (Array.range (c.toNat * s)).map (zv.cells[· % zv.cells.size]!)
        refine ⟨.slice (some ⟨w.heap.size, 0, none⟩) l.toNat c.toNat, .cells C e, ⟨w.heap.size, 0, C.size, s⟩, ?_, rfl, fresh_cells hs hrel _, fun E' x hp => ?_⟩
        · have hty : (typeInfo e).run P w = .ok inf w := by simp [typeInfo, hinf]
          have hcond : ((decide (c < 0) || decide ((inf.bytes : Int) * c > 2 ^ 48)) || decide (l < 0) || decide (l > c)) = false := by
            simp only [Bool.or_eq_false_iff, decide_eq_false_iff_not]
            exact ⟨⟨⟨by omega, hbig⟩, by omega⟩, by omega⟩
          simp only [execOp, ho, Instr.makeSlice, Sem.run_bind, run_underlying ht, Result.andThen_ok, e1, e2, asInt, asIntOf, Sem.run_pure, hty, hw1, hw2]
          rw [if_neg (by rw [hcond]; simp)]
          simp only [Sem.run_bind, run_askRoom, Result.andThen_ok, run_sizeOf' hs]
          by_cases h0 : c.toNat * s = 0
          · rw [if_pos h0]
            simp only [Sem.run_bind, Sem.run_pure, Result.andThen_ok]
            simp only [C]
            rw [range_zero_cells _ _ h0, range_zero_cells _ _ h0]
            simp [newRow, World.push]
          · rw [if_neg h0]
            simp only [Sem.run_bind, hzr, Sem.run_pure, Result.andThen_ok]
            simp [newRow, World.push, C]
        · exact .sl x 0 0 _ (some _) 0 _ _ _ hp (Nat.zero_le _) (by omega) (.inr (by simp [Place.addr])) rfl
      · simp at hv
    · simp at hv
  · simp at hv

theorem does_range {o : Oper} {t : TypeId} {x : Operand} (ho : o.op = .range t x) (ht : P.underlying t = some .string) {a : Arg} (ha : cArg G x = some a) (hO : OR G E τ ρ o.op.operands.toList) {k : AK} {b : Blk}
    (hv : (AOp.range a).ev τ = some (k, b)) : DoesA P E w ρ o k b := by
  rw [ho] at hO
  simp only [AOp.ev] at hv
  split at hv
  · rename_i l hu
    simp at hv
    obtain ⟨rfl, rfl⟩ := hv
    obtain ⟨s, hs, rfl⟩ := (hO.one (x := x) (by simp [Op.operands]) ha hu).str_inv
    refine ⟨.pointer (some ⟨w.heap.size, 0, none⟩), .stringIter s 0, ⟨w.heap.size, 0, 0, 0⟩, ?_, rfl, ⟨s, rfl, rfl⟩, fun E' x hp => .it x _ hp⟩
    simp [execOp, ho, Instr.range, run_underlying ht, hs, World.push]
  · simp at hv

end
end Go.Proofs.YtahgfodccndcjaaGreatEng

namespace Go.Proofs.YtahgfodccndcjaaGreatEng
open Go
section
variable {P : Program} {G : Nat → Option V} {E : Env} {τ : Tr V} {ρ : Operand → Value} {σ : H} {w : World}

theorem splice_get {α : Type} (l vs : List α) (k i : Nat) (hk : k + vs.length ≤ l.length) :
    (l.take k ++ vs ++ l.drop (k + vs.length))[i]? = if i < k then l[i]? else if i < k + vs.length then vs[i - k]? else l[i]? := by
  have h1 : (l.take k).length = k := by simp; omega
  by_cases hi : i < k
  · rw [if_pos hi, List.append_assoc, List.getElem?_append_left (by omega), List.getElem?_take, if_pos hi]
  · rw [if_neg hi, List.append_assoc, List.getElem?_append_right (by omega), h1]
    by_cases h2 : i < k + vs.length
    · rw [if_pos h2, List.getElem?_append_left (by omega)]
    · rw [if_neg h2, List.getElem?_append_right (by omega), List.getElem?_drop]
      congr 1; omega

theorem all_one {vs : List V} {VS : List Value} (h : VRL E vs VS) (h1 : vs.all V.one = true) : ∀ v ∈ VS, v.oneCell' = true := by
  intro cv hcv
  obtain ⟨i, hi, rfl⟩ := List.getElem_of_mem hcv
  have hlen := h.1
  have hv : vs[i]? = some (vs[i]'(by omega)) := List.getElem?_eq_getElem _
  have hr := h.2 i _ _ hv (List.getElem?_eq_getElem hi)
  exact hr.oneCell (by rw [List.all_eq_true] at h1; exact h1 _ (List.getElem_mem _))

/-- The cells of a row that is written. -/
theorem PlaceOk.splice {ty : Nat} {c : List V} {p : Place} (h : PlaceOk P E w ty c p) {o : Nat} {vs : List V} {VS : List Value} (hvs : VRL E vs VS) (hlo : p.lo ≤ o) (hle : o + vs.length ≤ c.length) (h1 : vs.all V.one = true)
    {f : Nat} (hfz : Unfrozen w (some f) p) (hf : f ≤ o) :
    ∃ arr', (storeCells (p.addr o) VS).run P w = .ok () (w.setRow p.blk arr') ∧ arr'.size = p.size ∧ PlaceOk P E (w.setRow p.blk arr') ty (c.take o ++ vs ++ c.drop (o + vs.length)) p ∧ Unfrozen (w.setRow p.blk arr') (some f) p ∧
      ∀ i, i < o - p.lo → ∀ arr fro, w.heap[p.blk]? = some (.cells arr ty fro) → arr'[i]? = arr[i]? := by
  obtain ⟨arr, fro, q1, q2, q3, q4, q5⟩ := h
  have hlen : VS.length = vs.length := hvs.1.symm
  have hrun := run_storeCells_pt P p.blk (o - p.lo) ty fro VS 0 arr w q1 (fun j j1 j2 => by
    obtain ⟨flo, fhi⟩ := fro
    have := hfz arr ty flo fhi q1
    simp only
    omega) (by omega) (all_one hvs h1)
  simp only [Nat.add_zero] at hrun
  refine ⟨_, hrun, by simp; omega, ?_, ?_, ?_⟩
  · refine ⟨_, fro, setRow_heap w p.blk arr _ ty fro q1, by simp; omega, q3, by simp; omega, fun i v hv hi => ?_⟩
    rw [splice_get c vs o i hle] at hv
    have hsz : o - p.lo + VS.length ≤ arr.toList.length := by simp; omega
    have hget : ((arr.toList.take (o - p.lo) ++ VS ++ arr.toList.drop (o - p.lo + VS.length)).toArray)[i - p.lo]? = if i - p.lo < o - p.lo then arr[i - p.lo]? else if i - p.lo < o - p.lo + VS.length then VS[i - p.lo - (o - p.lo)]? else arr[i - p.lo]? := by
      rw [List.getElem?_toArray, splice_get _ _ _ _ hsz]; simp
    rw [hget]
    by_cases hio : i < o
    · rw [if_pos hio] at hv; rw [if_pos (by omega)]; exact q5 i v hv hi
    · rw [if_neg hio] at hv; rw [if_neg (by omega)]
      by_cases hi2 : i < o + vs.length
      · rw [if_pos hi2] at hv; rw [if_pos (by omega)]
        obtain ⟨cv, e1, e2⟩ := hvs.get hv
        exact ⟨cv, by rw [show i - p.lo - (o - p.lo) = i - o by omega]; exact e1, e2⟩
      · rw [if_neg hi2] at hv; rw [if_neg (by omega)]; exact q5 i v hv hi
  · intro arr2 ty2 lo hi hb
    rw [setRow_heap w p.blk arr _ ty fro q1] at hb
    simp at hb
    exact hfz arr ty lo hi (by rw [q1, hb.2.2])
  · intro i hi arr2 fro2 hb
    rw [q1] at hb; simp at hb
    obtain ⟨rfl, rfl⟩ := hb
    have hsz : o - p.lo + VS.length ≤ arr.toList.length := by simp; omega
    rw [List.getElem?_toArray, splice_get _ _ _ _ hsz, if_pos hi]; simp

theorem visib_only {c : List V} {ver : Nat} {ex : List Nat} {v : Nat} {cv : List V} (h : visib c ver ver ex v = some cv) : v = ver ∧ cv = c := by
  unfold visib at h
  split at h
  · rename_i e; simp at h; exact ⟨e, h.symm⟩
  · split at h
    · omega
    · simp at h

theorem HRel.live_ver (_ : HRel P E σ w) {x : Pos} {ty : Nat} {c : List V} {ver minv : Nat} {fz : Option Nat} {ex : List Nat} (hg : σ.get x = some (.cells ty c ver minv fz ex)) : live σ x ver := by
  unfold live; rw [hg]; simp [visib_self]

theorem HRel.putCells (h : HRel P E σ w) {x : Pos} {v o : Nat} {vs : List V} {σ' : H} (hp' : putCells σ x v o vs = some σ') {p : Place} (hp : E.pl x v = some p) (hl : p.lo ≤ o) {VS : List Value} (hvs : VRL E vs VS) :
    ∃ w', (storeCells (p.addr o) VS).run P w = .ok () w' ∧ HRel P E σ' w' ∧ Ext E σ w E σ' w' := by
  unfold YtahgfodccndcjaaGreatEng.putCells at hp'
  split at hp'
  · rename_i ty c ver minv f ex hg
    split at hp'
    · rename_i hcond
      obtain ⟨rfl, hf, hle, h1⟩ := hcond
      obtain rfl := Option.some.inj hp'
      obtain ⟨hP, hU⟩ := h.cel x ty c v minv (some f) ex hg v c p visib_self hp
      obtain ⟨arr', r1, r2, r3, r4, r5⟩ := hP.splice hvs hl hle h1 (hU rfl) hf
      have hlive := h.live_ver hg
      refine ⟨_, r1, ?_⟩
      refine h.upd (g := p.blk) hg ⟨v, p, hp⟩ (.refl E) (fun _ _ _ => rfl) rfl rfl rfl (by rw [setRow_size]; exact Nat.le_refl _) (fun b _ hb => setRow_other w p.blk b arr' hb) (h.rng x v p hp).1 ?_ ?_ ?_ (fun u t q r => h.same x u t q r) ?_
      · intro y u r hy hly hr e
        exact h.dis y x u v r p hy hly hlive hr hp e
      · intro u q hq; rw [setRow_size]; exact h.rng x u q hq
      · refine ⟨h.vers x ty c v minv (some f) ex hg, fun _ _ a b _ => by omega, fun u cv q hu hq => ?_⟩
        obtain ⟨rfl, rfl⟩ := visib_only hu
        rw [hp] at hq; simp at hq; subst hq
        exact ⟨r3, fun _ => r4⟩
      · intro u q y t r hlu hq hy hly hr
        have hu : u = v := by
          unfold live at hlu
          rw [H.get_put, if_pos rfl] at hlu
          simp only [Option.isSome_iff_exists] at hlu
          obtain ⟨cv, hcv⟩ := hlu
          exact (visib_only hcv).1
        subst hu
        rw [hp] at hq; simp at hq; subst hq
        exact fun e => h.dis y x t u r p hy hly hlive hr hp e.symm
    · simp at hp'
  · simp at hp'

end
end Go.Proofs.YtahgfodccndcjaaGreatEng

