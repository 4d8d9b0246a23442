/- The engine, part 12: operations that read. -/
import Derived.Test.YtplaefbblpiehaaEng11
namespace Go.Proofs.YtplaefbblpiehaaEng
open Go
section
variable {P : Program} {G : Nat → Option V} {E : Env} {τ : Tr V} {ρ : Operand → Value} {σ : H} {w : World}

theorem blkCells_spec {x : Pos} {v : Nat} {c : List V} (h : blkCells σ x v = some c) : ∃ ty c0 ver minv fz ex, σ.get x = some (.cells ty c0 ver minv fz ex) ∧ visib c0 ver minv ex v = some c := by
  unfold blkCells at h
  split at h
  · rename_i ty c0 ver minv fz ex hg; exact ⟨ty, c0, ver, minv, fz, ex, hg, h⟩
  · simp at h

/-- Where a version's contents lie. -/
theorem HRel.at_ (h : HRel P E σ w) {x : Pos} {v : Nat} {c : List V} (hc : blkCells σ x v = some c) {p : Place} (hp : E.pl x v = some p) : ∃ ty, PlaceOk P E w ty c p := by
  obtain ⟨ty, c0, ver, minv, fz, ex, hg, hv⟩ := blkCells_spec hc
  exact ⟨ty, (h.cel x ty c0 ver minv fz ex hg v c p hv hp).1⟩

theorem pick1_load {ty : Nat} {c : List V} {p : Place} (hP : PlaceOk P E w ty c p) {t : TypeId} {ag : Option Nat} (hag : aggOf P t = some ag) {o : Nat} (hl : p.lo ≤ o) {v : V} (hv : pick1 ag c o = some v) :
    Gives P E w (loadVar t (p.addr o)) v := by
  obtain ⟨h1, h2⟩ := run_isAgg' hag w
  cases ag with
  | none =>
    simp only [pick1] at hv
    obtain ⟨cv, h3, h4⟩ := hP.cell hv hl
    exact ⟨cv, by simp [loadVar, h1, h3], h4⟩
  | some n =>
    simp only [pick1] at hv
    split at hv
    · rename_i l hl'
      simp at hv; subst hv
      obtain ⟨arr, h3, h4, _, _⟩ := hP.load hl' hl
      exact ⟨.agg arr, by simp [loadVar, h1, run_sizeOf' (h2 n rfl), h3], .mk_agg h4⟩
    · simp at hv

theorem pick1_load_old (h : HRel P E σ w) {c : List V} {b k : Nat} {f : Nat → Value} (hb : b < E.w0.heap.size)
    (hc : ∀ (i : Nat) v, c[i]? = some v → E.w0.cell? ⟨b, k + i, none⟩ = some (f i)) (hvv : ∀ (i : Nat) v, c[i]? = some v → VR E v (f i)) {t : TypeId} {ag : Option Nat} (hag : aggOf P t = some ag) {o : Nat} {v : V} (hv : pick1 ag c o = some v) :
    Gives P E w (loadVar t ⟨b, k + o, none⟩) v := by
  obtain ⟨h1, h2⟩ := run_isAgg' hag w
  cases ag with
  | none =>
    simp only [pick1] at hv
    have h3 : w.cell? ⟨b, k + o, none⟩ = some (f o) := by rw [h.old_cell hb]; exact hc _ _ hv
    exact ⟨f o, by simp [loadVar, h1, h3], hvv _ _ hv⟩
  | some n =>
    simp only [pick1] at hv
    split at hv
    · rename_i l hl'
      simp at hv; subst hv
      obtain ⟨arr, h3, h4, _, _⟩ := h.load_old (P := P) hb hc hvv hl'
      exact ⟨.agg arr, by simp [loadVar, h1, run_sizeOf' (h2 n rfl), h3], .mk_agg h4⟩
    · simp at hv

theorem does_load {o : Oper} {t : TypeId} {x : Operand} (ho : o.op = .load t x) {ag : Option Nat} (hag : aggOf P t = some ag) {a : Arg} (ha : cArg G x = some a) (hO : OR G E τ ρ o.op.operands.toList) (h : HRel P E σ w) {v : V}
    (hv : (ROp.load ag a).ev τ σ = some v) : Does P E w ρ o v := by
  rw [ho] at hO
  refine Gives.does (s := Instr.loadAt t (ρ x)) ?_ (by simp [execOp, ho])
  simp only [ROp.ev] at hv
  split at hv
  · rename_i y vv oo hu
    have hx := hO.one (x := x) (by simp [Op.operands]) ha hu
    split at hv
    · rename_i c hc
      generalize ρ x = r at hx
      cases hx with
      | ptr _ _ _ p hp hl =>
        obtain ⟨ty, hP⟩ := h.at_ hc hp
        obtain ⟨cv, h1, h2⟩ := pick1_load hP hag hl hv
        exact ⟨cv, by simp [Instr.loadAt, Instr.sureAddr, h1], h2⟩
    · simp at hv
  · rename_i c oo hu
    have hx := hO.one (x := x) (by simp [Op.operands]) ha hu
    generalize ρ x = r at hx
    cases hx with
    | rop _ _ b k f hb hc hvv =>
      obtain ⟨cv, h1, h2⟩ := pick1_load_old h hb hc hvv hag hv
      exact ⟨cv, by simp [Instr.loadAt, Instr.sureAddr, h1], h2⟩
  · simp at hv

/- a slice's first elements -/
theorem run_firstCells (h : HRel P E σ w) {s : V} {cs : Value} (hs : VR E s cs) {esz n m : Nat} (hm : slLen s = some m) (hn : n ≤ m) (h1 : (∃ l, s = .str l) → esz = 1) {c : List V} (hc : slCells σ esz n s = some c) :
    ∃ arr : Array Value, (Builtin.firstCells esz n cs).run P w = .ok arr w ∧ VRL E c arr.toList ∧ c.length = n * esz := by
  unfold slCells at hc
  split at hc
  · cases hs
    split at hc
    · rename_i hn0; simp at hc; subst hc; subst hn0
      exact ⟨#[], rfl, .nil, by simp⟩
    · simp at hc
  · rename_i x v o len cap es
    split at hc
    · rename_i c0 hc0
      cases hs with
      | sl _ _ _ _ _ _ ccap p ad hp hl hlen had hcc =>
        simp [slLen] at hm; subst hm
        obtain ⟨ty, hP⟩ := h.at_ hc0 hp
        by_cases h0 : n = 0
        · subst h0
          have := cut_length hc
          have hcn : c = [] := List.eq_nil_of_length_eq_zero (by simpa using this)
          subst hcn
          exact ⟨#[], by simp [Builtin.firstCells, loadCells, loadCellsFrom], .nil, by simp⟩
        · have hadd := had.resolve_left (by omega)
          obtain ⟨arr, h3, h4, _, _⟩ := hP.load hc hl
          exact ⟨arr, by simp only [Builtin.firstCells, hadd]; exact h3, h4, cut_length hc⟩
    · simp at hc
  · rename_i cc o len cap
    cases hs with
    | ros _ _ _ _ b k f ad hb hlen had hcc hvv =>
      simp [slLen] at hm; subst hm
      by_cases h0 : n = 0
      · subst h0
        have := cut_length hc
        have hcn : c = [] := List.eq_nil_of_length_eq_zero (by simpa using this)
        subst hcn
        exact ⟨#[], by simp [Builtin.firstCells, loadCells, loadCellsFrom], .nil, by simp⟩
      · have hadd := had.resolve_left (by omega)
        obtain ⟨arr, h3, h4, _, _⟩ := h.load_old (P := P) hb hcc hvv hc
        exact ⟨arr, by simp only [Builtin.firstCells, hadd]; exact h3, h4, cut_length hc⟩
  · rename_i l
    obtain ⟨b, rfl, rfl⟩ := hs.str_inv
    obtain rfl := h1 ⟨_, rfl⟩
    split at hc
    · rename_i hle
      obtain rfl := Option.some.inj hc
      refine ⟨_, rfl, ?_, by simp at hle ⊢; omega⟩
      refine ⟨by simp, fun i v cv e1 e2 => ?_⟩
      simp only [List.getElem?_map, Option.map_eq_some_iff] at e1
      simp only [Array.toList_map, List.getElem?_map, Option.map_eq_some_iff] at e2
      obtain ⟨q, hq, rfl⟩ := e1
      obtain ⟨q', hq', rfl⟩ := e2
      rw [List.getElem?_take] at hq
      split at hq
      · simp only [List.getElem?_map, Option.map_eq_some_iff] at hq
        obtain ⟨q'', hq'', rfl⟩ := hq
        rw [ByteArray.data_extract, Array.toList_extract, List.extract_eq_take_drop, List.getElem?_take] at hq'
        split at hq'
        · simp only [List.drop_zero] at hq'
          rw [hq''] at hq'; simp at hq'; subst hq'
          exact .int _ _
        · simp at hq'
      · simp at hq
    · simp at hc
  · simp at hc

theorem toBytes_spec : ∀ {c : List V} {l : List Nat}, toBytes c = some l → c = l.map (fun n : Nat => V.int .u8 (n : Int)) ∧ ∀ n ∈ l, n < 256
  | [], l, h => by simp [toBytes] at h; subst h; exact ⟨rfl, by simp⟩
  | .int .u8 n :: r, l, h => by
    simp only [toBytes] at h
    split at h
    · rename_i hn
      split at h
      · rename_i l' hl
        simp at h; subst h
        obtain ⟨h1, h2⟩ := toBytes_spec hl
        refine ⟨by rw [h1]; simp only [List.map_cons]; rw [Int.toNat_of_nonneg hn.1], fun m hm => ?_⟩
        simp at hm
        rcases hm with rfl | hm
        · omega
        · exact h2 m hm
      · simp at h
    · simp at h
  | .int .i8 _ :: _, l, h => by simp [toBytes] at h
  | .int .i16 _ :: _, l, h => by simp [toBytes] at h
  | .int .i32 _ :: _, l, h => by simp [toBytes] at h
  | .int .i64 _ :: _, l, h => by simp [toBytes] at h
  | .int .u16 _ :: _, l, h => by simp [toBytes] at h
  | .int .u32 _ :: _, l, h => by simp [toBytes] at h
  | .int .u64 _ :: _, l, h => by simp [toBytes] at h
  | .bool _ :: _, l, h => by simp [toBytes] at h
  | .str _ :: _, l, h => by simp [toBytes] at h
  | .nilp :: _, l, h => by simp [toBytes] at h
  | .ptr _ _ _ :: _, l, h => by simp [toBytes] at h
  | .rop _ _ :: _, l, h => by simp [toBytes] at h
  | .nils :: _, l, h => by simp [toBytes] at h
  | .sl _ _ _ _ _ _ :: _, l, h => by simp [toBytes] at h
  | .ros _ _ _ _ :: _, l, h => by simp [toBytes] at h
  | .fn _ _ _ :: _, l, h => by simp [toBytes] at h
  | .nilf :: _, l, h => by simp [toBytes] at h
  | .mapn :: _, l, h => by simp [toBytes] at h
  | .map _ :: _, l, h => by simp [toBytes] at h
  | .it _ :: _, l, h => by simp [toBytes] at h
  | .iface _ _ :: _, l, h => by simp [toBytes] at h
  | .nili :: _, l, h => by simp [toBytes] at h
  | .agg _ :: _, l, h => by simp [toBytes] at h
  | .tup _ :: _, l, h => by simp [toBytes] at h
  | .any :: _, l, h => by simp [toBytes] at h

theorem VRL.bytes {l : List Nat} {C : List Value} (h : VRL E (l.map fun n : Nat => V.int .u8 (n : Int)) C) : C = l.map fun n : Nat => Value.int .u8 (n : Int) := by
  induction l generalizing C with
  | nil => exact h.nil_left
  | cons n l ih =>
    obtain ⟨cv, C', rfl, hv, hr⟩ := VRL.cons_left (v := .int .u8 n) (c := l.map fun n : Nat => V.int .u8 (n : Int)) (by simpa using h)
    rw [hv.int_inv, ih hr]; rfl

theorem fold_push (l : List Nat) (hl : ∀ n ∈ l, n < 256) : ∀ s : ByteArray, ((l.map (Int.ofNat ·)).foldl (fun r n => r.push (UInt8.ofNat n.toNat)) s).data.toList.map (·.toNat) = s.data.toList.map (·.toNat) ++ l := by
  induction l with
  | nil => intro s; simp
  | cons n l ih =>
    intro s
    simp only [List.map_cons, List.foldl_cons]
    rw [ih (fun m hm => hl m (by simp [hm]))]
    have := hl n (by simp)
    simp [ByteArray.push]
    omega

theorem does_b2s {o : Oper} {s d e : TypeId} {x : Operand} (ho : o.op = .convert s d x) (hs : P.underlying s = some (.slice e)) (hd : P.underlying d = some .string) (he : P.underlying e = some (.int .u8)) {a : Arg} (ha : cArg G x = some a)
    (hO : OR G E τ ρ o.op.operands.toList) (h : HRel P E σ w) {v : V} (hv : (ROp.b2s a).ev τ σ = some v) : Does P E w ρ o v := by
  rw [ho] at hO
  refine Gives.does (s := convert s d (ρ x)) ?_ (by simp [execOp, ho])
  simp only [ROp.ev] at hv
  split at hv
  · rename_i u hu
    have hx := hO.one (x := x) (by simp [Op.operands]) ha hu
    split at hv
    · simp at hv
    · rename_i hns
      split at hv
      · rename_i n hn
        split at hv
        · rename_i c hc
          split at hv
          · rename_i l hl
            simp at hv; subst hv
            obtain ⟨arr, h1, h2, _⟩ := run_firstCells (P := P) h hx hn (Nat.le_refl _) (fun ⟨l, hl⟩ => (hns l hl).elim) hc
            obtain ⟨h3, h4⟩ := toBytes_spec hl
            subst h3
            have harr : arr = (l.map fun n : Nat => Value.int .u8 (n : Int)).toArray := by
              apply Array.ext'; simpa using h2.bytes
            have hcv : ∃ b : ByteArray, (Conv.bytesToString (ρ x)).run P w = .ok (.string b) w ∧ b.data.toList.map (·.toNat) = l := by
              generalize ρ x = r at hx h1
              unfold slLen at hn
              split at hn
              · cases hx
                simp at hn; subst hn
                have : l = [] := by
                  have := h2.1; simp [slCells] at hc; exact hc
                subst this
                exact ⟨.empty, rfl, by simp⟩
              · cases hx with
                | sl _ _ _ _ _ _ ccap p ad hp hl' hlen had hcc =>
                  simp at hn; subst hn
                  simp only [Builtin.firstCells, Nat.mul_one] at h1
                  rw [harr] at h1
                  refine ⟨_, run_bytesToString w ad _ ccap (l.map (Int.ofNat ·)) (by simpa [Function.comp_def] using h1), ?_⟩
                  rw [fold_push l h4]; simp
              · cases hx with
                | ros _ _ _ _ b k f ad hb hlen had hcc hvv =>
                  simp at hn; subst hn
                  simp only [Builtin.firstCells, Nat.mul_one] at h1
                  rw [harr] at h1
                  refine ⟨_, run_bytesToString w ad _ _ (l.map (Int.ofNat ·)) (by simpa [Function.comp_def] using h1), ?_⟩
                  rw [fold_push l h4]; simp
              · rename_i l'; exact (hns l' rfl).elim
              · simp at hn
            obtain ⟨b, hb1, hb2⟩ := hcv
            refine ⟨.string b, ?_, hb2 ▸ .str b⟩
            generalize ρ x = r at hx hb1
            have : (convert s d r).run P w = (Conv.bytesToString r).run P w := by
              unfold slLen at hn
              split at hn
              · cases hx; simp [convert, run_underlying hs, run_underlying hd, run_underlying he]
              · cases hx; simp [convert, run_underlying hs, run_underlying hd, run_underlying he]
              · cases hx; simp [convert, run_underlying hs, run_underlying hd, run_underlying he]
              · rename_i l'; exact (hns l' rfl).elim
              · simp at hn
            rw [this, hb1]
          · simp at hv
        · simp at hv
      · simp at hv
  · simp at hv

theorem PlaceOk.shape {ty : Nat} {c : List V} {p : Place} (h : PlaceOk P E w ty c p) : w.shape? p.blk = some (ty, p.size) := by
  obtain ⟨arr, fro, h1, h2, _⟩ := h
  simp [World.shape?, h1, h2]

theorem does_cpu {o : Oper} {s d e : TypeId} {x : Operand} (ho : o.op = .convert s d x) (hs : P.underlying s = some (.pointer e)) (hd : P.underlying d = some .unsafePointer) {k : Nat} (he : szOf P e = some (k + 1)) {a : Arg} (ha : cArg G x = some a)
    (hO : OR G E τ ρ o.op.operands.toList) (h : HRel P E σ w) {v : V} (hv : (ROp.cpu a).ev τ σ = some v) : Does P E w ρ o v := by
  rw [ho] at hO
  refine Gives.does (s := convert s d (ρ x)) ?_ (by simp [execOp, ho])
  simp only [ROp.ev] at hv
  split at hv
  · rename_i hu
    have hx := hO.one (x := x) (by simp [Op.operands]) ha hu
    simp at hv; subst hv
    generalize ρ x = r at hx
    cases hx
    exact ⟨.pointer none, by simp [convert, Conv.unsafePointer, run_underlying hs, run_underlying hd], .nilp⟩
  · rename_i y vv oo hu
    have hx := hO.one (x := x) (by simp [Op.operands]) ha hu
    split at hv
    · rename_i c hc
      split at hv
      · rename_i hlt
        simp at hv; subst hv
        generalize ρ x = r at hx
        cases hx with
        | ptr _ _ _ p hp hl =>
          obtain ⟨ty, hP⟩ := h.at_ hc hp
          have hsh := hP.shape
          obtain ⟨arr, fro, h1, h2, h3, h4, _⟩ := hP
          have hge : ¬ (p.size ≤ oo - p.lo) := by omega
          refine ⟨.pointer (some (p.addr oo)), ?_, .ptr _ _ _ p hp hl⟩
          simp [convert, Conv.unsafePointer, run_underlying hs, run_underlying hd, Conv.seenAt, viewAt, cellsIn, Place.addr, hsh, run_sizeOf' he, hge]
      · simp at hv
    · simp at hv
  · simp at hv

theorem does_cup {o : Oper} {s d u : TypeId} {x : Operand} (ho : o.op = .convert s d x) (hs : P.underlying s = some .unsafePointer) (hd : P.underlying d = some (.pointer u)) {sz : Nat} (he : szOf P u = some sz) {a : Arg} (ha : cArg G x = some a)
    (hO : OR G E τ ρ o.op.operands.toList) (h : HRel P E σ w) {v : V} (hv : (ROp.cup u sz a).ev τ σ = some v) : Does P E w ρ o v := by
  rw [ho] at hO
  refine Gives.does (s := convert s d (ρ x)) ?_ (by simp [execOp, ho])
  simp only [ROp.ev] at hv
  split at hv
  · rename_i hu
    have hx := hO.one (x := x) (by simp [Op.operands]) ha hu
    simp at hv; subst hv
    generalize ρ x = r at hx
    cases hx
    exact ⟨.pointer none, by simp [convert, Conv.unsafePointer, run_underlying hs, run_underlying hd], .nilp⟩
  · rename_i y vv oo hu
    have hx := hO.one (x := x) (by simp [Op.operands]) ha hu
    split at hv
    · rename_i hcond
      obtain ⟨rfl, rfl, hh⟩ := hcond
      simp at hv; subst hv
      generalize ρ x = r at hx
      cases hx with
      | ptr _ _ _ p hp hl =>
        unfold headOf at hh
        split at hh
        · rename_i ty c minv fz ex hg
          simp at hh
          obtain ⟨⟨rfl, h0⟩, hlen⟩ := hh
          have hP := (h.cel y ty c 0 minv fz ex hg 0 c p visib_self hp).1
          have hsh := hP.shape
          obtain ⟨arr, fro, h1, h2, h3, h4, _⟩ := hP
          have hlo : p.lo = 0 := by omega
          have hadd : p.addr 0 = ⟨p.blk, 0, none⟩ := by simp [Place.addr]
          refine ⟨.pointer (some (p.addr 0)), ?_, .ptr _ _ _ p hp hl⟩
          have hcells : P.cellsOf ty = sz := by
            obtain ⟨i, hi, rfl⟩ := szOf_info he
            simp [Program.cellsOf, hi]
          have hcount : 1 ≤ p.size / sz := by
            rw [Nat.le_div_iff_mul_le h0]; omega
          have hsame : sameLayout P P.depth ty ty = true := by
            unfold Program.depth
            simp [sameLayout]
          have hrow : rowAt P (fun x => sameLayout P P.depth x ty) P.depth ty (p.size / sz) 0 1 = true := by
            have : P.depth = (2 * (P.types.size + Made.depth) + 1) + 1 := rfl
            have hr : ∀ (f : TypeId → Bool) D cnt, rowAt P f (D + 1) ty cnt 0 1 = (if P.cellsOf ty = 0 then false else ((0 % P.cellsOf ty == 0 && decide (0 / P.cellsOf ty + 1 ≤ cnt) && f ty) || _)) := fun f D cnt => rfl
            rw [this, hr, if_neg (by omega), show (0 % P.cellsOf ty == 0 && decide (0 / P.cellsOf ty + 1 ≤ p.size / sz) && sameLayout P ((2 * (P.types.size + Made.depth) + 1) + 1) ty ty) = true by
              rw [← this, hsame]; simp; omega]
            rfl
          have hlies : liesAt P P.depth ty (p.size / sz) 0 ty 1 = true := by
            have : P.depth = (2 * (P.types.size + Made.depth) + 1) + 1 := rfl
            have hu' : liesAt P ((2 * (P.types.size + Made.depth) + 1) + 1) ty (p.size / sz) 0 ty 1 = (rowAt P (fun x => sameLayout P P.depth x ty) P.depth ty (p.size / sz) 0 1 || _) := rfl
            rw [this, hu', hrow]; rfl
          have hsz : sz ≠ 0 := by omega
          simp [convert, Conv.unsafePointer, run_underlying hs, run_underlying hd, Conv.seenAt, viewAt, hadd, hsh, run_sizeOf' he, variablesAt, hcells, hlies, hsz]
        · simp at hh
    · simp at hv
  · simp at hv

end
end Go.Proofs.YtplaefbblpiehaaEng
