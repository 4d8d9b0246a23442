/- A signature that came in, as the machine has it. -/
import Derived.Test.YtfgghbikbaopjaaGreatDoorRows
import Derived.Test.YtfgghbikbaopjaaGreatDoorY5
import Derived.ProofKit
import Derived.ChangeSlices
import Derived.ChangeSame
import Derived.OpenShut
import Derived.Deep.Strs
import Derived.Lib.SmallJoins
namespace Go.Proofs.YtfgghbikbaopjaaGreatDoor
open Go Go.ChangeShapes Go.WideShapes Go.ChangeAt Go.RowKit Go.Proofs.YtfgghbikbaopjaaGreatDoorEng
set_option maxRecDepth 1000000
set_option linter.constructorNameAsVariable false

theorem bulk_append {H0 : Type} : ∀ (l r : List (DataW H0)), Rows.uptoBulkAll (l ++ r) = Rows.uptoBulkAll l + Rows.uptoBulkAll r
  | [], r => by simp [Rows.uptoBulkAll]
  | d :: l, r => by simp [Rows.uptoBulkAll, bulk_append l r, Nat.add_assoc]
theorem sum_append {α : Type} (f : α → Nat) : ∀ (l r : List α), sum f (l ++ r) = sum f l + sum f r
  | [], r => by simp [sum]
  | d :: l, r => by simp only [List.cons_append, sum, sum_append f l r]; omega
theorem szL_sum : ∀ l : List S, S.szL l = sum S.sz l
  | [] => rfl
  | s :: r => by simp only [S.szL, sum, szL_sum r]

/-- A slice that came in: what its elements are, where each can be opened. -/
theorem open_row {α : Type} {n : Nat} (E : EK α n) (f : α → Nat) {H0 : Type} {enc : TypeId × Value → H0} {P : Program} {W : World} {t e ty fuel : Nat} {cs : List Value} {x : DataW H0 × List MemPlace}
    (hW : 0 < W.heap.size) (ht : P.underlying t = some (.slice e)) (hc : P.cellsOf e = n) (hn : 0 < n)
    (hel : ∀ m cs' y, m < fuel → cs'.length = n → DataW.trod enc P W 0 (fun _ => true) true m e cs' = some y → ∃ c z, VRL (E0 W) c cs' ∧ E.P false H.empty (fun _ => True) c z ∧ f z + 1 ≤ Rows.uptoBulk y.1)
    (h : DataW.trod enc P W 0 (fun _ => true) true fuel t cs = some x) :
    ∃ v a L, cs = [v] ∧ VR (E0 W) a v ∧ SP E ty false H.empty (fun _ => True) a L ∧ sum f L + 1 ≤ Rows.uptoBulk x.1 := by
  rcases DataW.trod_slice ht h with ⟨rfl, rfl⟩ | ⟨a, len, cap, elems, rest, m, rfl, rfl, rfl, _, hlc, _, hlen, hat, hsp, _⟩
  · exact ⟨_, .nils, [], rfl, .nils, SP.nils, Nat.le_refl _⟩
  obtain ⟨hrl, hrest⟩ := hsp rfl
  rw [hc] at hat hrest
  have hread : ∀ i, i < cap → ∃ cs', W.cells? 0 (a.add (i * n)) n = some cs' := fun i hi => by
    by_cases hil : i < len
    · have := hat i hil
      rw [List.getElem?_eq_getElem (by omega)] at this
      obtain ⟨cs', h1, _⟩ := Option.bind_eq_some_iff.1 this
      exact ⟨cs', h1⟩
    · have := hrest (i - len) (by omega)
      rw [List.getElem?_eq_getElem (by omega), show len + (i - len) = i by omega] at this
      obtain ⟨cs', h1, _⟩ := Option.bind_eq_some_iff.1 this
      exact ⟨cs', h1⟩
  have key : ∀ k, k ≤ len → ∃ (C : List (List V)) (L : List α), C.length = k ∧ L.length = k ∧ (∀ i c, C[i]? = some c → ∃ cs', W.cells? 0 (a.add (i * n)) n = some cs' ∧ VRL (E0 W) c cs') ∧
      (∀ (i : Nat) c z, C[i]? = some c → L[i]? = some z → E.P false H.empty (fun _ => True) c z) ∧ sum f L ≤ Rows.uptoBulkAll ((elems.take k).map (·.1)) := by
    intro k
    induction k with
    | zero => exact fun _ => ⟨[], [], rfl, rfl, fun i c h => by simp at h, fun i c z h => by simp at h, by simp [sum]⟩
    | succ k ih =>
      intro hk
      obtain ⟨C, L, h1, h2, h3, h4, h5⟩ := ih (by omega)
      have h6 := hat k (by omega)
      have hke : k < elems.length := by omega
      rw [List.getElem?_eq_getElem hke] at h6
      obtain ⟨cs', h7, h8⟩ := Option.bind_eq_some_iff.1 h6
      obtain ⟨c, z, e1, e2, e3⟩ := hel m cs' elems[k] (by omega) (World.cells?_some h7).2.1 h8
      refine ⟨C ++ [c], L ++ [z], by simp [h1], by simp [h2], fun i c' hi => ?_, fun i c' z' hi hz => ?_, ?_⟩
      · by_cases hik : i < C.length
        · rw [List.getElem?_append_left hik] at hi
          exact h3 i c' hi
        · rw [List.getElem?_append_right (by omega)] at hi
          obtain ⟨hz, rfl⟩ : i - C.length = 0 ∧ c = c' := by
            cases hh : i - C.length with
            | zero => rw [hh] at hi; simpa using hi
            | succ j => rw [hh] at hi; simp at hi
          obtain rfl : i = k := by omega
          exact ⟨cs', h7, e1⟩
      · by_cases hik : i < C.length
        · rw [List.getElem?_append_left hik] at hi
          rw [List.getElem?_append_left (by omega)] at hz
          exact h4 i c' z' hi hz
        · rw [List.getElem?_append_right (by omega)] at hi hz
          have h0 : i - C.length = 0 := by
            cases hh : i - C.length with
            | zero => rfl
            | succ j => rw [hh] at hi; simp at hi
          rw [h0] at hi
          rw [show i - L.length = 0 by omega] at hz
          simp at hi hz
          subst hi; subst hz
          exact e2
      · rw [List.take_succ_eq_append_getElem hke, List.map_append, bulk_append, sum_append]
        simp only [List.map_cons, List.map_nil, Rows.uptoBulkAll, sum]
        omega
  obtain ⟨C, L, h1, h2, h3, h4, h5⟩ := key len (Nat.le_refl _)
  rw [List.take_of_length_le (by omega)] at h5
  have hCl : ∀ c ∈ C, c.length = n := fun c hm => by
    obtain ⟨i, hi⟩ := List.getElem?_of_mem hm
    have hiL : i < L.length := by
      have : i < C.length := by
        rcases Nat.lt_or_ge i C.length with h | h
        · exact h
        · rw [List.getElem?_eq_none h] at hi; cases hi
      omega
    exact E.len (h4 i c _ hi (List.getElem?_eq_getElem hiL))
  have hC1 : ∀ c ∈ C, c.all V.one = true := fun c hm => by
    obtain ⟨i, hi⟩ := List.getElem?_of_mem hm
    have hiL : i < L.length := by
      have : i < C.length := by
        rcases Nat.lt_or_ge i C.length with h | h
        · exact h
        · rw [List.getElem?_eq_none h] at hi; cases hi
      omega
    exact E.one (h4 i c _ hi (List.getElem?_eq_getElem hiL))
  have hfl := flat_len hCl
  have hsum : sum f L + 1 ≤ Rows.uptoBulk (DataW.slice (elems.map (·.1)) (rest.map (·.1))) := by
    simp only [Rows.uptoBulk]
    omega
  have hSP : SP E ty false H.empty (fun _ => True) (.ros C.flatten 0 C.length cap) L := by
    refine ⟨C, .ros C.flatten 0 cap C rfl hCl hC1 (by omega) ?_, by omega, h4⟩
    simp only [cut]
    rw [if_pos (by rw [hfl]; omega), List.drop_zero, List.take_of_length_le (by rw [hfl]; omega)]
  refine ⟨_, .ros C.flatten 0 C.length cap, L, rfl, ?_, hSP, hsum⟩
  rw [h1]
  by_cases hcap : cap = 0
  · have : C = [] := List.eq_nil_of_length_eq_zero (by omega)
    subst this
    exact .ros _ 0 len cap 0 0 (fun _ => .int .i64 0) a hW hlc (.inl hcap) (fun i v hi => by simp at hi) (fun i v hi => by simp at hi)
  · obtain ⟨cs', hr⟩ := hread 0 (by omega)
    obtain ⟨_, hr1, hr2⟩ := World.cells?_some hr
    have hr3 := hr2 0 hn
    rw [Nat.zero_mul] at hr3
    have e0 : (a.add 0).add 0 = a := by simp [Addr.add]
    rw [e0, List.getElem?_eq_getElem (by omega)] at hr3
    have hspot : a.spot = none := by
      simp only [World.cell?] at hr3
      split at hr3
      · split at hr3
        · cases hr3
        · rename_i hs
          cases hsp : a.spot with
          | none => rfl
          | some _ => rw [hsp] at hs; exact absurd rfl hs
      · cases hr3
    obtain ⟨b, off, sp⟩ := a
    simp only at hspot
    subst hspot
    have hb : b < W.heap.size := World.block_lt_of_cell? _ _ hr3
    have hcell : ∀ (i : Nat) v, C.flatten[i]? = some v → ∃ cv, W.cell? ⟨b, off + i, none⟩ = some cv ∧ VR (E0 W) v cv := by
      intro i v hi
      have hilt : i < C.length * n := by
        rw [← hfl]
        rcases Nat.lt_or_ge i C.flatten.length with h | h
        · exact h
        · rw [List.getElem?_eq_none h] at hi; cases hi
      have hq : i / n < C.length := (Nat.div_lt_iff_lt_mul hn).2 hilt
      have hr' : i % n < n := Nat.mod_lt _ hn
      have hdm : i / n * n + i % n = i := by rw [Nat.mul_comm]; exact Nat.div_add_mod i n
      have hci := List.getElem?_eq_getElem hq
      have hv := flat_get hCl hci hr'
      rw [hdm, hi] at hv
      obtain ⟨cs', q1, q2⟩ := h3 _ _ hci
      obtain ⟨cv, q3, q4⟩ := q2.get hv.symm
      have q5 := (World.cells?_some q1).2.2 _ hr'
      rw [add_plain, add_plain, q3, Nat.add_assoc, hdm] at q5
      exact ⟨cv, q5, q4⟩
    refine .ros C.flatten 0 len cap b off (fun i => (W.cell? ⟨b, off + i, none⟩).getD (.int .i64 0)) _ hb hlc (.inr rfl) (fun i v hi => ?_) (fun i v hi => ?_)
    · obtain ⟨cv, q1, _⟩ := hcell i v hi
      show W.cell? ⟨b, off + i, none⟩ = some ((W.cell? ⟨b, off + i, none⟩).getD (.int .i64 0))
      rw [q1]; rfl
    · obtain ⟨cv, q1, q2⟩ := hcell i v hi
      simp only [q1, Option.getD_some]
      exact q2

section
variable {H0 : Type} {enc : TypeId × Value → H0} {W : World} {fuel : Nat} {cs : List Value} {x : DataW H0 × List MemPlace}

theorem cells3 : Tryz.prog.cellsOf 3 = 1 := by kernel_rfl
theorem cells9 : Tryz.prog.cellsOf 9 = 1 := by kernel_rfl
theorem cells22 : Tryz.prog.cellsOf 22 = 1 := by kernel_rfl
theorem cells23 : Tryz.prog.cellsOf 23 = 1 := by kernel_rfl
theorem cells24 : Tryz.prog.cellsOf 24 = 1 := by kernel_rfl
theorem cells26 : Tryz.prog.cellsOf 26 = 3 := by kernel_rfl
theorem cells31 : Tryz.prog.cellsOf 31 = 1 := by kernel_rfl
theorem cells33 : Tryz.prog.cellsOf 33 = 2 := by kernel_rfl
theorem cells34 : Tryz.prog.cellsOf 34 = 1 := by kernel_rfl
theorem cells36 : Tryz.prog.cellsOf 36 = 2 := by kernel_rfl
theorem cells37 : Tryz.prog.cellsOf 37 = 1 := by kernel_rfl
theorem cells38 : Tryz.prog.cellsOf 38 = 1 := by kernel_rfl
theorem cells40 : Tryz.prog.cellsOf 40 = 4 := by kernel_rfl
theorem cells42 : Tryz.prog.cellsOf 42 = 5 := by kernel_rfl
theorem cells44 : Tryz.prog.cellsOf 44 = 6 := by kernel_rfl

theorem open_str (h : DataW.trod enc Tryz.prog W 0 (fun _ => true) true fuel 9 cs = some x) : ∃ v s, cs = [v] ∧ VR (E0 W) (.str s) v ∧ s.length + 1 = Rows.uptoBulk x.1 := by
  obtain ⟨s, rfl, rfl, _⟩ := DataW.trod_string Tryz.underlying9 h
  exact ⟨_, _, rfl, .str s, by simp [Rows.uptoBulk]⟩
theorem open_str1 (h : DataW.trod enc Tryz.prog W 0 (fun _ => true) true fuel 9 cs = some x) : ∃ c z, VRL (E0 W) c cs ∧ Est.P false H.empty (fun _ => True) c z ∧ List.length z + 1 ≤ Rows.uptoBulk x.1 := by
  obtain ⟨v, s, rfl, h1, h2⟩ := open_str h
  exact ⟨[.str s], s, .cons h1 .nil, rfl, Nat.le_of_eq h2⟩

theorem open_sort (hW : 0 < W.heap.size) : ∀ (fuel : Nat) (cs : List Value) (x : DataW H0 × List MemPlace), cs.length = 4 → DataW.trod enc Tryz.prog W 0 (fun _ => true) true fuel 40 cs = some x →
    ∃ c z, VRL (E0 W) c cs ∧ Eso.P false H.empty (fun _ => True) c z ∧ S.sz z + 1 ≤ Rows.uptoBulk x.1 := by
  intro fuel
  induction fuel using Nat.strongRecOn with
  | ind fuel ih =>
    intro cs x hl h
    obtain ⟨xs, n, rfl, rfl, _, hxs, hf⟩ := DataW.trod_struct Tryz.underlying40 h
    match cs, hl, xs, hxs with
    | [c0, c1, c2, c3], _, [y0, y1, y2, y3], _ =>
      have f0 : DataW.trod enc Tryz.prog W 0 (fun _ => true) true n 37 (([c0, c1, c2, c3].drop 0).take (Tryz.prog.cellsOf 37)) = some y0 := hf 0 _ rfl
      have f1 : DataW.trod enc Tryz.prog W 0 (fun _ => true) true n 3 (([c0, c1, c2, c3].drop 1).take (Tryz.prog.cellsOf 3)) = some y1 := hf 1 _ rfl
      have f2 : DataW.trod enc Tryz.prog W 0 (fun _ => true) true n 9 (([c0, c1, c2, c3].drop 2).take (Tryz.prog.cellsOf 9)) = some y2 := hf 2 _ rfl
      have f3 : DataW.trod enc Tryz.prog W 0 (fun _ => true) true n 38 (([c0, c1, c2, c3].drop 3).take (Tryz.prog.cellsOf 38)) = some y3 := hf 3 _ rfl
      rw [cells37] at f0
      rw [cells3] at f1
      rw [cells9] at f2
      rw [cells38] at f3
      obtain ⟨k, e0, rfl, _⟩ := DataW.trod_int Tryz.underlying37 f0
      obtain ⟨w, e1, rfl, _⟩ := DataW.trod_int Tryz.underlying3 f1
      obtain ⟨v2, s, e2, hv2, hs⟩ := open_str (x := y2) f2
      obtain ⟨v3, a, L, e3, hv3, hS, hb⟩ := open_row (x := y3) (ty := 40) Eso S.sz hW Tryz.underlying38 cells40 (by decide) (fun m cs' y hm hl' h' => ih m (by omega) cs' y hl' h') f3
      obtain rfl : c0 = .int .i64 k := (List.cons.inj e0).1
      obtain rfl : c1 = .int .i64 w := (List.cons.inj e1).1
      obtain rfl : c2 = v2 := (List.cons.inj e2).1
      obtain rfl : c3 = v3 := (List.cons.inj e3).1
      refine ⟨[.int .i64 k, .int .i64 w, .str s, a], .mk k w s L, .cons (.int _ _) (.cons (.int _ _) (.cons hv2 (.cons hv3 .nil))), SortIs.of k w s hS, ?_⟩
      simp only [S.sz, szL_sum, Rows.uptoBulk, List.map_cons, List.map_nil, Rows.uptoBulkAll]
      omega

theorem open_sorts {t : Nat} (hW : 0 < W.heap.size) (ht : t = 38) (h : DataW.trod enc Tryz.prog W 0 (fun _ => true) true fuel t cs = some x) :
    ∃ v a L, cs = [v] ∧ VR (E0 W) a v ∧ SP Eso 40 false H.empty (fun _ => True) a L ∧ S.szL L + 1 ≤ Rows.uptoBulk x.1 := by
  subst ht
  obtain ⟨v, a, L, h1, h2, h3, h4⟩ := open_row (ty := 40) Eso S.sz hW Tryz.underlying38 cells40 (by decide) (fun m cs' y _ hl' h' => open_sort hW m cs' y hl' h') h
  exact ⟨v, a, L, h1, h2, h3, by rw [szL_sum]; exact h4⟩

theorem open_sel (hW : 0 < W.heap.size) (hl : cs.length = 5) (h : DataW.trod enc Tryz.prog W 0 (fun _ => true) true fuel 42 cs = some x) :
    ∃ c z, VRL (E0 W) c cs ∧ Ese.P false H.empty (fun _ => True) c z ∧ seSz z + 1 ≤ Rows.uptoBulk x.1 := by
  obtain ⟨y0, y1, n, rfl, _, f0, f1⟩ := trod_struct2 Tryz.underlying42 h
  match cs, hl with
  | [c0, c1, c2, c3, c4], _ =>
    simp only [cells9, cells40] at f0 f1
    obtain ⟨v0, s, e0, hv0, hs⟩ := open_str (x := y0) f0
    obtain ⟨c, z, hc, hz, hb⟩ := open_sort hW n [c1, c2, c3, c4] y1 rfl f1
    obtain rfl : c0 = v0 := (List.cons.inj e0).1
    refine ⟨.str s :: c, (s, z), .cons hv0 hc, ⟨c, rfl, hz⟩, ?_⟩
    simp only [seSz, Rows.uptoBulk, Rows.uptoBulkAll]
    omega

theorem open_con (hW : 0 < W.heap.size) (hl : cs.length = 2) (h : DataW.trod enc Tryz.prog W 0 (fun _ => true) true fuel 36 cs = some x) :
    ∃ c z, VRL (E0 W) c cs ∧ Eco.P false H.empty (fun _ => True) c z ∧ coSz z + 1 ≤ Rows.uptoBulk x.1 := by
  obtain ⟨y0, y1, n, rfl, _, f0, f1⟩ := trod_struct2 Tryz.underlying36 h
  match cs, hl with
  | [c0, c1], _ =>
    simp only [cells9, cells34] at f0 f1
    obtain ⟨v0, s, e0, hv0, hs⟩ := open_str (x := y0) f0
    obtain ⟨v1, a, L, e1, hv1, hL, hb⟩ := open_row (x := y1) (ty := 42) Ese seSz hW Tryz.underlying34 cells42 (by decide) (fun m cs' y _ hl' h' => open_sel hW hl' h') f1
    obtain rfl : c0 = v0 := (List.cons.inj e0).1
    obtain rfl : c1 = v1 := (List.cons.inj e1).1
    refine ⟨[.str s, a], (s, L), .cons hv0 (.cons hv1 .nil), ⟨a, rfl, hL⟩, ?_⟩
    simp only [coSz, Rows.uptoBulk, Rows.uptoBulkAll]
    omega

theorem open_data (hW : 0 < W.heap.size) (hl : cs.length = 2) (h : DataW.trod enc Tryz.prog W 0 (fun _ => true) true fuel 33 cs = some x) :
    ∃ c z, VRL (E0 W) c cs ∧ Eda.P false H.empty (fun _ => True) c z ∧ daSz z + 1 ≤ Rows.uptoBulk x.1 := by
  obtain ⟨y0, y1, n, rfl, _, f0, f1⟩ := trod_struct2 Tryz.underlying33 h
  match cs, hl with
  | [c0, c1], _ =>
    simp only [cells9, cells31] at f0 f1
    obtain ⟨v0, s, e0, hv0, hs⟩ := open_str (x := y0) f0
    obtain ⟨v1, a, L, e1, hv1, hL, hb⟩ := open_row (x := y1) (ty := 36) Eco coSz hW Tryz.underlying31 cells36 (by decide) (fun m cs' y _ hl' h' => open_con hW hl' h') f1
    obtain rfl : c0 = v0 := (List.cons.inj e0).1
    obtain rfl : c1 = v1 := (List.cons.inj e1).1
    refine ⟨[.str s, a], (s, L), .cons hv0 (.cons hv1 .nil), ⟨a, rfl, hL⟩, ?_⟩
    simp only [daSz, Rows.uptoBulk, Rows.uptoBulkAll]
    omega

theorem open_fun (hW : 0 < W.heap.size) (hl : cs.length = 6) (h : DataW.trod enc Tryz.prog W 0 (fun _ => true) true fuel 44 cs = some x) :
    ∃ c z, VRL (E0 W) c cs ∧ Efu.P false H.empty (fun _ => True) c z ∧ fuSz z + 1 ≤ Rows.uptoBulk x.1 := by
  obtain ⟨y0, y1, y2, n, rfl, _, f0, f1, f2⟩ := Go.Deep.trod_struct3 Tryz.underlying44 h
  match cs, hl with
  | [c0, c1, c2, c3, c4, c5], _ =>
    simp only [cells9, cells38, cells40] at f0 f1 f2
    obtain ⟨v0, s, e0, hv0, hs⟩ := open_str (x := y0) f0
    obtain ⟨v1, a, L, e1, hv1, hL, hb⟩ := open_sorts (x := y1) hW rfl f1
    obtain ⟨c, z, hc, hz, hb2⟩ := open_sort hW n [c2, c3, c4, c5] y2 rfl f2
    obtain rfl : c0 = v0 := (List.cons.inj e0).1
    obtain rfl : c1 = v1 := (List.cons.inj e1).1
    refine ⟨.str s :: a :: c, (s, L, z), .cons hv0 (.cons hv1 hc), ⟨a, c, rfl, hL, hz⟩, ?_⟩
    simp only [fuSz, Rows.uptoBulk, Rows.uptoBulkAll]
    omega

/-- A signature that came in. -/
theorem open_sig {v : Value} {d : DataW H0} {p : List MemPlace} {r : Reach} {base : Nat} (hW : 0 < W.heap.size) (hval : Value.okWide Tryz.prog W r base 26 v) (hd : DataW.Trod enc Tryz.prog W 0 (fun _ => true) true 26 v d p) :
    ∃ (u a f : V) (g : Sg), VR (E0 W) (.agg [u, a, f]) v ∧ SP Est 9 false H.empty (fun _ => True) u g.us ∧ SP Eda 33 false H.empty (fun _ => True) a g.ds ∧ SP Efu 44 false H.empty (fun _ => True) f g.fs ∧ sgSz g ≤ Rows.uptoBulk d := by
  obtain ⟨cs, rfl, hsz⟩ := okWide_struct Tryz.underlying26 hval
  rw [cells26] at hsz
  obtain ⟨v0, v1, v2, rfl⟩ : ∃ v0 v1 v2, cs = #[v0, v1, v2] := by
    obtain ⟨l⟩ := cs
    match l, hsz with
    | [v0, v1, v2], _ => exact ⟨v0, v1, v2, rfl⟩
  obtain ⟨fuel, hf⟩ := hd
  have hf' : DataW.trod enc Tryz.prog W 0 (fun _ => true) true fuel 26 [v0, v1, v2] = some (d, p) := hf
  obtain ⟨y0, y1, y2, n, hx, _, f0, f1, f2⟩ := Go.Deep.trod_struct3 Tryz.underlying26 hf'
  simp only [cells22, cells23, cells24] at f0 f1 f2
  obtain ⟨w0, u, Lu, e0, hu, hSu, hbu⟩ := open_row (x := y0) (ty := 9) Est List.length hW Tryz.underlying22 cells9 (by decide) (fun m cs' y _ _ h' => open_str1 h') f0
  obtain ⟨w1, a, La, e1, ha, hSa, hba⟩ := open_row (x := y1) (ty := 33) Eda daSz hW Tryz.underlying23 cells33 (by decide) (fun m cs' y _ hl' h' => open_data hW hl' h') f1
  obtain ⟨w2, f, Lf, e2, hff, hSf, hbf⟩ := open_row (x := y2) (ty := 44) Efu fuSz hW Tryz.underlying24 cells44 (by decide) (fun m cs' y _ hl' h' => open_fun hW hl' h') f2
  obtain rfl : v0 = w0 := (List.cons.inj e0).1
  obtain rfl : v1 = w1 := (List.cons.inj e1).1
  obtain rfl : v2 = w2 := (List.cons.inj e2).1
  refine ⟨u, a, f, ⟨Lu, La, Lf⟩, .mk_agg (VRL.cons hu (VRL.cons ha (VRL.cons hff VRL.nil))), hSu, hSa, hSf, ?_⟩
  obtain rfl : d = .agg [y0.1, y1.1, y2.1] := (Prod.mk.inj hx).1
  simp only [sgSz, Rows.uptoBulk, Rows.uptoBulkAll]
  omega
end
end Go.Proofs.YtfgghbikbaopjaaGreatDoor
