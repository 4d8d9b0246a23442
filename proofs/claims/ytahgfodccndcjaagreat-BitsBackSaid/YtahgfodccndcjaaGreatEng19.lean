/- The engine, part 19: bytes and strings, copies. -/
import Derived.Test.YtahgfodccndcjaaGreatG3
import Derived.Lib.UnsafeStr
namespace Go.Proofs.YtahgfodccndcjaaGreatEng
open Go
section
variable {P : Program} {G : Nat → Option V} {E : Env} {τ : Tr V} {ρ : Operand → Value} {σ : H} {w : World}

theorem freeze_at {b o n : Nat} {arr : Array Value} {ty lo hi : Nat} (h : w.heap[b]? = some (.cells arr ty (lo, hi))) (hn : n ≠ 0) :
    (w.freeze ⟨b, o, none⟩ n).heap[b]? = some (.cells arr ty (if lo == hi then (o, o + n) else (min lo o, max hi (o + n)))) := by
  unfold World.freeze
  rw [if_neg hn]
  simp [Array.getElem?_modify, h]
theorem freeze_other {b o n : Nat} (b' : Nat) (h : b' ≠ b) : (w.freeze ⟨b, o, none⟩ n).heap[b']? = w.heap[b']? := by
  unfold World.freeze
  split
  · rfl
  · simp only [Array.getElem?_modify]; rw [if_neg (by omega)]
theorem freeze_size (a : Addr) (n : Nat) : (w.freeze a n).heap.size = w.heap.size := by
  unfold World.freeze; split <;> simp
theorem freeze_rest (a : Addr) (n : Nat) : (w.freeze a n).os = w.os ∧ (w.freeze a n).tape = w.tape ∧ (w.freeze a n).output = w.output ∧ (w.freeze a n).drawn = w.drawn := by
  unfold World.freeze; split <;> simp
theorem freeze_push (C : Array Value) (ty o : Nat) : (World.push w (.cells C ty)).freeze ⟨w.heap.size, o, none⟩ 1 = World.push w (.cells C ty (o, o + 1)) := by
  unfold World.freeze World.push
  rw [if_neg (by omega)]
  simp only
  congr 1
  apply Array.ext_getElem?
  intro i
  rw [Array.getElem?_modify, Array.getElem?_push, Array.getElem?_push]
  by_cases hi : i = w.heap.size
  · subst hi; simp
  · rw [if_neg (by omega), if_neg hi, if_neg hi]

theorem doesH_s2b {o : Oper} {s d e : TypeId} {x : Operand} (ho : o.op = .convert s d x) (hs : P.underlying s = some .string) (hd : P.underlying d = some (.slice e)) (he : P.underlying e = some (.int .u8)) (hz : szOf P e = some 1) {a : Arg} (ha : cArg G x = some a)
    (hO : OR G E τ ρ o.op.operands.toList) (h : HRel P E σ w) : DoesH P E σ w ρ o ((HOp.s2b e a).ev τ σ) := by
  rw [ho] at hO
  simp only [HOp.ev]
  split
  · rename_i l hu
    have hx := hO.one (x := x) (by simp [Op.operands]) ha hu
    obtain ⟨ba, hr, hl⟩ := hx.str_inv
    split
    · show DoesH P E σ w ρ o (.ok _ _)
      have hforced : (Question.appendCap ba.size 0 e).forced = false := rfl
      let wd : World := { w with drawn := w.drawn + 1 }
      generalize hcap : (Question.appendCap ba.size 0 e).cut (w.tape w.drawn (Question.appendCap ba.size 0 e)) = cap
      have hch : (choose (Question.appendCap ba.size 0 e)).run P w = .ok cap wd := by rw [run_choose, hforced, ← hcap]; rfl
      have hge : ba.size ≤ cap := by rw [← hcap]; simp only [Question.cut]; omega
      have hdat : ba.data.size = ba.size := rfl
      let C : Array Value := (ba.data.map fun b => Value.int .u8 b.toNat) ++ Array.replicate (cap - ba.size) (.int .u8 0)
      have hCs : C.size = cap := by simp only [C, Array.size_append, Array.size_map, Array.size_replicate, hdat]; omega
      have hlen : l.length = ba.size := by rw [hl, List.length_map, Array.length_toList]; rfl
      have hd1 : HRel P E σ wd := h.drawn _
      obtain ⟨g1, g2⟩ := hd1.alloc (b := .cells e (l.map fun b : Nat => .int .u8 (b : Int)) 0 0 none []) (o := .cells C e (cap, cap + 1)) (p := ⟨w.heap.size, 0, cap, 1⟩) rfl
        ⟨rfl, rfl, rfl, rfl, hz, C, _, rfl, .inl rfl, hCs, by simp [hlen]; exact hge, fun i v hv => by
          rw [List.getElem?_map] at hv
          simp only [Option.map_eq_some_iff] at hv
          obtain ⟨n, hn, rfl⟩ := hv
          rw [hl, List.getElem?_map] at hn
          simp only [Option.map_eq_some_iff] at hn
          obtain ⟨u, hu, rfl⟩ := hn
          refine ⟨.int .u8 (u.toNat : Int), ?_, .int _ _⟩
          have hlt : i < ba.data.size := by
            rcases Nat.lt_or_ge i ba.data.toList.length with h | h
            · simpa using h
            · simp [List.getElem?_eq_none h] at hu
          simp only [C]
          rw [Array.getElem?_append_left (by simpa using hlt), Array.getElem?_map, ← Array.getElem?_toList, hu]; rfl⟩
      suffices hst : StepV P E σ w (convert s d (ρ x)) (.sl σ.nx 0 0 l.length none 1) (σ.new (.cells e (l.map fun b : Nat => .int .u8 (b : Int)) 0 0 none [])) from hst.does (by simp [execOp, ho])
      refine ⟨.slice (some ⟨w.heap.size, 0, none⟩) ba.size cap, World.push wd (.cells C e (cap, cap + 1)), _, ?_, ?_, g1, { le := g2.le, nx := g2.nx, ck := g2.ck, evo := g2.evo, pend := g2.pend, wsz := g2.wsz }⟩
      · have hfp := freeze_push (w := wd) C e cap
        have hsh : (World.push wd (.cells C e)).shape? w.heap.size = some (e, cap) := by
          have := push_at wd (.cells C e)
          simp only [World.shape?]
          rw [show (World.push wd (.cells C e)).heap[w.heap.size]? = some (.cells C e) from this]
          simp [hCs]
        have hns : (newRow e C).run P wd = .ok ⟨w.heap.size, 0, none⟩ (World.push wd (.cells C e)) := by simp [newRow, World.push, wd]; exact ⟨rfl, rfl, rfl⟩
        have hmk : (markStringish ⟨w.heap.size, 0, none⟩).run P (World.push wd (.cells C e)) = .ok () (World.push wd (.cells C e (cap, cap + 1))) := by
          unfold markStringish
          simp only [Sem.run_bind, shape, Sem.run, hsh, Result.andThen_ok, freeze]
          rw [← hfp]
        simp only [convert, hr, run_underlying hs, run_underlying hd, Sem.run_bind, Result.andThen_ok, run_underlying he, Conv.stringToBytes, hch]
        rw [show ((ba.data.map fun b => Value.int .u8 b.toNat) ++ Array.replicate (cap - ba.size) (.int .u8 0)) = C from rfl]
        simp only [hns, Result.andThen_ok, hmk, Sem.run_pure]
      · rw [hlen]
        exact .sl _ _ _ _ none _ cap _ _ (Env.put_self _ _ _ _) (Nat.zero_le _) hge (.inr (by simp [Place.addr])) ⟨rfl, by simp⟩
    · trivial
  · trivial

theorem ptr_cases {v : V} {c : Value} (h : VR E v c) (hv : v = .nilp ∨ (∃ c o, v = .rop c o) ∨ ∃ x u o, v = .ptr x u o) : ∃ a, c = .pointer a := by
  rcases hv with rfl | ⟨_, _, rfl⟩ | ⟨_, _, _, rfl⟩ <;> cases h <;> exact ⟨_, rfl⟩

theorem doesH_ustr {o : Oper} {c : Call} (ho : o.op = .call c) (hc : c.callee = .builtin .unsafeString) {x y : Operand} (hx : c.args.toList = [x, y]) {t e : TypeId} (ht : c.argTypes[0]? = some t) (hu : P.underlying t = some (.pointer e))
    (hcell : P.cellsOf e = 1) (h2s : c.argTypes.size = 2) {a b : Arg} (ha : cArg G x = some a) (hb : cArg G y = some b)
    (hO : OR G E τ ρ o.op.operands.toList) (h : HRel P E σ w) : DoesH P E σ w ρ o ((HOp.ustr e a b).ev τ σ) := by
  rw [ho] at hO
  obtain ⟨consts, he⟩ := exec_builtin (P := P) (ρ := ρ) ho hc w
  have he' : (execOp ρ o).run P w = (do pure (Next.value (← Builtin.unsafeString_ c.argTypes o.type #[ρ x, ρ y])) : Sem Next).run P w := by
    rw [he, arr_of_list2 hx]; simp [builtin]
  obtain ⟨it, hat⟩ : ∃ it, c.argTypes = #[t, it] := by
    refine ⟨c.argTypes[1]'(by omega), ?_⟩
    apply Array.ext
    · simp [h2s]
    · intro i h1 h2
      have : i = 0 ∨ i = 1 := by simp at h2; omega
      rcases this with rfl | rfl
      · rw [Array.getElem?_eq_getElem (by omega)] at ht; simpa using ht
      · simp
  have hzero : ∀ v n, a.ev τ = some v → b.ev τ = some (.int .i64 n) → (v = .nilp ∨ (∃ c o, v = .rop c o) ∨ ∃ x u o, v = .ptr x u o) → n = 0 → DoesH P E σ w ρ o (.ok (.str []) σ) := by
    rintro v n hv hn hp rfl
    have h1 := hO.one (x := x) (mem_call (by simp [hx])) ha hv
    have h2 := (hO.one (x := y) (mem_call (by simp [hx])) hb hn).int_inv
    obtain ⟨ad, h3⟩ := ptr_cases h1 hp
    refine StepV.does ⟨.string .empty, w, E, ?_, .str .empty, h, .refl _ _ _⟩ he'
    rw [h3, h2, hat]
    exact Lib.run_unsafeString_none w _ _ _ ad
  simp only [HOp.ev]
  split
  · rename_i p hp
    split
    · rename_i n hn
      split
      · split
        · rename_i h0; exact hzero _ _ hp hn (.inl rfl) h0
        · trivial
      · split
        · rename_i h0; exact hzero _ _ hp hn (.inr (.inl ⟨_, _, rfl⟩)) h0
        · trivial
      · rename_i xx vv oo
        split
        · rename_i h0; exact hzero _ _ hp hn (.inr (.inr ⟨_, _, _, rfl⟩)) h0
        · rename_i h0
          split
          · rename_i ty cs ver minv fz ex hg
            split
            · rename_i hcond
              obtain ⟨rfl, rfl, rfl, hpos, hlt⟩ := hcond
              split
              · rename_i l hcut
                split
                · rename_i bs hbs
                  have h1 := hO.one (x := x) (mem_call (by simp [hx])) ha hp
                  have h2 := (hO.one (x := y) (mem_call (by simp [hx])) hb hn).int_inv
                  generalize hrx : ρ x = rx at h1
                  cases h1 with
                  | ptr _ _ _ q hq hl =>
                    obtain ⟨hP, hU⟩ := h.cel xx ty cs vv minv (some fz) ex hg vv cs q visib_self hq
                    have hU0 := hU rfl
                    have hshape := hP.shape
                    obtain ⟨hc1, hc2⟩ := toBytes_spec hbs
                    have hln := cut_length hcut
                    have hbl : bs.length = n.toNat := by rw [← hln, hc1]; simp
                    obtain ⟨hcle, _⟩ := cut_some hcut
                    have hlo : q.lo = 0 := by omega
                    let bl : List UInt8 := bs.map UInt8.ofNat
                    have hbll : bl.length = n.toNat := by simp [bl, hbl]
                    have hblm : bl.map (·.toNat) = bs := by
                      apply List.ext_getElem?
                      intro i
                      simp only [bl, List.getElem?_map, Option.map_map]
                      cases hi : bs[i]? with
                      | none => rfl
                      | some m =>
                        have := hc2 m (List.mem_of_getElem? hi)
                        simp; omega
                    have hcells : ∀ (i : Nat) (m : UInt8), bl[i]? = some m → w.cell? ((⟨q.blk, 0, none⟩ : Addr).add i) = some (.int .u8 m.toNat) := by
                      intro i m hi
                      have hi' : i < bl.length := by
                        rcases Nat.lt_or_ge i bl.length with h | h
                        · exact h
                        · simp [List.getElem?_eq_none h] at hi
                      have hli : l[i]? = some (.int .u8 (m.toNat : Int)) := by
                        rw [hc1, ← hblm, List.getElem?_map, List.getElem?_map, hi]; rfl
                      rw [cut_get hcut i (by omega)] at hli
                      obtain ⟨cv, k1, k2⟩ := hP.cell hli (by omega)
                      rw [k2.int_inv] at k1
                      rw [add_mk, show 0 + i = 0 + i - q.lo by omega]
                      exact k1
                    have hP0 := hP
                    obtain ⟨arr, ⟨flo, fhi⟩, p1, p2, p3, p4, p5⟩ := hP0
                    have hn0 : n.toNat ≠ 0 := by omega
                    have hfa := freeze_at (o := 0 - q.lo) p1 hn0
                    have hpp : 0 - q.lo = 0 := by omega
                    let w' := w.freeze ⟨q.blk, 0 - q.lo, none⟩ n.toNat
                    obtain ⟨f1, f2, f3, _⟩ := freeze_rest (w := w) ⟨q.blk, 0 - q.lo, none⟩ n.toNat
                    have hlive := h.live_ver hg
                    obtain ⟨g1, g2⟩ := h.upd (b' := .cells ty cs vv minv (some (max fz (0 + n.toNat))) ex) (g := q.blk) (w' := w') hg ⟨vv, q, hq⟩ (.refl E) (fun _ _ _ => rfl) f1 f2 f3 (by simp only [w', freeze_size]; exact Nat.le_refl _) (fun b _ hb => freeze_other b hb) (h.rng xx vv q hq).1
                      (fun y u r hy hly hr e => h.dis y xx u vv r q hy hly hlive hr hq e)
                      (fun u r hr => by simp only [w', freeze_size]; exact h.rng xx u r hr)
                      ⟨h.vers xx ty cs vv minv (some fz) ex hg, h.exs xx ty cs vv minv (some fz) ex hg, fun u cv r hu hr => by
                        obtain ⟨k1, k2⟩ := h.cel xx ty cs vv minv (some fz) ex hg u cv r hu hr
                        by_cases eb : r.blk = q.blk
                        · obtain ⟨arr', fro', s1, s2, s3, s4, s5⟩ := k1
                          rw [eb, p1] at s1; simp at s1
                          obtain ⟨rfl, rfl⟩ := s1
                          refine ⟨⟨arr, _, by rw [eb]; exact hfa, s2, s3, s4, s5⟩, fun e => ?_⟩
                          subst e
                          rw [hq] at hr; simp at hr; subst hr
                          intro arr2 ty2 lo hi hb
                          rw [hfa] at hb
                          simp only [Option.some.injEq, Obj.cells.injEq] at hb
                          obtain ⟨_, _, hb⟩ := hb
                          have hu0 := hU0 arr ty flo fhi p1
                          by_cases hff : flo = fhi
                          · rw [if_pos (by simp [hff])] at hb; simp at hb; left; omega
                          · rw [if_neg (by simp [hff])] at hb; simp at hb; left; omega
                        · have hsm : w'.heap[r.blk]? = w.heap[r.blk]? := freeze_other _ eb
                          refine ⟨k1.mono (.refl E) hsm, fun e => ?_⟩
                          subst e
                          rw [hq] at hr; simp at hr; subst hr
                          exact absurd rfl eb⟩
                      (fun u t r s => h.same xx u t r s)
                      (by
                        intro u r y t s hlu hr hy hly hs e
                        have hl0 : live σ xx u := by
                          unfold live at hlu ⊢
                          rw [H.get_put, if_pos rfl] at hlu
                          rw [hg]; exact hlu
                        exact h.dis y xx t u s r hy hly hl0 hs hr e.symm)
                    show DoesH P E σ w ρ o (.ok _ _)
                    have hrun := Lib.run_unsafeString_row (P := P) w t it o.type ty hu hcell q.blk q.size hshape bl (by intro e; rw [e] at hbll; simp at hbll; omega) (by omega) (by omega) hcells
                    have hnn : (bl.length : Int) = n := by omega
                    have hoff : 0 - q.lo = 0 := by omega
                    refine StepV.does ⟨.string ⟨bl.toArray⟩, w', E, ?_, ?_, g1, g2⟩ he'
                    · rw [hrx, h2, hat, ← hnn, show q.addr 0 = ⟨q.blk, 0, none⟩ from by simp [Place.addr]]
                      rw [hrun, hbll]; simp only [w', hoff]
                    · have := VR.str (E := E) ⟨bl.toArray⟩
                      rw [← hblm]; simpa using this
                · trivial
              · trivial
            · trivial
          · trivial
      · trivial
    · trivial
  · trivial

theorem doesH_copy {o : Oper} {c : Call} (ho : o.op = .call c) (hc : c.callee = .builtin .copy) {x y : Operand} (hx : c.args.toList = [x, y]) {t e : TypeId} (ht : c.argTypes[0]? = some t) (hu : P.underlying t = some (.slice e)) {s : Nat} (hs : szOf P e = some s)
    {a b : Arg} (ha : cArg G x = some a) (hb : cArg G y = some b) (hO : OR G E τ ρ o.op.operands.toList) (h : HRel P E σ w) : DoesH P E σ w ρ o ((HOp.copy s a b).ev τ σ) := by
  rw [ho] at hO
  obtain ⟨consts, he⟩ := exec_builtin (P := P) (ρ := ρ) ho hc w
  have he' : (execOp ρ o).run P w = (do pure (Next.value (← Builtin.copy_ c.argTypes o.type #[ρ x, ρ y])) : Sem Next).run P w := by
    rw [he, arr_of_list2 hx]; simp [builtin]
  simp only [HOp.ev]
  split
  · rename_i u hu1
    split
    · rename_i v hv1
      split
      · rename_i hone
        cases hr : vcopy σ s u v with
        | none => trivial
        | some r =>
          obtain ⟨rv, σ'⟩ := r
          have h1 := hO.one (x := x) (mem_call (by simp [hx])) ha hu1
          have h2 := hO.one (x := y) (mem_call (by simp [hx])) hb hv1
          refine StepV.does ?_ he'
          unfold vcopy at hr
          split at hr
          · rename_i n m hn hm
            simp only at hr
            split at hr
            · rename_i cs hcs
              have hkm : min m n ≤ m := Nat.min_le_left _ _
              obtain ⟨C, q1, q2, q3⟩ := run_firstCells (P := P) h h2 hm hkm (strOne_spec hone) hcs
              have hlo := lenOf_run (P := P) h2 hm w
              have run : ∀ (base : Option Addr) (dn cap : Nat) w', ρ x = .slice base dn cap → dn = n → (∀ ad, base = some ad → (storeCells ad C.toList).run P w = .ok () w') → (base = none → w' = w) →
                  (Builtin.copy_ c.argTypes o.type #[ρ x, ρ y]).run P w = .ok (goInt ((min m n : Nat) : Int)) w' := by
                intro base dn cap w' e1 e2 e3 e4
                subst e2
                have hmin : Nat.min m dn = min m dn := rfl
                simp only [Builtin.copy_, e1, ht, Sem.run_bind, run_underlying hu, Result.andThen_ok, hlo, run_sizeOf' hs, hmin, q1, List.getElem?_toArray, List.getElem?_cons_zero, List.getElem?_cons_succ]
                cases base with
                | none => rw [e4 rfl]; simp
                | some ad => simp [e3 ad rfl]
              have hnil : cs.length = 0 → C.toList = [] := fun e => List.eq_nil_of_length_eq_zero (by rw [← q2.1]; exact e)
              generalize hrx : ρ x = rx at h1 run
              split at hr
              · simp at hr
              · rename_i xx vv oo ln cp es
                cases h1 with
                | sl _ _ _ _ _ _ ccap p ad hp hl hlen had hcc =>
                  simp [slLen] at hn; subst hn
                  split at hr
                  · rename_i h0
                    simp at hr; obtain ⟨rfl, rfl⟩ := hr
                    exact ⟨goInt ((min m ln : Nat) : Int), w, E, run _ _ _ w rfl rfl (fun ad _ => by rw [hnil h0]; rfl) (fun _ => rfl), .int _ _, h, .refl _ _ _⟩
                  · rename_i h0
                    split at hr
                    · rename_i σ1 hput
                      simp at hr; obtain ⟨rfl, rfl⟩ := hr
                      have hc0 : ¬ ccap = 0 := by
                        intro e
                        have : min m ln = 0 := by omega
                        rw [this] at q3; simp at q3; simp [q3] at h0
                      have hadd := had.resolve_left hc0
                      subst hadd
                      obtain ⟨w', p1, p2, p3⟩ := h.putCells hput hp hl q2
                      exact ⟨goInt ((min m ln : Nat) : Int), w', E, run _ _ _ w' rfl rfl (fun ad e => by simp at e; subst e; exact p1) (fun e => by simp at e), .int _ _, p2, p3⟩
                    · simp at hr
              · split at hr
                · rename_i h0
                  simp at hr; obtain ⟨rfl, rfl⟩ := hr
                  rename_i hns hnsl
                  unfold slLen at hn
                  split at hn
                  · cases h1
                    simp at hn; subst hn
                    exact ⟨goInt ((min m 0 : Nat) : Int), w, E, run _ _ _ w rfl rfl (fun ad e => by simp at e) (fun _ => rfl), .int _ _, h, .refl _ _ _⟩
                  · exact absurd rfl (hnsl _ _ _ _ _ _)
                  · cases h1
                    simp at hn; subst hn
                    exact ⟨goInt ((min m _ : Nat) : Int), w, E, run _ _ _ w rfl rfl (fun ad e => by rw [hnil h0]; rfl) (fun _ => rfl), .int _ _, h, .refl _ _ _⟩
                  · exact absurd rfl (hns _)
                  · simp at hn
                · simp at hr
            · simp at hr
          · simp at hr
      · trivial
    · trivial
  · trivial

end
end Go.Proofs.YtahgfodccndcjaaGreatEng
