/- The engine, part 16: append. -/
/- The engine, part 17: the other operations that act. -/
/- The engine, part 18: maps that are written, strings walked, bytes turned. -/
import Derived.Test.YtahgfodccndcjaaGreatG2
namespace Go.Proofs.YtahgfodccndcjaaGreatEng
open Go
section
variable {P : Program} {G : Nat → Option V} {E : Env} {τ : Tr V} {ρ : Operand → Value} {σ : H} {w : World}

theorem growBy_le (n : Nat) : ∀ r c, Builtin.growBy n r c ≤ max c (n + (n + 768) / 4)
  | 0, c => by simp [Builtin.growBy]; omega
  | r + 1, c => by
    unfold Builtin.growBy
    split
    · omega
    · have := growBy_le n r (c + (c + 768) / 4)
      omega
theorem nextslicecap_le {need cap : Nat} (h : cap < need) : Builtin.nextslicecap need cap ≤ 2 * need + 192 := by
  unfold Builtin.nextslicecap
  split
  · omega
  · split
    · omega
    · have := growBy_le need 4 cap
      omega

theorem nextslicecap_mul {need cap eb : Nat} (h : cap < need) (hn : need * eb ≤ 140737488420864) : Builtin.nextslicecap need cap * eb ≤ 281474976710656 := by
  have hT : (cap + 1) * eb ≤ need * eb := Nat.mul_le_mul_right _ h
  rw [Nat.add_mul, Nat.one_mul] at hT
  unfold Builtin.nextslicecap
  split
  · omega
  · split
    · have h1 : need * eb ≤ 510 * eb := Nat.mul_le_mul_right _ (by omega)
      rw [Nat.mul_assoc]
      omega
    · have h1 := growBy_le need 4 cap
      have h2 : 257 * eb ≤ need * eb := Nat.mul_le_mul_right _ (by omega)
      have h3 : Builtin.growBy need 4 cap * eb ≤ (need + (need + 768) / 4) * eb := Nat.mul_le_mul_right _ (by omega)
      have h4 : 4 * ((need + 768) / 4) * eb ≤ (need + 768) * eb := Nat.mul_le_mul_right _ (by omega)
      rw [Nat.add_mul] at h3 h4
      rw [Nat.mul_assoc] at h4
      omega

/-- What is the same in both forms: the types. -/
structure AppT (P : Program) (argTypes : Array TypeId) (e : TypeId) (s eb : Nat) : Prop where
  ht : ∃ t, argTypes[0]? = some t ∧ P.underlying t = some (.slice e)
  hs : szOf P e = some s
  hb : byOf P e = some eb
  hz : ∃ z, zcOf P e = some z ∧ z.length = s
  hx : ∃ t d, argTypes[1]? = some t ∧ P.underlying t = some d ∧ ((∃ e', d = .slice e') ∨ (d = .string ∧ s = 1))

theorem lenOf_run {b : V} {cb : Value} (hb : VR E b cb) {k : Nat} (hk : slLen b = some k) (w : World) : (Builtin.lenOf cb).run P w = .ok k w := by
  unfold slLen at hk
  split at hk <;> simp at hk
  · cases hb; subst hk; rfl
  · cases hb; subst hk; rfl
  · cases hb; subst hk; rfl
  · obtain ⟨s, rfl, rfl⟩ := hb.str_inv
    subst hk
    simp [Builtin.lenOf]

theorem append_out {argTypes : Array TypeId} {ty e s eb : Nat} (hT : AppT P argTypes e s eb) (h : HRel P E σ w) {b : V} {ca cb : Value} (hb : VR E b cb) {k : Nat} (hk : slLen b = some k)
    {base : Option Addr} {sLen sCap : Nat} (hca : ca = .slice base sLen sCap) (hout : ¬ (sLen + k ≤ sCap)) {oldV newV : List V}
    (hold : ∀ w', HRel P E σ w' → ∃ C : Array Value, (Builtin.firstCells s sLen ca).run P w' = .ok C w' ∧ VRL E oldV C.toList) (ho : oldV.length = sLen * s)
    (hnew : ∀ w', HRel P E σ w' → ∃ C : Array Value, (Builtin.firstCells s k cb).run P w' = .ok C w' ∧ VRL E newV C.toList) (hn : newV.length = k * s)
    (h1 : (sLen + k) * eb ≤ mostBytes) (h2 : sLen + k ≤ mostBytes) :
    ∃ newCap dr, ∃ C : Array Value, (Builtin.append_ argTypes ty #[ca, cb]).run P w = .ok (.slice (some ⟨w.heap.size, 0, none⟩) (sLen + k) newCap) (World.push { w with drawn := dr } (.cells C e)) ∧
      C.size = newCap * s ∧ sLen + k ≤ newCap ∧ ∀ (i : Nat) v, (oldV ++ newV)[i]? = some v → ∃ cv, C[i]? = some cv ∧ VR E v cv := by
  obtain ⟨t, ht, hu⟩ := hT.ht
  obtain ⟨t', d, ht', hu', hd'⟩ := hT.hx
  obtain ⟨z, hz, hzl⟩ := hT.hz
  obtain ⟨inf, hinf, hbb⟩ : ∃ i, P.info? e = some i ∧ i.bytes = eb := by
    have := hT.hb; unfold byOf at this; simpa only [Option.map_eq_some_iff] using this
  have hty : ∀ w', (typeInfo e).run P w' = .ok inf w' := fun w' => by simp [typeInfo, hinf]
  have hmost : mostBytes = 140737488420864 := rfl
  have hmx : IntKind.i64.max = 9223372036854775807 := rfl
  have c1 : ¬ (((sLen + k : Nat) : Int) > IntKind.i64.max ∧ (False ∨ inf.bytes = 0)) := by omega
  have c2 : ¬ (Builtin.nextslicecap (sLen + k) sCap * inf.bytes > 2 ^ 48) := by
    rw [hbb]
    have := nextslicecap_mul (eb := eb) (by omega : sCap < sLen + k) (by omega)
    omega
  let wd : World := { w with drawn := w.drawn + 1 }
  have hd : HRel P E σ wd := h.drawn _
  obtain ⟨C1, r1, v1⟩ := hold wd hd
  obtain ⟨C2, r2, v2⟩ := hnew wd hd
  obtain ⟨zv, hzr, hzc⟩ := zcOf_run (E := E) hz wd
  have hzs : zv.cells.size = s := by have := hzc.1; simp at this; omega
  let newCap := (Question.appendCap (sLen + k) sCap e).cut (w.tape w.drawn (Question.appendCap (sLen + k) sCap e))
  have hcap : sLen + k ≤ newCap := by simp only [newCap, Question.cut]; omega
  let C := C1 ++ C2 ++ Builtin.zeroCells zv.cells (newCap - (sLen + k))
  have s1 : C1.size = sLen * s := by have := v1.1; simp at this; omega
  have s2 : C2.size = k * s := by have := v2.1; simp at this; omega
  refine ⟨newCap, w.drawn + 1, C, ?_, ?_, hcap, ?_⟩
  · have hlen := lenOf_run (P := P) hb hk w
    have hforced : (Question.appendCap (sLen + k) sCap e).forced = false := rfl
    have hch : (choose (Question.appendCap (sLen + k) sCap e)).run P w = .ok newCap wd := by rw [run_choose, hforced]; rfl
    subst hca
    unfold Builtin.append_
    rcases hd' with ⟨e', rfl⟩ | ⟨rfl, _⟩ <;>
    (simp only [ht, ht', Sem.run_bind, run_underlying hu, run_underlying hu', Result.andThen_ok, run_sizeOf' hT.hs, List.getElem?_toArray, List.getElem?_cons_zero, List.getElem?_cons_succ, Sem.run_pure]
     simp only [Bool.false_eq_true, if_false, hlen, Result.andThen_ok, if_neg hout, hty, Sem.run_bind, if_neg c1, if_neg c2, hch, run_askRoom, r1, Bool.not_false, if_true, r2, hzr, Sem.run_pure]
     simp [newRow, World.push, C, wd]
     exact ⟨rfl, rfl, rfl⟩)
  · simp only [C, Array.size_append, s1, s2, Builtin.zeroCells, Array.size_map, Array.size_range, hzs]
    rw [← Nat.add_mul, ← Nat.add_mul]; congr 1; omega
  · intro i v hv
    have hrel := v1.append v2
    obtain ⟨cv, e1, e2⟩ := hrel.get hv
    have hi : i < (C1.toList ++ C2.toList).length := by
      rcases Nat.lt_or_ge i (C1.toList ++ C2.toList).length with h | h
      · exact h
      · simp [List.getElem?_eq_none h] at e1
    refine ⟨cv, ?_, e2⟩
    have : C[i]? = C.toList[i]? := by simp
    rw [this]
    simp only [C, Array.toList_append]
    rw [List.getElem?_append_left hi]; exact e1

/-- A run that gives a value. -/
def StepV (P : Program) (E : Env) (σ : H) (w : World) (m : Sem Value) (v : V) (σ' : H) : Prop :=
  ∃ cv w' E', m.run P w = .ok cv w' ∧ VR E' v cv ∧ HRel P E' σ' w' ∧ Ext E σ w E' σ' w'

/-- A new version of a block, where it lay or elsewhere. -/
theorem HRel.bump (h : HRel P E σ w) {x : Pos} {ty : Nat} {c c' : List V} {ver minv minv' fz : Nat} {ex : List Nat} (hg : σ.get x = some (.cells ty c ver minv (some fz) ex)) {p q : Place} (hp : E.pl x ver = some p)
    {w' : World} {g : Nat} (hq : (q = p ∧ g = p.blk) ∨ (q.blk = w.heap.size ∧ g = w.heap.size)) (hos : w'.os = w.os) (htape : w'.tape = w.tape) (hout : w'.output = w.output) (hsz : w.heap.size ≤ w'.heap.size)
    (hgo : ∀ b, b < w.heap.size → b ≠ g → w'.heap[b]? = w.heap[b]?) (hqs : q.blk < w'.heap.size) (hPl : PlaceOk P (E.put x (ver + 1) q) w' ty c' q) (hUn : Unfrozen w' (some fz) q)
    (hel : minv' = ver + 1 ∨ (minv' = minv ∧ (∃ new, c' = c ++ new) ∧ (g = p.blk → ∃ arr arr' fro, w.heap[p.blk]? = some (.cells arr ty fro) ∧ w'.heap[p.blk]? = some (.cells arr' ty fro) ∧ arr'.size = arr.size ∧ ∀ i, i < c.length - p.lo → arr'[i]? = arr[i]?))) :
    HRel P (E.put x (ver + 1) q) (σ.put x (.cells ty c' (ver + 1) minv' (some fz) (c.length :: ex))) w' ∧ Ext E σ w (E.put x (ver + 1) q) (σ.put x (.cells ty c' (ver + 1) minv' (some fz) (c.length :: ex))) w' := by
  have hnone : E.pl x (ver + 1) = none := h.vers x ty c ver minv (some fz) ex hg _ (Nat.lt_succ_self _)
  have hle : E.le (E.put x (ver + 1) q) := Env.le_put q hnone
  have hlive := h.live_ver hg
  have hpr := h.rng x ver p hp
  have plc : ∀ u r, (E.put x (ver + 1) q).pl x u = some r → (u = ver + 1 ∧ r = q) ∨ (u ≠ ver + 1 ∧ E.pl x u = some r) := by
    intro u r hr
    by_cases e : u = ver + 1
    · subst e; rw [Env.put_self] at hr; simp at hr; exact .inl ⟨rfl, hr.symm⟩
    · rw [Env.put_ne _ _ (by rintro ⟨_, h⟩; exact e h)] at hr; exact .inr ⟨e, hr⟩
  -- elder versions that may still be read
  have eld : ∀ u cv, u ≠ ver + 1 → visib c' (ver + 1) minv' (c.length :: ex) u = some cv → minv' = minv ∧ visib c ver minv ex u = some cv ∧ cv.length ≤ c.length := by
    intro u cv hu hv
    rcases hel with rfl | ⟨rfl, ⟨new, rfl⟩, _⟩
    · exact absurd (visib_only hv).1 hu
    · refine ⟨rfl, ?_⟩
      unfold visib at hv
      rw [if_neg hu] at hv
      split at hv
      · rename_i hlt
        by_cases e : u = ver
        · subst e
          simp at hv
          subst hv
          exact ⟨visib_self, Nat.le_refl _⟩
        · have hidx : ver + 1 - 1 - u = (ver - 1 - u) + 1 := by omega
          rw [hidx, List.getElem?_cons_succ] at hv
          split at hv
          · rename_i e' he
            simp at hv
            have hle' := h.exs x ty c ver _ (some fz) ex hg u e' hlt.1 (by omega) he
            rw [List.take_append_of_le_length hle'] at hv
            subst hv
            refine ⟨?_, by simp; omega⟩
            unfold visib
            rw [if_neg e, if_pos ⟨hlt.1, by omega⟩, he]
          · simp at hv
      · simp at hv
  refine h.upd (g := g) hg ⟨ver, p, hp⟩ hle (fun y u hy => Env.put_ne _ _ (by rintro ⟨h, _⟩; exact hy h)) hos htape hout hsz hgo ?_ ?_ ?_ ?_ ?_ ?_
  · rcases hq with ⟨_, rfl⟩ | ⟨_, rfl⟩
    · exact hpr.1
    · exact h.sz
  · intro y u r hy hly hr
    rcases hq with ⟨_, rfl⟩ | ⟨_, rfl⟩
    · exact h.dis y x u ver r p hy hly hlive hr hp
    · have := (h.rng y u r hr).2; omega
  · intro u r hr
    rcases plc u r hr with ⟨rfl, rfl⟩ | ⟨_, hr'⟩
    · refine ⟨?_, hqs⟩
      rcases hq with ⟨rfl, _⟩ | ⟨e, _⟩
      · exact hpr.1
      · rw [e]; exact h.sz
    · have := h.rng x u r hr'; exact ⟨this.1, by omega⟩
  · refine ⟨fun u hu => ?_, fun u e h1 h2 h3 => ?_, fun u cv r hu hr => ?_⟩
    · rw [Env.put_ne _ _ (by rintro ⟨_, h⟩; omega)]
      exact h.vers x ty c ver minv (some fz) ex hg u (by omega)
    · rcases hel with rfl | ⟨rfl, ⟨new, rfl⟩, _⟩
      · omega
      · by_cases e' : u = ver
        · subst e'; simp at h3; subst h3; simp
        · have hidx : ver + 1 - 1 - u = (ver - 1 - u) + 1 := by omega
          rw [hidx, List.getElem?_cons_succ] at h3
          have := h.exs x ty c ver _ (some fz) ex hg u e h1 (by omega) h3
          simp; omega
    · rcases plc u r hr with ⟨rfl, rfl⟩ | ⟨hu', hr'⟩
      · rw [visib_self] at hu; simp at hu; subst hu
        exact ⟨hPl, fun _ => hUn⟩
      · obtain ⟨rfl, hu2, hlen⟩ := eld u cv hu' hu
        obtain ⟨hP0, _⟩ := h.cel x ty c ver _ (some fz) ex hg u cv r hu2 hr'
        refine ⟨?_, fun e => absurd e hu'⟩
        by_cases eb : r.blk = g
        · rcases hq with ⟨rfl, rfl⟩ | ⟨_, rfl⟩
          · rcases hel with hh | ⟨_, _, hk⟩
            · subst hh; exact absurd (visib_only hu).1 hu'
            obtain ⟨arr, arr', fro, q1, q2, q3, q4⟩ := hk rfl
            have hlo : r.lo = q.lo := h.same x u ver r q hr' hp eb
            obtain ⟨arr0, fro0, r1, r2, r3, r4, r5⟩ := hP0
            rw [eb, q1] at r1; simp at r1; obtain ⟨rfl, rfl⟩ := r1
            refine ⟨arr', fro, by rw [eb]; exact q2, by omega, r3, r4, fun i v hv hi => ?_⟩
            obtain ⟨cv', s1, s2⟩ := r5 i v hv hi
            have hi' : i < cv.length := by
              rcases Nat.lt_or_ge i cv.length with h | h
              · exact h
              · simp [List.getElem?_eq_none h] at hv
            exact ⟨cv', by rw [q4 _ (by omega)]; exact s1, s2.mono hle⟩
          · have := (h.rng x u r hr').2; omega
        · exact hP0.mono hle (hgo r.blk (h.rng x u r hr').2 eb)
  · intro u t r r' hr hr' e
    rcases plc u r hr with ⟨rfl, rfl⟩ | ⟨_, h1⟩ <;> rcases plc t r' hr' with ⟨rfl, rfl⟩ | ⟨_, h2⟩
    · rfl
    · rcases hq with ⟨rfl, _⟩ | ⟨e', _⟩
      · exact h.same x ver t _ r' hp h2 e
      · have := (h.rng x t r' h2).2; omega
    · rcases hq with ⟨rfl, _⟩ | ⟨e', _⟩
      · exact h.same x u ver r _ h1 hp e
      · have := (h.rng x u r h1).2; omega
    · exact h.same x u t r r' h1 h2 e
  · intro u r y t r' hlu hr hy hly hr'
    rcases plc u r hr with ⟨rfl, rfl⟩ | ⟨hu', h1⟩
    · rcases hq with ⟨rfl, _⟩ | ⟨e', _⟩
      · exact fun e => h.dis y x t ver r' _ hy hly hlive hr' hp e.symm
      · have := (h.rng y t r' hr').2; omega
    · have hl0 : live σ x u := by
        unfold live at hlu
        rw [H.get_put, if_pos rfl] at hlu
        simp only [Option.isSome_iff_exists] at hlu
        obtain ⟨cv, hcv⟩ := hlu
        obtain ⟨rfl, hcv', _⟩ := eld u cv hu' hcv
        unfold live; rw [hg]; simp [hcv']
      exact fun e => h.dis y x t u r' r hy hly hl0 hr' h1 e.symm

/-- What append does where there is room. -/
theorem append_in {argTypes : Array TypeId} {ty e s eb : Nat} (hT : AppT P argTypes e s eb) {b : V} {cb : Value} (hb : VR E b cb) {k : Nat} (hk : slLen b = some k)
    {base : Option Addr} {sLen sCap : Nat} (hin : sLen + k ≤ sCap) {C : Array Value} (hC : (Builtin.firstCells s k cb).run P w = .ok C w) {w' : World}
    (hst : ∀ a, base = some a → (storeCells (a.add (sLen * s)) C.toList).run P w = .ok () w') (hn : base = none → w' = w) :
    (Builtin.append_ argTypes ty #[.slice base sLen sCap, cb]).run P w = .ok (.slice base (sLen + k) sCap) w' := by
  obtain ⟨t, ht, hu⟩ := hT.ht
  obtain ⟨t', d, ht', hu', hd'⟩ := hT.hx
  have hlen := lenOf_run (P := P) hb hk w
  unfold Builtin.append_
  rcases hd' with ⟨e', rfl⟩ | ⟨rfl, _⟩ <;>
  (simp only [ht, ht', Sem.run_bind, run_underlying hu, run_underlying hu', Result.andThen_ok, run_sizeOf' hT.hs, List.getElem?_toArray, List.getElem?_cons_zero, List.getElem?_cons_succ, Sem.run_pure]
   simp only [Bool.false_eq_true, if_false, hlen, Result.andThen_ok, if_pos hin, Bool.not_false, if_true, Sem.run_bind, hC]
   cases base with
   | none => rw [hn rfl]; simp
   | some a => simp [hst a rfl])

theorem app_grow {argTypes : Array TypeId} {ty e s eb : Nat} (hT : AppT P argTypes e s eb) (h : HRel P E σ w) {b : V} {cb : Value} (hb : VR E b cb) {k : Nat} (hk : slLen b = some k)
    {base : Option Addr} {sLen sCap : Nat} (hout : ¬ (sLen + k ≤ sCap)) {oldV newV : List V}
    (hold : ∀ w', HRel P E σ w' → ∃ C : Array Value, (Builtin.firstCells s sLen (.slice base sLen sCap)).run P w' = .ok C w' ∧ VRL E oldV C.toList) (ho : oldV.length = sLen * s)
    (hnew : ∀ w', HRel P E σ w' → ∃ C : Array Value, (Builtin.firstCells s k cb).run P w' = .ok C w' ∧ VRL E newV C.toList) (hn : newV.length = k * s)
    {v : V} {σ' : H} (hv : vgrow σ e s eb (sLen + k) (oldV ++ newV) = some (v, σ')) : StepV P E σ w (Builtin.append_ argTypes ty #[.slice base sLen sCap, cb]) v σ' := by
  unfold vgrow at hv
  split at hv
  · rename_i hc
    simp at hv; obtain ⟨rfl, rfl⟩ := hv
    obtain ⟨newCap, dr, C, r1, r2, r3, r4⟩ := append_out (ty := ty) hT h hb hk rfl hout hold ho hnew hn hc.1 hc.2.1
    obtain ⟨g1, g2⟩ := (h.drawn dr).alloc (b := .cells e (oldV ++ newV) 0 0 (some 0) []) (o := .cells C e) (p := ⟨w.heap.size, 0, C.size, s⟩) rfl
      ⟨rfl, rfl, rfl, rfl, hT.hs, C, (0, 0), rfl, .inr rfl, rfl, by simp only [List.length_append, ho, hn, r2, ← Nat.add_mul]; exact Nat.mul_le_mul_right _ r3, r4⟩
    refine ⟨_, _, _, r1, ?_, g1, { le := g2.le, nx := g2.nx, ck := g2.ck, evo := g2.evo, pend := g2.pend, wsz := g2.wsz }⟩
    refine .sl _ _ _ _ _ _ newCap _ _ (Env.put_self _ _ _ _) (Nat.zero_le _) r3 (.inr (by simp [Place.addr])) ?_
    exact ⟨rfl, by simp [r2]⟩
  · simp at hv

theorem slCells_len {esz n m : Nat} {s : V} (hm : slLen s = some m) (_hn : n ≤ m) (h1 : (∃ l, s = .str l) → esz = 1) {c : List V} (hc : slCells σ esz n s = some c) : c.length = n * esz := by
  unfold slCells at hc
  split at hc
  · split at hc
    · rename_i e; simp at hc; subst hc; simp [e]
    · simp at hc
  · split at hc
    · exact cut_length hc
    · simp at hc
  · exact cut_length hc
  · rename_i l
    have := h1 ⟨l, rfl⟩
    split at hc
    · simp at hc; subst hc; simp [this]; omega
    · simp at hc
  · simp at hc

theorem strOne_spec {esz : Nat} {v : V} (h : strOne esz v = true) : (∃ l, v = .str l) → esz = 1 := by
  rintro ⟨l, rfl⟩
  exact Nat.eq_of_beq_eq_true h

theorem app_bump {argTypes : Array TypeId} {ty e s eb : Nat} (hT : AppT P argTypes e s eb) (h : HRel P E σ w) {b : V} {ca cb : Value} (hb : VR E b cb) {k : Nat} (hk : slLen b = some k)
    {x : Pos} {ver o len minv minv' fz : Nat} {c new : List V} {ex : List Nat} (ha : VR E (.sl x ver o len none s) ca) (hg : σ.get x = some (.cells e c ver minv (some fz) ex)) (hk0 : ¬ k = 0) (_hs0 : 0 < s)
    (hb1 : (len + k) * eb ≤ mostBytes) (hb2 : len + k ≤ mostBytes) (hfz : fz ≤ o + len * s) (hle : o + len * s ≤ c.length) (hone : new.all V.one = true) (hnl : new.length = k * s)
    (hN : ∀ w', HRel P E σ w' → ∃ C : Array Value, (Builtin.firstCells s k cb).run P w' = .ok C w' ∧ VRL E new C.toList)
    (hmin : minv' = ver + 1 ∨ (minv' = minv ∧ o + len * s = c.length)) :
    StepV P E σ w (Builtin.append_ argTypes ty #[ca, cb]) (.sl x (ver + 1) o (len + k) none s) (σ.put x (.cells e (c.take (o + len * s) ++ new) (ver + 1) minv' (some fz) (c.length :: ex))) := by
  cases ha with
  | sl _ _ _ _ _ _ ccap p ad hp hl hlen had hcc =>
    obtain ⟨hes, hsz⟩ := hcc
    obtain ⟨hP, hU⟩ := h.cel x e c ver minv (some fz) ex hg ver c p visib_self hp
    have hU := hU rfl
    have htl : (c.take (o + len * s)).length = o + len * s := by simp; omega
    have hmul : (len + k) * s = len * s + k * s := Nat.add_mul _ _ _
    have hgetc : ∀ (i : Nat) v, (c.take (o + len * s) ++ new)[i]? = some v → (i < o + len * s ∧ c[i]? = some v) ∨ (o + len * s ≤ i ∧ i < o + len * s + k * s ∧ new[i - (o + len * s)]? = some v) := by
      intro i v hv
      by_cases hi : i < o + len * s
      · rw [List.getElem?_append_left (by omega), List.getElem?_take, if_pos hi] at hv
        exact .inl ⟨hi, hv⟩
      · rw [List.getElem?_append_right (by omega), htl] at hv
        have : i - (o + len * s) < new.length := by
          rcases Nat.lt_or_ge (i - (o + len * s)) new.length with h | h
          · exact h
          · simp [List.getElem?_eq_none h] at hv
        exact .inr ⟨by omega, by omega, hv⟩
    by_cases hin : len + k ≤ ccap
    · have hadd := had.resolve_left (by omega)
      subst hadd
      obtain ⟨C, hC1, hC2⟩ := hN w h
      have hCl : C.toList.length = k * s := by rw [← hC2.1, hnl]
      obtain ⟨arr, fro, q1, q2, q3, q4, q5⟩ := hP
      have hmul2 := Nat.mul_le_mul_right s hin
      have hrun := run_storeCells_pt P p.blk (o + len * s - p.lo) e fro C.toList 0 arr w q1 (fun j j1 j2 => by
        obtain ⟨flo, fhi⟩ := fro
        have := hU arr e flo fhi q1
        simp only
        omega) (by omega) (all_one hC2 hone)
      simp only [Nat.add_zero] at hrun
      have hseg : o + len * s - p.lo + C.toList.length ≤ arr.toList.length := by simp at hCl ⊢; omega
      generalize harr : (arr.toList.take (o + len * s - p.lo) ++ C.toList ++ arr.toList.drop (o + len * s - p.lo + C.toList.length)).toArray = arr' at hrun
      have hget : ∀ i : Nat, arr'[i]? = if i < o + len * s - p.lo then arr[i]? else if i < o + len * s - p.lo + C.toList.length then C.toList[i - (o + len * s - p.lo)]? else arr[i]? := by
        intro i
        rw [← harr, List.getElem?_toArray, splice_get _ _ _ _ hseg]; simp
      have hasz : arr'.size = arr.size := by rw [← harr]; simp at hseg ⊢; omega
      have hrow := setRow_heap w p.blk arr arr' e fro q1
      have hleE : E.le (E.put x (ver + 1) p) := Env.le_put p (h.vers x e c ver minv (some fz) ex hg _ (Nat.lt_succ_self _))
      obtain ⟨g1, g2⟩ := h.bump (c' := c.take (o + len * s) ++ new) (minv' := minv') hg hp (q := p) (w' := w.setRow p.blk arr') (g := p.blk) (.inl ⟨rfl, rfl⟩) rfl rfl rfl (by rw [setRow_size]; exact Nat.le_refl _)
        (fun b _ hb => setRow_other w p.blk b arr' hb) (by rw [setRow_size]; exact (h.rng x ver p hp).2)
        ⟨arr', fro, hrow, by omega, q3, by simp only [List.length_append, htl, hnl]; omega, fun i v hv hi => by
          rw [hget]
          rcases hgetc i v hv with ⟨h1, h2⟩ | ⟨h1, h2, h3⟩
          · rw [if_pos (by omega)]
            obtain ⟨cv, e1, e2⟩ := q5 i v h2 hi
            exact ⟨cv, e1, e2.mono hleE⟩
          · rw [if_neg (by omega), if_pos (by omega)]
            obtain ⟨cv, e1, e2⟩ := hC2.get h3
            exact ⟨cv, by rw [show i - p.lo - (o + len * s - p.lo) = i - (o + len * s) by omega]; exact e1, e2.mono hleE⟩⟩
        (by
          intro arr2 ty2 lo hi hb
          rw [hrow] at hb
          simp at hb
          exact hU arr e lo hi (by rw [q1, hb.2.2]))
        (by
          rcases hmin with hm | ⟨hm, hend⟩
          · exact .inl hm
          · exact .inr ⟨hm, ⟨new, by rw [hend, List.take_length]⟩, fun _ => ⟨arr, arr', fro, q1, hrow, hasz, fun i hi => by rw [hget, if_pos (by omega)]⟩⟩)
      refine ⟨_, _, _, append_in (ty := ty) hT hb hk hin hC1 (w' := w.setRow p.blk arr') (fun a ha' => ?_) (fun hh => by simp at hh), ?_, g1, g2⟩
      · simp at ha'; subst ha'
        rw [Place.addr_add _ _ hl]; exact hrun
      · exact .sl _ _ _ _ none _ ccap p _ (Env.put_self _ _ _ _) hl hin (.inr rfl) ⟨hes, hsz⟩
    · have hblk : blkCells σ x ver = some c := by simp [blkCells, hg, visib_self]
      have hcut : cut c o (len * s) = some ((c.drop o).take (len * s)) := by unfold cut; rw [if_pos hle]
      have hold : slCells σ s len (.sl x ver o len none s) = some ((c.drop o).take (len * s)) := by simp [slCells, hblk, hcut]
      have ha : VR E (.sl x ver o len none s) (.slice (some ad) len ccap) := .sl _ _ _ _ none _ ccap p _ hp hl hlen had ⟨hes, hsz⟩
      have hO : ∀ w', HRel P E σ w' → ∃ C : Array Value, (Builtin.firstCells s len (.slice (some ad) len ccap)).run P w' = .ok C w' ∧ VRL E ((c.drop o).take (len * s)) C.toList := fun w' h' => by
        obtain ⟨C, q1, q2, _⟩ := run_firstCells (P := P) h' ha (m := len) rfl (Nat.le_refl _) (by rintro ⟨l, h⟩; simp at h) hold
        exact ⟨C, q1, q2⟩
      obtain ⟨newCap, dr, C, r1, r2, r3, r4⟩ := append_out (ty := ty) hT h hb hk rfl hin hO (cut_length hcut) hN hnl hb1 hb2
      have hleE : E.le (E.put x (ver + 1) ⟨w.heap.size, o, C.size, s⟩) := Env.le_put _ (h.vers x e c ver minv (some fz) ex hg _ (Nat.lt_succ_self _))
      have hmul2 := Nat.mul_le_mul_right s r3
      have hat := push_at { w with drawn := dr } (.cells C e)
      obtain ⟨g1, g2⟩ := h.bump (c' := c.take (o + len * s) ++ new) (minv' := minv') hg hp (q := ⟨w.heap.size, o, C.size, s⟩) (w' := World.push { w with drawn := dr } (.cells C e)) (g := w.heap.size) (.inr ⟨rfl, rfl⟩) rfl rfl rfl (by simp [World.push])
        (fun b hb _ => push_lt (w := { w with drawn := dr }) hb) (by simp [World.push])
        ⟨C, (0, 0), hat, rfl, hT.hs, by simp only [List.length_append, htl, hnl, r2]; omega, fun i v hv hi => by
          simp only at hi ⊢
          have hv' : ((c.drop o).take (len * s) ++ new)[i - o]? = some v := by
            have hdl : ((c.drop o).take (len * s)).length = len * s := cut_length hcut
            rcases hgetc i v hv with ⟨h1, h2⟩ | ⟨h1, h2, h3⟩
            · rw [List.getElem?_append_left (by omega), List.getElem?_take, if_pos (by omega), List.getElem?_drop, show o + (i - o) = i by omega]; exact h2
            · rw [List.getElem?_append_right (by omega), hdl, show i - o - len * s = i - (o + len * s) by omega]; exact h3
          obtain ⟨cv, e1, e2⟩ := r4 _ _ hv'
          exact ⟨cv, e1, e2.mono hleE⟩⟩
        (by
          intro arr2 ty2 lo hi hb
          simp only at hb
          rw [show (World.push { w with drawn := dr } (.cells C e)).heap[w.heap.size]? = some (.cells C e) from hat] at hb
          simp at hb
          exact .inr (by omega))
        (by
          rcases hmin with hm | ⟨hm, hend⟩
          · exact .inl hm
          · exact .inr ⟨hm, ⟨new, by rw [hend, List.take_length]⟩, fun e => by have := (h.rng x ver p hp).2; omega⟩)
      refine ⟨_, _, _, r1, ?_, g1, g2⟩
      exact .sl _ _ _ _ none _ newCap ⟨w.heap.size, o, C.size, s⟩ _ (Env.put_self _ _ _ _) (Nat.le_refl _) r3 (.inr (by simp [Place.addr])) ⟨rfl, by simp [r2]⟩

theorem run_append {argTypes : Array TypeId} {ty e s eb : Nat} (hT : AppT P argTypes e s eb) (h : HRel P E σ w) {a b : V} {ca cb : Value} (ha : VR E a ca) (hb : VR E b cb) (h1 : strOne s b = true) {k : Nat} (hk : slLen b = some k)
    {new : List V} (hnew : slCells σ s k b = some new) {v : V} {σ' : H} (hv : vapp σ e s eb k a new = some (v, σ')) : StepV P E σ w (Builtin.append_ argTypes ty #[ca, cb]) v σ' := by
  have hnl := slCells_len hk (Nat.le_refl _) (strOne_spec h1) hnew
  have hN : ∀ w', HRel P E σ w' → ∃ C : Array Value, (Builtin.firstCells s k cb).run P w' = .ok C w' ∧ VRL E new C.toList := fun w' h' => by
    obtain ⟨C, q1, q2, _⟩ := run_firstCells (P := P) h' hb hk (Nat.le_refl _) (strOne_spec h1) hnew
    exact ⟨C, q1, q2⟩
  have hO : ∀ {m : Nat} {old : List V}, slLen a = some m → (∀ l, a ≠ .str l) → slCells σ s m a = some old → ∀ w', HRel P E σ w' → ∃ C : Array Value, (Builtin.firstCells s m ca).run P w' = .ok C w' ∧ VRL E old C.toList := fun hm hs ho w' h' => by
    obtain ⟨C, q1, q2, _⟩ := run_firstCells (P := P) h' ha hm (Nat.le_refl _) (by rintro ⟨l, rfl⟩; exact absurd rfl (hs l)) ho
    exact ⟨C, q1, q2⟩
  obtain ⟨C, hC1, hC2⟩ := hN w h
  -- nothing to append
  have hzero : k = 0 → ∀ base n cap, ca = .slice base n cap → n ≤ cap → v = a → σ' = σ → StepV P E σ w (Builtin.append_ argTypes ty #[ca, cb]) v σ' := by
    rintro rfl base n cap rfl hle rfl rfl
    have hCn : C.toList = [] := by
      have := hC2.1; rw [hnl] at this
      exact List.eq_nil_of_length_eq_zero (by omega)
    exact ⟨_, w, E, append_in (ty := ty) hT hb hk (by omega) hC1 (fun a _ => by rw [hCn]; rfl) (fun _ => rfl), by simpa using ha, h, .refl _ _ _⟩
  unfold vapp at hv
  split at hv
  · cases ha
    split at hv
    · rename_i h0
      simp at hv
      exact hzero h0 none 0 0 rfl (Nat.le_refl _) hv.1.symm hv.2.symm
    · rename_i h0
      exact app_grow hT h hb hk (by omega) (oldV := []) (fun w' _ => ⟨#[], rfl, .nil⟩) (by simp) hN hnl (by simpa using hv)
  · rename_i cc o len cap
    split at hv
    · rename_i h0
      simp at hv
      cases ha with
      | ros _ _ _ _ b0 k0 f ad hb0 hlen had hcc hvv => exact hzero h0 _ _ _ rfl hlen hv.1.symm hv.2.symm
    · split at hv
      · simp at hv
      · rename_i h0 hout
        split at hv
        · rename_i old hold
          have hO' := hO (m := len) (old := old) rfl (by simp) hold
          cases ha with
          | ros _ _ _ _ b0 k0 f ad hb0 hlen had hcc hvv =>
            exact app_grow hT h hb hk hout hO' (cut_length hold) hN hnl hv
        · simp at hv
  · rename_i x ver o len cap es
    split at hv
    · rename_i h0
      simp at hv
      cases ha with
      | sl _ _ _ _ _ _ ccap p ad hp hl hlen had hcc => exact hzero h0 _ _ _ rfl hlen hv.1.symm hv.2.symm
    · rename_i h0
      split at hv
      · rename_i cp
        split at hv
        · rename_i hin
          split at hv
          · rename_i σ1 hput
            simp at hv; obtain ⟨rfl, rfl⟩ := hv
            cases ha with
            | sl _ _ _ _ _ _ ccap p ad hp hl hlen had hcc =>
              simp only at hcc
              subst hcc
              have hadd := had.resolve_left (by omega)
              subst hadd
              obtain ⟨w', q1, q2, q3⟩ := h.putCells hput hp (by omega) hC2
              refine ⟨_, w', E, append_in (ty := ty) hT hb hk hin hC1 (w' := w') (fun a ha' => ?_) (fun hh => by simp at hh), .sl _ _ _ _ (some _) _ _ p _ hp hl hin (.inr rfl) rfl, q2, q3⟩
              simp at ha'; subst ha'
              rw [Place.addr_add _ _ hl]; exact q1
          · simp at hv
        · rename_i hout
          split at hv
          · rename_i old hold
            have hO' := hO (m := len) (old := old) rfl (by simp) hold
            have hol := slCells_len (σ := σ) (s := V.sl x ver o len (some cp) es) (m := len) rfl (Nat.le_refl _) (by rintro ⟨l, h⟩; simp at h) hold
            cases ha with
            | sl _ _ _ _ _ _ ccap p ad hp hl hlen had hcc =>
              simp only at hcc
              subst hcc
              exact app_grow hT h hb hk hout hO' hol hN hnl hv
          · simp at hv
      · split at hv
        · rename_i ty' c ver' minv fz ex hg
          split at hv
          · rename_i hcond
            obtain ⟨rfl, rfl, rfl, hs0, hb1, hb2, hfz, hle, hone⟩ := hcond
            split at hv
            · rename_i hend
              simp at hv; obtain ⟨rfl, rfl⟩ := hv
              have := app_bump (ty := ty) hT h hb hk ha hg h0 hs0 hb1 hb2 hfz hle hone hnl hN (minv' := minv) (.inr ⟨rfl, hend⟩)
              rwa [hend, List.take_length] at this
            · rename_i hend
              split at hv
              · rename_i hfull
                simp at hv; obtain ⟨rfl, rfl⟩ := hv
                cases ha with
                | sl _ _ _ _ _ _ ccap p ad hp hl hlen had hcc =>
                  obtain ⟨hes, hsz⟩ := hcc
                  have hmul : (len + k) * es = len * es + k * es := Nat.add_mul _ _ _
                  obtain ⟨⟨arr, fro, q1, q2, q3, q4, q5⟩, _⟩ := h.cel x e c ver minv (some fz) ex hg ver c p visib_self hp
                  have hin : len + k ≤ ccap := Nat.le_of_mul_le_mul_right (by omega : (len + k) * es ≤ ccap * es) hs0
                  have hadd := had.resolve_left (by omega)
                  subst hadd
                  have hput : putCells σ x ver (o + len * es) new = some (σ.put x (.cells e (c.take (o + len * es) ++ new ++ c.drop (o + (len + k) * es)) ver ver (some fz) ex)) := by
                    unfold putCells; rw [hg]
                    rw [hnl, show o + len * es + k * es = o + (len + k) * es by omega]
                    exact if_pos ⟨rfl, hfz, hfull, hone⟩
                  obtain ⟨w', q1, q2, q3⟩ := h.putCells hput hp (by omega) hC2
                  refine ⟨_, w', E, append_in (ty := ty) hT hb hk hin hC1 (w' := w') (fun a ha' => ?_) (fun hh => by simp at hh), .sl _ _ _ _ none _ _ p _ hp hl hin (.inr rfl) ⟨hes, hsz⟩, by simpa using q2, by simpa using q3⟩
                  simp at ha'; subst ha'
                  rw [Place.addr_add _ _ hl]; exact q1
              · simp at hv; obtain ⟨rfl, rfl⟩ := hv
                exact app_bump (ty := ty) hT h hb hk ha hg h0 hs0 hb1 hb2 hfz hle hone hnl hN (minv' := ver + 1) (.inl rfl)
          · simp at hv
        · simp at hv
  · simp at hv

end
end Go.Proofs.YtahgfodccndcjaaGreatEng

namespace Go.Proofs.YtahgfodccndcjaaGreatEng
open Go
section
variable {P : Program} {G : Nat → Option V} {E : Env} {τ : Tr V} {ρ : Operand → Value} {σ : H} {w : World}

/-- A deferred call, and what stands for it. -/
def DfR (E : Env) (x : Df) (d : Deferred) : Prop := ∃ C : Array Value, d.target = .fn (.func x.1) C ∧ VRL E x.2 (d.args ++ C).toList

theorem DfR.mono {E E' : Env} (h : E.le E') {x : Df} {d : Deferred} (hd : DfR E x d) : DfR E' x d := by
  obtain ⟨C, h1, h2⟩ := hd
  exact ⟨C, h1, h2.mono h⟩

/-- What an operation that acts does. -/
def DoesH (P : Program) (E : Env) (σ : H) (w : World) (ρ : Operand → Value) (o : Oper) : HR → Prop
  | .bad => True
  | .ok v σ' => ∃ nx w' E', (execOp ρ o).run P w = .ok nx w' ∧ ((∃ cv, nx = .value cv ∧ VR E' v cv) ∨ (nx = .skip ∧ v = undefV)) ∧ HRel P E' σ' w' ∧ Ext E σ w E' σ' w'
  | .call f args => ∃ cargs : Array Value, (execOp ρ o).run P w = (callFunc f cargs).run P w ∧ VRL E args cargs.toList
  | .dfr x => ∃ d, (execOp ρ o).run P w = .ok (.defer d) w ∧ DfR E x d
  | .pan v => ∃ cv, (execOp ρ o).run P w = .halt (.panic cv) w ∧ VR E v cv
  | .recover => (execOp ρ o).run P w = .ok .recover w

theorem StepV.does {s : Sem Value} {v : V} {σ' : H} (h : StepV P E σ w s v σ') {o : Oper} (he : (execOp ρ o).run P w = (do pure (Next.value (← s)) : Sem Next).run P w) : DoesH P E σ w ρ o (.ok v σ') := by
  obtain ⟨cv, w', E', h1, h2, h3, h4⟩ := h
  exact ⟨.value cv, w', E', by rw [he]; simp [h1], .inl ⟨cv, rfl, h2⟩, h3, h4⟩

theorem storeCells_nil (a : Addr) (i : Nat) : storeCells a [] i = pure () := rfl

theorem VR.fn_inv {f : Nat} {a b : List V} {c : Value} (h : VR E (.fn f a b) c) : ∃ A B : Array Value, c = .func (.func f) A B ∧ VRL E a A.toList ∧ VRL E b B.toList := by
  cases h with
  | fn _ _ _ A B ha hb hva hvb => exact ⟨A, B, rfl, ⟨by simpa using ha, fun i v cv h1 h2 => hva i v cv h1 (by simpa using h2)⟩, ⟨by simpa using hb, fun i v cv h1 h2 => hvb i v cv h1 (by simpa using h2)⟩⟩

theorem doesH_store {o : Oper} {t : TypeId} {x y : Operand} (ho : o.op = .store t x y) {n : Nat} (hn : szOf P t = some n) {a b : Arg} (ha : cArg G x = some a) (hb : cArg G y = some b)
    (hO : OR G E τ ρ o.op.operands.toList) (h : HRel P E σ w) : DoesH P E σ w ρ o ((HOp.store n a b).ev τ σ) := by
  rw [ho] at hO
  simp only [HOp.ev]
  split
  · rename_i xx ver oo hu
    have hx := hO.one (x := x) (by simp [Op.operands]) ha hu
    split
    · rename_i v hv
      have hy := hO.one (x := y) (by simp [Op.operands]) hb hv
      split
      · rename_i hlen
        split
        · rename_i σ' hput
          generalize hr : ρ x = r at hx
          cases hx with
          | ptr _ _ _ p hp hl =>
            obtain ⟨w', q1, q2, q3⟩ := h.putCells hput hp hl hy.cells
            refine ⟨.skip, w', E, ?_, .inr ⟨rfl, rfl⟩, q2, q3⟩
            have hsz : ¬ ((ρ y).cells.size ≠ n) := by
              have := hy.cells.1; simp at this; omega
            simp [execOp, ho, hr, Instr.storeAt, Instr.sureAddr, storeVar, run_sizeOf' hn, hsz, q1]
        · trivial
      · trivial
    · trivial
  · trivial

theorem doesH_panic {o : Oper} {x : Operand} (ho : o.op = .panic x) {a : Arg} (ha : cArg G x = some a) (hO : OR G E τ ρ o.op.operands.toList) : DoesH P E σ w ρ o ((HOp.panic a).ev τ σ) := by
  rw [ho] at hO
  simp only [HOp.ev]
  split
  · rename_i t v hu
    have hx := hO.one (x := x) (by simp [Op.operands]) ha hu
    refine ⟨ρ x, ?_, hx⟩
    cases hr : ρ x <;> rw [hr] at hx <;> cases hx
    simp [execOp, ho, Instr.panic, hr]
  · trivial

theorem ofValue_run {f : Nat} {A B args : Array Value} : Deferred.ofValue (.func (.func f) A B) args = pure { target := .fn (.func f) B, args := A ++ args } := rfl

theorem doesH_call {o : Oper} {c : Call} (ho : o.op = .call c) {f : Nat} (hc : c.callee = .value (.func f)) {l : List Arg} (hl : cArgs G c.args.toList = some l) (hO : OR G E τ ρ o.op.operands.toList) : DoesH P E σ w ρ o ((HOp.call f l).ev τ σ) := by
  rw [ho] at hO
  simp only [HOp.ev]
  split
  · rename_i vs hv
    have hf := hO.one (x := .func f) (by simp [Op.operands, Call.operands, hc]) rfl (τ := τ) (v := .fn f [] []) rfl
    obtain ⟨A, B, e1, e2, e3⟩ := hf.fn_inv
    have hA : A = #[] := by have := e2.nil_left; exact Array.ext' this
    have hB : B = #[] := by have := e3.nil_left; exact Array.ext' this
    subst hA; subst hB
    have hargs := OR.list (xs := c.args.toList) (hO.sub fun y hy => mem_call hy) hl hv
    refine ⟨c.args.map ρ, ?_, by simpa using hargs⟩
    simp [execOp, ho, resolve, hc, e1, ofValue_run, invoke]
  · trivial

theorem doesH_calld {o : Oper} {c : Call} (ho : o.op = .call c) {x : Operand} (hc : c.callee = .value x) {a : Arg} (ha : cArg G x = some a) {l : List Arg} (hl : cArgs G c.args.toList = some l) (hO : OR G E τ ρ o.op.operands.toList) : DoesH P E σ w ρ o ((HOp.calld a l).ev τ σ) := by
  rw [ho] at hO
  simp only [HOp.ev]
  split
  · rename_i f fa fb hu
    split
    · rename_i vs hv
      have hf := hO.one (x := x) (by simp [Op.operands, Call.operands, hc]) ha hu
      obtain ⟨A, B, e1, e2, e3⟩ := hf.fn_inv
      have hargs := OR.list (xs := c.args.toList) (hO.sub fun y hy => mem_call hy) hl hv
      refine ⟨A ++ c.args.map ρ ++ B, ?_, by simpa using (e2.append hargs).append e3⟩
      simp [execOp, ho, resolve, hc, e1, ofValue_run, invoke]
    · trivial
  · trivial

theorem doesH_dfr {o : Oper} {c : Call} (ho : o.op = .defer c) {x : Operand} (hc : c.callee = .value x) {a : Arg} (ha : cArg G x = some a) {l : List Arg} (hl : cArgs G c.args.toList = some l) (hO : OR G E τ ρ o.op.operands.toList) : DoesH P E σ w ρ o ((HOp.dfr a l).ev τ σ) := by
  rw [ho] at hO
  simp only [HOp.ev]
  split
  · rename_i f fa fb hu
    split
    · rename_i vs hv
      have hf := hO.one (x := x) (by simp [Op.operands, Call.operands, hc]) ha hu
      obtain ⟨A, B, e1, e2, e3⟩ := hf.fn_inv
      have hargs := OR.list (xs := c.args.toList) (hO.sub fun y hy => by simp only [Op.operands, Call.operands, Array.toList_append, List.mem_append]; exact .inr hy) hl hv
      refine ⟨{ target := .fn (.func f) B, args := A ++ c.args.map ρ }, ?_, B, rfl, by simpa using (e2.append hargs).append e3⟩
      simp [execOp, ho, resolve, hc, e1, ofValue_run]
    · trivial
  · trivial

theorem doesH_recover {o : Oper} {c : Call} (ho : o.op = .call c) (hc : c.callee = .builtin .recover) : DoesH P E σ w ρ o ((HOp.recover).ev τ σ) := by
  obtain ⟨consts, he⟩ := exec_builtin (P := P) (ρ := ρ) ho hc w
  show (execOp ρ o).run P w = _
  rw [he]; rfl

theorem doesH_app {o : Oper} {c : Call} (ho : o.op = .call c) (hc : c.callee = .builtin .append) {x y : Operand} (hx : c.args.toList = [x, y]) {e s eb : Nat} (hT : AppT P c.argTypes e s eb) {a b : Arg} (ha : cArg G x = some a) (hb : cArg G y = some b)
    (hO : OR G E τ ρ o.op.operands.toList) (h : HRel P E σ w) : DoesH P E σ w ρ o ((HOp.app e s eb a b).ev τ σ) := by
  rw [ho] at hO
  simp only [HOp.ev]
  split
  · rename_i u hu
    split
    · rename_i v hv
      split
      · rename_i h1
        split
        · rename_i k hk
          split
          · rename_i cs hcs
            have hu' := hO.one (x := x) (mem_call (by simp [hx])) ha hu
            have hv' := hO.one (x := y) (mem_call (by simp [hx])) hb hv
            obtain ⟨consts, he⟩ := exec_builtin (P := P) (ρ := ρ) ho hc w
            cases hr : vapp σ e s eb k u cs with
            | none => trivial
            | some r =>
              obtain ⟨v', σ'⟩ := r
              refine StepV.does (run_append (ty := o.type) hT h hu' hv' h1 hk hcs hr) ?_
              rw [he, arr_of_list2 hx]
              simp [builtin]
          · trivial
        · trivial
      · trivial
    · trivial
  · trivial

end
end Go.Proofs.YtahgfodccndcjaaGreatEng

namespace Go.Proofs.YtahgfodccndcjaaGreatEng
open Go
section
variable {P : Program} {G : Nat → Option V} {E : Env} {τ : Tr V} {ρ : Operand → Value} {σ : H} {w : World}

/-- A block that is no row of cells gets a new content. -/
theorem HRel.putObj (h : HRel P E σ w) {x : Pos} {b b' : Blk} (hg : σ.get x = some b) {p : Place} (hp : E.pl x 0 = some p) {o o' : Obj} (ho : w.heap[p.blk]? = some o) (hc : ∀ c t f, o ≠ .cells c t f)
    (hb : ∀ ty c ver minv fz ex, b ≠ .cells ty c ver minv fz ex) (hb' : ∀ ty c ver minv fz ex, b' ≠ .cells ty c ver minv fz ex)
    (hnew : ∀ w' : World, w'.heap[p.blk]? = some o' → ObjOk E w' p b') :
    ∃ w', (setObj p.blk o').run P w = .ok () w' ∧ HRel P E (σ.put x b') w' ∧ Ext E σ w E (σ.put x b') w' := by
  have hr := h.rng x 0 p hp
  let w' : World := { w with heap := w.heap.setIfInBounds p.blk o' }
  have hat : w'.heap[p.blk]? = some o' := by simp [w', hr.2]
  refine ⟨w', ?_, ?_⟩
  · simp only [setObj, Sem.run, ho]
    cases o with
    | cells c t f => exact absurd rfl (hc c t f)
    | map es clock => rfl
    | chan => rfl
    | stringIter s pos => rfl
    | mapIter a b c d => rfl
    | _ => rfl
  · have hl0 : live σ x 0 := by
      unfold live; rw [hg]
      cases b with
      | cells ty c ver minv fz ex => exact absurd rfl (hb ty c ver minv fz ex)
      | sit => rfl
      | mp => rfl
    refine h.upd (g := p.blk) hg ⟨0, p, hp⟩ (.refl E) (fun _ _ _ => rfl) rfl rfl rfl (by simp [w']) (fun b _ hb => by simp [w']; rw [Array.getElem?_setIfInBounds_ne]; omega) hr.1 ?_ ?_ ?_ ?_ ?_
    · intro y u r hy hly hr' e
      exact h.dis y x u 0 r p hy hly hl0 hr' hp e
    · intro v q hq
      have := h.rng x v q hq
      simp [w']; exact this
    · cases b' with
      | cells ty c ver minv fz ex => exact absurd rfl (hb' ty c ver minv fz ex)
      | sit s pos => intro q hq; rw [hp] at hq; simp at hq; subst hq; exact hnew w' hat
      | mp es => intro q hq; rw [hp] at hq; simp at hq; subst hq; exact hnew w' hat
    · exact fun v u q r => h.same x v u q r
    · intro v q y u r hlu hq hy hly hr' e
      have : v = 0 := by
        unfold live at hlu
        rw [H.get_put, if_pos rfl] at hlu
        cases b' with
        | cells ty c ver minv fz ex => exact absurd rfl (hb' ty c ver minv fz ex)
        | sit => exact hlu
        | mp => exact hlu
      subst this
      exact h.dis x y 0 u q r (fun e => hy e.symm) hl0 hly hq hr' e

theorem dec_eq (s : ByteArray) (i : Nat) : dec (s.data.toList.map (·.toNat)) i = Utf8.decode s i := by
  have hg : ∀ k, (s.data.toList.map (·.toNat)).getD k 0 = (s.get! k).toNat := by
    intro k
    simp only [List.getD_eq_getElem?_getD, List.getElem?_map, ByteArray.get!]
    rw [getElem!_def, ← Array.getElem?_toList]
    cases s.data.toList[k]? <;> rfl
  have hl : (s.data.toList.map (·.toNat)).length = s.size := by rw [List.length_map, Array.length_toList]; rfl
  unfold dec Utf8.decode
  simp only [hg, hl]

theorem doesH_next {o : Oper} {x : Operand} (ho : o.op = .next x true) {a : Arg} (ha : cArg G x = some a) (hO : OR G E τ ρ o.op.operands.toList) (h : HRel P E σ w) : DoesH P E σ w ρ o ((HOp.next a).ev τ σ) := by
  rw [ho] at hO
  simp only [HOp.ev]
  split
  · rename_i xx hu
    have hx := hO.one (x := x) (by simp [Op.operands]) ha hu
    split
    · rename_i s pos hg
      generalize hr : ρ x = r at hx
      cases hx with
      | it _ p hp =>
        obtain ⟨ba, h1, h2⟩ := h.obj xx _ p hg hp
        have hgo := run_getObj (P := P) h1 (by simp)
        have hsz : s.length = ba.size := by rw [h2, List.length_map, Array.length_toList]; rfl
        split
        · rename_i hlt
          obtain ⟨w', q1, q2, q3⟩ := h.putObj (b' := .sit s (pos + (dec s pos).2)) (o' := .stringIter ba (pos + (dec s pos).2)) hg hp h1 (by simp) (by simp) (by simp) (fun w' hw => ⟨ba, hw, h2⟩)
          have hd := dec_eq ba pos
          rw [← h2] at hd
          show DoesH P E σ w ρ o (.ok _ _)
          refine StepV.does (s := Instr.next (ρ x) true o.type) ⟨.tuple #[.bool true, goInt pos, .int .i32 (Utf8.decode ba pos).1], w', E, ?_, ?_, q2, q3⟩ (by simp [execOp, ho])
          · rw [hr]
            simp only [Instr.next, Sem.run_bind, hgo, Result.andThen_ok]
            rw [if_pos (by omega)]
            rw [← hd]
            simp [q1]
          · rw [← hd]
            exact .mk_tup (.cons (.bool _) (.cons (.int .i64 (pos : Int)) (.cons (.int .i32 _) .nil)))
        · rename_i hlt
          refine StepV.does (s := Instr.next (ρ x) true o.type) ⟨.tuple #[.bool false], w, E, ?_, .mk_tup (.cons (.bool _) .nil), h, .refl _ _ _⟩ (by simp [execOp, ho])
          rw [hr]
          simp only [Instr.next, Sem.run_bind, hgo, Result.andThen_ok]
          rw [if_neg (by omega)]
          rfl
    · trivial
  · trivial

theorem beq_self (s : ByteArray) : (s == s) = true := by rw [beq_toListBytes]; simp
theorem plainSame_eq {a b : V} (h : plainSame a b = true) : a = b := by
  unfold plainSame at h
  split at h
  · simp at h; rw [h]
  · split at h
    · rename_i e; simp at h; rw [e, h]
    · simp at h
  · rw [natEq_iff] at h; simp at h; rw [h]
  · simp at h
theorem plainAll_eq : ∀ {a b : List V}, plainAll a b = true → a = b
  | [], [], _ => rfl
  | a :: x, b :: y, h => by
    simp only [plainAll, Bool.and_eq_true] at h
    rw [plainSame_eq h.1, plainAll_eq h.2]
  | [], _ :: _, h => by simp [plainAll] at h
  | _ :: _, [], h => by simp [plainAll] at h
theorem plainEq_eq {a b : V} (h : plainEq a b = true) : a = b := by
  unfold plainEq at h
  split at h
  · rw [plainAll_eq h]
  · exact plainSame_eq h

theorem bytes_inj {s t : ByteArray} (h : s.data.toList.map (·.toNat) = t.data.toList.map (·.toNat)) : s = t := by
  have : s.data.toList = t.data.toList := by
    have h2 := natEq_map s.data.toList t.data.toList
    rw [natEq_iff, h] at h2
    simp at h2; rw [h2]
  cases s; cases t; simp at this; simp [this]

theorem sameBits_plain {v : V} {a b : Value} (ha : VR E v a) (hb : VR E v b) (h : plainSame v v = true) (n : Nat) : Instr.sameBits n a b = true := by
  cases v <;> simp only [plainSame, Bool.false_eq_true] at h
  · rw [ha.bool_inv, hb.bool_inv]; cases n <;> simp [Instr.sameBits]
  · rw [ha.int_inv, hb.int_inv]; cases n <;> simp [Instr.sameBits]
  · obtain ⟨s, rfl, h1⟩ := ha.str_inv
    obtain ⟨t, rfl, h2⟩ := hb.str_inv
    have : s = t := bytes_inj (h1.symm.trans h2)
    subst this
    have hs : (s == s) = true := beq_self s
    cases n <;> simpa [Instr.sameBits] using hs
theorem sameBits_all : ∀ {c : List V} {A B : List Value}, VRL E c A → VRL E c B → plainAll c c = true → ∀ n, ((A.zip B).all fun (x, y) => Instr.sameBits n x y) = true
  | [], A, B, ha, hb, _, n => by rw [ha.nil_left]; rfl
  | v :: c, A, B, ha, hb, h, n => by
    obtain ⟨a, A', rfl, h1, h2⟩ := ha.cons_left
    obtain ⟨b, B', rfl, h3, h4⟩ := hb.cons_left
    simp only [plainAll, Bool.and_eq_true] at h
    simp only [List.zip_cons_cons, List.all_cons, Bool.and_eq_true]
    exact ⟨sameBits_plain h1 h3 h.1 n, sameBits_all h2 h4 h.2 n⟩
theorem sameBits_eq {v : V} {a b : Value} (ha : VR E v a) (hb : VR E v b) (h : plainEq v v = true) : Instr.sameBits 10000 a b = true := by
  by_cases hc : ∃ c, v = .agg c
  · obtain ⟨c, rfl⟩ := hc
    obtain ⟨A, rfl, h1⟩ := ha.agg_inv
    obtain ⟨B, rfl, h2⟩ := hb.agg_inv
    have hs : A.size = B.size := by have := h1.1; have := h2.1; simp at *; omega
    show (A.size == B.size && _) = true
    rw [Bool.and_eq_true]
    exact ⟨by simp [hs], sameBits_all h1 h2 h 9999⟩
  · have : plainSame v v = true := by
      unfold plainEq at h
      split at h
      · exact absurd ⟨_, rfl⟩ hc
      · exact h
    exact sameBits_plain ha hb this _

theorem setK_spec {q : EqT} {k v : V} : ∀ {es es' : List (V × V)}, setK q k v es = some es' → ∀ i, (∃ r, findK q k es = some r) ∧ ((findI q k es i = some none ∧ es' = es ++ [(k, v)]) ∨
    ∃ n u, findI q k es i = some (some (i + n)) ∧ es[n]? = some (k, u) ∧ es' = es.set n (k, v) ∧ plainEq k k = true)
  | [], es', h, i => by simp [setK] at h; subst h; exact ⟨⟨none, rfl⟩, .inl ⟨rfl, rfl⟩⟩
  | (a, u) :: es, es', h, i => by
    simp only [setK] at h
    cases hv : veq q k a with
    | none => simp [hv] at h
    | some b =>
      cases b with
      | true =>
        simp only [hv] at h
        split at h
        · rename_i hp
          simp at h; subst h
          have hka := plainEq_eq hp
          subst hka
          exact ⟨⟨some u, by simp [findK, hv]⟩, .inr ⟨0, u, by simp [findI, hv], rfl, rfl, hp⟩⟩
        · simp at h
      | false =>
        simp only [hv] at h
        split at h
        · rename_i l hl
          simp at h; subst h
          obtain ⟨⟨r, hr⟩, h2⟩ := setK_spec hl (i + 1)
          refine ⟨⟨r, by simp only [findK, hv]; exact hr⟩, ?_⟩
          rcases h2 with ⟨h2, rfl⟩ | ⟨n, u', h2, h3, rfl, h4⟩
          · exact .inl ⟨by simp only [findI, hv]; exact h2, rfl⟩
          · exact .inr ⟨n + 1, u', by simp only [findI, hv]; rw [h2, show i + 1 + n = i + (n + 1) by omega], by simpa using h3, rfl, h4⟩
        · simp at h

theorem VRL.set {c : List V} {C : List Value} (h : VRL E c C) (n : Nat) {v : V} {cv : Value} (hv : VR E v cv) : VRL E (c.set n v) (C.set n cv) := by
  refine ⟨by simp [h.1], fun i u cu h1 h2 => ?_⟩
  rw [List.getElem?_set] at h1 h2
  split at h1
  · rename_i e
    rw [if_pos e] at h2
    split at h1
    · split at h2
      · simp at h1 h2; subst h1; subst h2; exact hv
      · simp at h2
    · simp at h1
  · rename_i e
    rw [if_neg e] at h2
    exact h.2 i u cu h1 h2

theorem doesH_mupd {o : Oper} {t : TypeId} {m i x : Operand} (ho : o.op = .mapUpdate t m i x ∨ o.op = .insert t m i x) {kt e : TypeId} (ht : P.underlying t = some (.map kt e)) {a b c : Arg} (ha : cArg G m = some a) (hb : cArg G i = some b) (hc : cArg G x = some c)
    (hO : OR G E τ ρ o.op.operands.toList) (h : HRel P E σ w) : DoesH P E σ w ρ o ((HOp.mupd (eqKey P kt) a b c).ev τ σ) := by
  have hmem : m ∈ o.op.operands.toList ∧ i ∈ o.op.operands.toList ∧ x ∈ o.op.operands.toList := by rcases ho with ho | ho <;> rw [ho] <;> simp [Op.operands]
  have hex : execOp ρ o = (do Instr.mapUpdate t (ρ m) (ρ i) (ρ x); pure .skip) := by rcases ho with ho | ho <;> simp [execOp, ho]
  simp only [HOp.ev]
  split
  · rename_i xx hu
    split
    · rename_i k hk
      split
      · rename_i v hv
        split
        · rename_i es hg
          split
          · rename_i hok
            split
            · rename_i es' hset
              have hm := hO.one hmem.1 ha hu
              have hi := hO.one hmem.2.1 hb hk
              have hx := hO.one hmem.2.2 hc hv
              generalize hrm : ρ m = rm at hm
              cases hm with
              | map _ p hp =>
                obtain ⟨ents, clock, h1, h2⟩ := h.map_at hg hp
                have hgo := run_getObj (P := P) h1 (by simp)
                have hck := run_checkKey_eq (P := P) false hi hok w
                have hud : ∃ d, P.underlying kt = some d := by
                  cases hd : P.underlying kt with
                  | some d => exact ⟨d, rfl⟩
                  | none =>
                    have : eqKey P kt = .no := by simp [eqKey, hd]
                    rw [this] at hok; simp [keyOk] at hok
                obtain ⟨⟨r, hr⟩, hcase⟩ := setK_spec hset 0
                obtain ⟨r', h3, _, h5⟩ := run_findKey hi h2 hr hud w
                rcases hcase with ⟨q1, rfl⟩ | ⟨n, u, q1, q2, rfl, q4⟩
                · rw [q1] at h5
                  cases r' with
                  | some _ => simp at h5
                  | none =>
                    obtain ⟨w', p1, p2, p3⟩ := h.putObj (b' := .mp (es ++ [(k, v)])) (o' := .map (ents.push { key := ρ i, val := ρ x, born := clock }) (clock + 1)) hg hp h1 (by simp) (by simp) (by simp)
                      (fun w' hw => ⟨_, _, hw, by simpa using h2.1.append (.cons hi .nil), by simpa using h2.2.append (.cons hx .nil)⟩)
                    exact ⟨.skip, w', E, by rw [hex]; simp [hrm, Instr.mapUpdate, run_underlying ht, hgo, hck, h3, p1], .inr ⟨rfl, rfl⟩, p2, p3⟩
                · rw [q1] at h5
                  cases r' with
                  | none => simp at h5
                  | some q =>
                    obtain ⟨j, cv⟩ := q
                    simp at h5; subst h5
                    have hkn : (es.map (·.1))[n]? = some k := by simp [q2]
                    obtain ⟨ck, e1, e2⟩ := h2.1.get hkn
                    simp only [List.getElem?_map, Option.map_eq_some_iff] at e1
                    obtain ⟨en, e1, rfl⟩ := e1
                    have hsb := sameBits_eq e2 hi q4
                    have hstay : (Instr.keyThatStays (((ents[n]?).map (·.key)).getD (ρ i)) (ρ i)).run P w = .ok (ρ i) w := by
                      have : ents[n]? = some en := by simpa using e1
                      rw [this]
                      simp [Instr.keyThatStays, hsb]
                    have hlist : (ents.modify n fun e => { e with key := ρ i, val := ρ x }).toList = ents.toList.set n { en with key := ρ i, val := ρ x } := by
                      apply List.ext_getElem?
                      intro m
                      rw [Array.getElem?_toList, Array.getElem?_modify, List.getElem?_set]
                      by_cases hnm : n = m
                      · subst hnm
                        rw [if_pos rfl, if_pos rfl]
                        have hlt : n < ents.toList.length := by
                          rcases Nat.lt_or_ge n ents.toList.length with h | h
                          · exact h
                          · simp [List.getElem?_eq_none h] at e1
                        rw [if_pos hlt, ← Array.getElem?_toList, e1]; rfl
                      · rw [if_neg hnm, if_neg hnm, Array.getElem?_toList]
                    obtain ⟨w', p1, p2, p3⟩ := h.putObj (b' := .mp (es.set n (k, v))) (o' := .map (ents.modify n fun e => { e with key := ρ i, val := ρ x }) clock) hg hp h1 (by simp) (by simp) (by simp)
                      (fun w' hw => ⟨_, _, hw, by rw [hlist, List.map_set, List.map_set]; exact h2.1.set n hi, by rw [hlist, List.map_set, List.map_set]; exact h2.2.set n hx⟩)
                    exact ⟨.skip, w', E, by rw [hex]; simp [hrm, Instr.mapUpdate, run_underlying ht, hgo, hck, h3, hstay, p1], .inr ⟨rfl, rfl⟩, p2, p3⟩
            · trivial
          · trivial
        · trivial
      · trivial
    · trivial
  · trivial

end
end Go.Proofs.YtahgfodccndcjaaGreatEng

