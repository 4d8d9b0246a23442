/- The engine, part 20: every compiled operation does what the program's does. -/
/- The engine, part 21: activations; one operation of a region. -/
/- The engine, part 22: regions whose order is the text's. -/
/- The engine, part 23: regions whose order is open: the order, what it says. -/
import Derived.Test.YtahgfodccndcjaaGreatEng19
namespace Go.Proofs.YtahgfodccndcjaaGreatEng
open Go
section
variable {P : Program} {G : Nat → Option V} {E : Env} {τ : Tr V} {ρ : Operand → Value} {σ : H} {w : World}

/-- What a compiled operation stands for. -/
def DoesC (P : Program) (E : Env) (σ : H) (w : World) (τ : Tr V) (ρ : Operand → Value) (o : Oper) : COp → Prop
  | .p q => ∀ v, q.ev τ = some v → Does P E w ρ o v
  | .r q => ∀ v, q.ev τ σ = some v → Does P E w ρ o v
  | .a q => ∀ k b, q.ev τ = some (k, b) → DoesA P E w ρ o k b
  | .h q => DoesH P E σ w ρ o (q.ev τ σ)

theorem map_some {α β : Type} {x : Option α} {f : α → β} {y : β} (h : x.map f = some y) : ∃ a, x = some a ∧ f a = y := Option.map_eq_some_iff.1 h

theorem bind_some {α β : Type} {x : Option α} {f : α → Option β} {y : β} (h : x.bind f = some y) : ∃ a, x = some a ∧ f a = some y := Option.bind_eq_some_iff.1 h

theorem cBuiltin_sound {o : Oper} {c : Call} (ho : o.op = .call c) {b : Builtin} (hc : c.callee = .builtin b) {q : COp} (hq : cBuiltin P G b c.argTypes c.args.toList = some q) (hO : OR G E τ ρ o.op.operands.toList) (h : HRel P E σ w) :
    DoesC P E σ w τ ρ o q := by
  unfold cBuiltin at hq
  split at hq
  · rename_i x hx
    split at hq
    · rename_i a ha ht
      obtain ⟨t, ht, hu⟩ := bind_some ht
      simp at hq; subst hq
      exact fun v hv => does_lenS ho hc hx ht hu ha hO hv w
    · rename_i a e ha ht
      obtain ⟨t, ht, hu⟩ := bind_some ht
      simp at hq; subst hq
      exact fun v hv => does_lens ho hc hx ht hu ha hO hv w
    · rename_i a n e ha ht
      obtain ⟨t, ht, hu⟩ := bind_some ht
      simp at hq; subst hq
      exact fun v hv => does_lena ho hc hx ht hu hv w
    · rename_i a k e ha ht
      obtain ⟨t, ht, hu⟩ := bind_some ht
      simp at hq; subst hq
      exact fun v hv => does_lenm ho hc hx ht hu ha hO h hv
    · simp at hq
  · rename_i x y hx
    split at hq
    · rename_i t ht
      split at hq
      · rename_i e hu
        split at hq
        · rename_i s eb z a b e' hs hb hz ha hb' ht'
          obtain ⟨t', ht', hu'⟩ := bind_some ht'
          split at hq
          · rename_i hzl
            simp at hq; subst hq
            exact doesH_app ho hc hx ⟨⟨t, ht, hu⟩, hs, hb, ⟨z, hz, hzl⟩, ⟨t', _, ht', hu', .inl ⟨e', rfl⟩⟩⟩ ha hb' hO h
          · simp at hq
        · rename_i s eb z a b hs hb hz ha hb' ht'
          obtain ⟨t', ht', hu'⟩ := bind_some ht'
          split at hq
          · rename_i hzl
            simp at hq; subst hq
            exact doesH_app ho hc hx ⟨⟨t, ht, hu⟩, hs, hb, ⟨z, hz, hzl.1⟩, ⟨t', _, ht', hu', .inr ⟨rfl, hzl.2⟩⟩⟩ ha hb' hO h
          · simp at hq
        · simp at hq
      · simp at hq
    · simp at hq
  · rename_i x y hx
    split at hq
    · rename_i t ht
      split at hq
      · rename_i e hu
        split at hq
        · rename_i s a b hs ha hb
          simp at hq; subst hq
          exact doesH_copy ho hc hx ht hu hs ha hb hO h
        · simp at hq
      · simp at hq
    · simp at hq
  · rename_i x hx
    split at hq
    · rename_i a e ha ht
      obtain ⟨t, ht, hu⟩ := bind_some ht
      simp at hq; subst hq
      exact fun v hv => does_caps ho hc hx ht hu ha hO hv w
    · simp at hq
  · rename_i x hx
    obtain ⟨a, ha, rfl⟩ := map_some hq
    exact fun v hv => does_sdata ho hc hx ha hO hv w
  · rename_i x y hx
    split at hq
    · rename_i e ht
      obtain ⟨t, ht, hu⟩ := bind_some ht
      split at hq
      · rename_i a b _ ha hb
        split at hq
        · rename_i hcond
          simp at hq; subst hq
          exact doesH_ustr ho hc hx ht hu hcond.1 hcond.2 ha hb hO h
        · simp at hq
      · simp at hq
    · simp at hq
  · obtain ⟨a, ha, rfl⟩ := map_some hq
    exact fun v hv => does_mn ho hc ha hO hv w
  · obtain ⟨a, ha, rfl⟩ := map_some hq
    exact fun v hv => does_mx ho hc ha hO hv w
  · simp at hq; subst hq
    exact doesH_recover (E := E) (σ := σ) (τ := τ) ho hc
  · simp at hq

theorem cOp_sound {o : Oper} {q : COp} (hq : cOp? P G o = some q) (hO : OR G E τ ρ o.op.operands.toList) (h : HRel P E σ w) : DoesC P E σ w τ ρ o q := by
  unfold cOp? at hq
  split at hq
  · rename_i x ho
    obtain ⟨a, ha, rfl⟩ := map_some hq
    exact fun v hv => does_mv (.inl ho) ha hO hv w
  · rename_i x ho
    obtain ⟨a, ha, rfl⟩ := map_some hq
    exact fun v hv => does_mv (.inr ho) ha hO hv w
  · rename_i c x y ho
    split at hq
    · rename_i ac ax ay hc hx hy
      simp at hq; subst hq
      exact fun v hv => does_pick ho hc hx hy hO hv w
    · simp at hq
  · rename_i t ho
    obtain ⟨z, hz, rfl⟩ := map_some hq
    exact fun k b hv => does_alloc ho hz hv
  · rename_i t x ho
    split at hq
    · rename_i n a hn ha
      simp at hq; subst hq
      exact fun k b hv => does_box ho hn ha hO hv
    · simp at hq
  · rename_i t ps ho
    split at hq
    · rename_i z fs hz ht
      split at hq
      · rename_i pl hpl
        obtain ⟨l, hl, rfl⟩ := map_some hq
        exact fun v hv => does_build ho hz (.inl ⟨fs, pl, ht, hpl, hl⟩) hO hv w
      · simp at hq
    · rename_i z n e hz ht
      split at hq
      · rename_i s hs
        obtain ⟨l, hl, rfl⟩ := map_some hq
        exact fun v hv => does_build ho hz (.inr ⟨n, e, s, ht, hs, hl⟩) hO hv w
      · simp at hq
    · simp at hq
  · rename_i t n ps ho
    split at hq
    · rename_i e ht
      split at hq
      · rename_i s z hs hz
        split at hq
        · rename_i hcond
          obtain ⟨l, hl, rfl⟩ := map_some hq
          exact fun k b hv => does_bslice ho ht hs hz hcond.1 hcond.2 hl hO hv
        · simp at hq
      · simp at hq
    · simp at hq
  · rename_i t x ho
    split at hq
    · rename_i ag a hag ha
      simp at hq; subst hq
      exact fun v hv => does_load ho hag ha hO h hv
    · simp at hq
  · rename_i t x y ho
    split at hq
    · rename_i n a b hn ha hb
      simp at hq; subst hq
      exact doesH_store ho hn ha hb hO h
    · simp at hq
  · rename_i x ho
    obtain ⟨a, ha, rfl⟩ := map_some hq
    exact fun v hv => does_nilck ho ha hO hv w
  · rename_i op t x y yt ho
    obtain ⟨po, hpo, rfl⟩ := map_some hq
    obtain ⟨ax, ay, qq, h1, h2, h3, rfl⟩ := cBin_spec hpo
    exact fun v hv => does_bin ho h1 h2 h3 hO hv w
  · rename_i op t x ho
    obtain ⟨a, ha, rfl⟩ := map_some hq
    exact fun v hv => does_un ho ha hO hv w
  · rename_i s d x ho
    split at hq
    · rename_i a k0 k ha hs hd
      simp at hq; subst hq
      exact fun v hv => does_cii ho hs hd ha hO hv w
    · rename_i a ha hs hd
      simp at hq; subst hq
      exact fun v hv => does_css ho hs hd ha hO hv w
    · rename_i a k0 ha hs hd
      simp at hq; subst hq
      exact fun v hv => does_cis ho hs hd ha hO hv w
    · rename_i a e ha hs hd
      split at hq
      · rename_i k hk
        simp at hq; subst hq
        exact fun v hv => does_cpu ho hs hd hk ha hO h hv
      · simp at hq
    · rename_i a e ha hs hd
      split at hq
      · rename_i k hk
        simp at hq; subst hq
        exact fun v hv => does_cup ho hs hd hk ha hO h hv
      · simp at hq
    · rename_i a e ha hs hd
      split at hq
      · rename_i he
        split at hq
        · rename_i hz
          simp at hq; subst hq
          exact doesH_s2b ho hs hd he hz ha hO h
        · simp at hq
      · simp at hq
    · rename_i a e ha hs hd
      split at hq
      · rename_i he
        simp at hq; subst hq
        exact fun v hv => does_b2s ho hs hd he ha hO h hv
      · simp at hq
    · simp at hq
  · rename_i t x ho
    split at hq
    · simp at hq
    · rename_i d a hne ht ha
      simp at hq; subst hq
      exact fun v hv => does_mkif ho ht (fun ms e => by subst e; exact absurd ht (by simpa using hne ms)) ha hO hv w
    · simp at hq
  · rename_i f a b ho
    split at hq
    · rename_i la lb ha hb
      simp at hq; subst hq
      exact fun v hv => does_mkfn ho ha hb hO hv w
    · simp at hq
  · rename_i t ho
    simp at hq; subst hq
    exact fun k b hv => does_mkmap ho hv
  · rename_i t l c ho
    split at hq
    · rename_i e ht
      split at hq
      · rename_i s eb z a b hs hb hz ha hb'
        split at hq
        · rename_i hzl
          simp at hq; subst hq
          exact fun k bl hv => does_mksl ho ht hs hb hz hzl ha hb' hO hv
        · simp at hq
      · simp at hq
    · simp at hq
  · rename_i t x lo hi mx ho
    split at hq
    · rename_i a alo ahi ha hlo hhi hmx ht
      simp at hq; subst hq
      have : mx = none := by
        cases mx with
        | none => rfl
        | some m => simp [cOpt] at hmx
      subst this
      exact fun v hv => does_slis ho ht ha hlo hhi hO hv w
    · rename_i a alo ahi amx e _ ha hlo hhi hmx ht
      obtain ⟨s, hs, rfl⟩ := map_some hq
      exact fun v hv => does_slsl ho ht hs ha hlo hhi hmx hO hv w
    · rename_i a alo ahi amx n e ha hlo hhi hmx ht
      obtain ⟨s, hs, rfl⟩ := map_some hq
      exact fun v hv => does_slar ho (.inl ht) hs ha hlo hhi hmx hO hv w
    · rename_i a alo ahi amx arr ha hlo hhi hmx ht
      split at hq
      · rename_i n e hu
        obtain ⟨s, hs, rfl⟩ := map_some hq
        exact fun v hv => does_slar ho (.inr ⟨arr, ht, hu⟩) hs ha hlo hhi hmx hO hv w
      · simp at hq
    · simp at hq
  · rename_i s x f ho
    split at hq
    · rename_i fs a hs ha
      split at hq
      · rename_i fd hf
        split at hq
        · rename_i n hn
          simp at hq; subst hq
          exact fun v hv => does_faddr ho hs hf hn ha hO hv w
        · simp at hq
      · simp at hq
    · simp at hq
  · rename_i t x f ho
    split at hq
    · rename_i fs a ht ha
      split at hq
      · rename_i fd hf
        obtain ⟨ag, hag, rfl⟩ := map_some hq
        exact fun v hv => does_field ho ht hf hag ha hO hv w
      · simp at hq
    · simp at hq
  · rename_i t x i ho
    split at hq
    · rename_i e a b ht ha hb
      obtain ⟨s, hs, rfl⟩ := map_some hq
      exact fun v hv => does_iaddr ho ht hs ha hb hO hv w
    · rename_i n e a b ht ha hb
      obtain ⟨s, hs, rfl⟩ := map_some hq
      exact fun v hv => does_iarr ho ht hs ha hb hO hv w
    · simp at hq
  · rename_i t x i ho
    split at hq
    · rename_i a b ht ha hb
      simp at hq; subst hq
      exact fun v hv => does_idxs ho ht ha hb hO hv w
    · rename_i n e a b ht ha hb
      split at hq
      · rename_i s ag hs hag
        simp at hq; subst hq
        exact fun v hv => does_idxa ho ht hs hag ha hb hO hv w
      · simp at hq
    · simp at hq
  · rename_i t x i ok ho
    split at hq
    · rename_i k e a b ht ha hb
      obtain ⟨z, hz, rfl⟩ := map_some hq
      exact fun v hv => does_lookup ho ht hz ha hb hO h hv
    · simp at hq
  · rename_i t m k v ho
    split at hq
    · rename_i kt e a b c ht ha hb hc
      simp at hq; subst hq
      exact doesH_mupd (.inl ho) ht ha hb hc hO h
    · simp at hq
  · rename_i t m k v ho
    split at hq
    · rename_i kt e a b c ht ha hb hc
      simp at hq; subst hq
      exact doesH_mupd (.inr ho) ht ha hb hc hO h
    · simp at hq
  · rename_i t x ho
    split at hq
    · rename_i a ht ha
      simp at hq; subst hq
      exact fun k b hv => does_range ho ht ha hO hv
    · simp at hq
  · rename_i x s ho
    split at hq
    · rename_i hs
      obtain ⟨a, ha, rfl⟩ := map_some hq
      rw [hs] at ho
      exact doesH_next ho ha hO h
    · simp at hq
  · rename_i x xt t ok ho
    split at hq
    · simp at hq
    · rename_i d a z hne ht ha hz
      simp at hq; subst hq
      exact fun v hv => does_tass ho ht (fun ms e => by subst e; exact absurd ht (by simpa using hne ms)) hz ha hO hv w
    · simp at hq
  · rename_i x i ho
    obtain ⟨a, ha, rfl⟩ := map_some hq
    exact fun v hv => does_extract ho ha hO hv w
  · rename_i c ho
    split at hq
    · rename_i f hc
      obtain ⟨l, hl, rfl⟩ := map_some hq
      exact doesH_call ho hc hl hO
    · rename_i x hne hc
      split at hq
      · rename_i a l ha hl
        simp at hq; subst hq
        exact doesH_calld ho hc ha hl hO
      · simp at hq
    · rename_i b hc
      exact cBuiltin_sound ho hc hq hO h
    · simp at hq
  · rename_i c ho
    split at hq
    · rename_i x hc
      split at hq
      · rename_i a l ha hl
        simp at hq; subst hq
        exact doesH_dfr ho hc ha hl hO
      · simp at hq
    · simp at hq
  · rename_i x ho
    obtain ⟨a, ha, rfl⟩ := map_some hq
    exact doesH_panic ho ha hO
  · simp at hq

theorem cOp_sound' {o : Oper} (hO : OR G E τ ρ o.op.operands.toList) (h : HRel P E σ w) : DoesC P E σ w τ ρ o (cOp P G o) := by
  unfold cOp
  split
  · rename_i c hc; exact cOp_sound hc hO h
  · intro v hv; simp [POp.ev] at hv

end
end Go.Proofs.YtahgfodccndcjaaGreatEng

namespace Go.Proofs.YtahgfodccndcjaaGreatEng
open Go

/-- What stands for the globals is right. -/
def GOk (G : Nat → Option V) (w0 : World) : Prop := ∀ g v, G g = some v → ∀ E : Env, E.w0 = w0 → VR E v (.pointer (some ⟨g, 0, none⟩))

/-- What a call comes to. -/
def CallsTo (P : Program) (f : Nat) (args : Array Value) (w : World) (Rv Rp : Value → World → Prop) : Prop :=
  ∃ nx w1, (callFunc f args).run P w = .ok nx w1 ∧ match nx with
    | .value cv => Rv cv w1
    | .enter g a => Calls P g a w1 fun
      | .returned v, w' => Rv v w'
      | .panicked ch, w' => ∃ v, ch = [{ v, recovered := false }] ∧ Rp v w'
      | .outgrown, _ => False
    | _ => False

/-- The calls that the machine makes are the program's. -/
def CallOk (P : Program) (w0 : World) (cf : CallF) : Prop := ∀ f args σ E w (cargs : Array Value), E.w0 = w0 → HRel P E σ w → VRL E args cargs.toList →
  match cf f args σ with
  | .bad => True
  | .ret v σ' => CallsTo P f cargs w (fun cv w' => ∃ E', VR E' v cv ∧ HRel P E' σ' w' ∧ Ext E σ w E' σ' w') (fun _ _ => False)
  | .pan v σ' => CallsTo P f cargs w (fun _ _ => False) (fun cv w' => ∃ E', VR E' v cv ∧ HRel P E' σ' w' ∧ Ext E σ w E' σ' w')

/-- The deferred calls. -/
inductive DfL (E : Env) : List Df → List Deferred → Prop
  | nil : DfL E [] []
  | cons {x d xs ds} (h : DfR E x d) (hr : DfL E xs ds) : DfL E (x :: xs) (d :: ds)
theorem DfL.mono {E E' : Env} (h : E.le E') {x : List Df} {d : List Deferred} (hd : DfL E x d) : DfL E' x d := by
  induction hd with
  | nil => exact .nil
  | cons h1 _ ih => exact .cons (h1.mono h) ih

/-- An activation's temporaries and deferred calls. -/
structure AR (E : Env) (n : Nat) (τ : Tr V) (ds : List Df) (a : Act) : Prop where
  sz : n ≤ a.tmps.size
  val : ∀ t v, τ.get (Pos.ofNat t) = some v → VR E v (a.tmps.getD t undef)
  df : DfL E ds a.defers

theorem put_getD (a : Act) (d : Option Tmp) (v : Value) (t : Nat) : (a.put d v).tmps.getD t undef = if d = some t ∧ t < a.tmps.size then v else a.tmps.getD t undef := by
  cases d with
  | none => simp [Act.put]
  | some d =>
    simp only [Act.put, Array.getD_eq_getD_getElem?, Array.getElem?_setIfInBounds]
    by_cases h : d = t
    · subst h
      by_cases h2 : d < a.tmps.size
      · simp [h2]
      · simp [h2]
    · simp [h]
theorem put_size (a : Act) (d : Option Tmp) (v : Value) : (a.put d v).tmps.size = a.tmps.size := by cases d <;> simp [Act.put]
theorem put_defers (a : Act) (d : Option Tmp) (v : Value) : (a.put d v).defers = a.defers := by cases d <;> rfl

theorem putD_get {n : Nat} {τ τ' : Tr V} {d : Option Nat} {v : V} (h : putD n τ (d.map Pos.ofNat) v = some τ') (t : Nat) : τ'.get (Pos.ofNat t) = if d = some t then some v else τ.get (Pos.ofNat t) := by
  cases d with
  | none => simp [putD] at h; subst h; simp
  | some d =>
    simp only [Option.map_some, putD] at h
    split at h
    · simp at h; subst h
      rw [Tr.get_set]
      by_cases e : d = t
      · subst e; simp
      · rw [if_neg (fun e' => e (Pos.ofNat_inj e').symm), if_neg (by simpa using e)]
    · simp at h
theorem putD_lt {n : Nat} {τ τ' : Tr V} {d : Nat} {v : V} (h : putD n τ (some (Pos.ofNat d)) v = some τ') : d < n := by
  simp only [putD] at h
  split at h
  · rename_i h'; rw [Pos.toNat_ofNat] at h'; omega
  · simp at h

theorem AR.put {E : Env} {n : Nat} {τ τ' : Tr V} {ds : List Df} {a : Act} (h : AR E n τ ds a) {d : Option Nat} {v : V} (hp : putD n τ (d.map Pos.ofNat) v = some τ') {cv : Value} (hv : VR E v cv) : AR E n τ' ds (a.put d cv) where
  sz := by rw [put_size]; exact h.sz
  val := fun t u hu => by
    rw [putD_get hp] at hu
    rw [put_getD]
    by_cases e : d = some t
    · rw [if_pos e] at hu
      simp at hu; subst hu
      subst e
      have := putD_lt hp
      have := h.sz
      rw [if_pos ⟨rfl, by omega⟩]; exact hv
    · rw [if_neg e] at hu
      rw [if_neg (fun h => e h.1)]
      exact h.val t u hu
  df := by rw [put_defers]; exact h.df
theorem AR.mono {E E' : Env} (hE : E.le E') {n : Nat} {τ : Tr V} {ds : List Df} {a : Act} (h : AR E n τ ds a) : AR E' n τ ds a :=
  ⟨h.sz, fun t v hv => (h.val t v hv).mono hE, h.df.mono hE⟩

section
variable {P : Program} {G : Nat → Option V} {E : Env} {τ : Tr V} {σ : H} {w : World} {ops : Array Oper} {a : Act} {w0 : World}

/-- The temporaries that an operation looks at. -/
def TR (E : Env) (τ : Tr V) (a : Act) (ts : List Nat) : Prop := ∀ t ∈ ts, ∀ v, τ.get (Pos.ofNat t) = some v → VR E v (a.tmps.getD t undef)

theorem TR_OR (hG : GOk G w0) (h0 : E.w0 = w0) {xs : List Operand} (h : ∀ t, .tmp t ∈ xs → ∀ v, τ.get (Pos.ofNat t) = some v → VR E v (a.tmps.getD t undef)) : OR G E τ a.eval xs := by
  intro x hx b hb v hv
  cases x with
  | tmp t =>
    simp [cArg] at hb; subst hb
    exact h t hx v hv
  | const c =>
    simp only [cArg] at hb
    obtain ⟨u, hu, rfl⟩ := map_some hb
    simp [Arg.ev] at hv; subst hv
    exact ofVal_VR hu
  | «global» g =>
    simp only [cArg] at hb
    obtain ⟨u, hu, rfl⟩ := map_some hb
    simp [Arg.ev] at hv; subst hv
    exact hG g u hu E h0
  | func f =>
    simp [cArg] at hb; subst hb
    simp [Arg.ev] at hv; subst hv
    exact .fn f [] [] #[] #[] rfl rfl (fun i v cv h => by simp at h) (fun i v cv h => by simp at h)

theorem TR_op (hG : GOk G w0) (h0 : E.w0 = w0) {o : Oper} (h : TR E τ a (looks ops o)) : OR G E τ a.eval o.op.operands.toList :=
  TR_OR hG h0 fun t ht v hv => h t (by
    unfold looks
    refine List.mem_append_left _ ?_
    rw [List.mem_filterMap]
    exact ⟨.tmp t, ht, rfl⟩) v hv

theorem cOper_cases (P : Program) (G : Nat → Option V) (ops : Array Oper) (o : Oper) : cOper P G ops o = { dst := none, op := .p .bad, gd := none } ∨ ∃ g, cGuard ops o.guard = some g ∧ cOper P G ops o = { dst := o.dst.map Pos.ofNat, op := cOp P G o, gd := g } := by
  unfold cOper
  split
  · rename_i g hg; exact .inr ⟨g, hg, rfl⟩
  · exact .inl rfl

theorem guard_wanted {o : Oper} (h : TR E τ a (looks ops o)) {g : Option (Pos × Bool)} (hg : cGuard ops o.guard = some g) {b : Bool} (hb : guardV τ g = some b) : Region.wanted o (yielded ops a.tmps) = b := by
  unfold cGuard at hg
  split at hg
  · rename_i hgd
    simp at hg; subst hg
    simp only [guardV] at hb
    simp at hb; subst hb
    simp [Region.wanted, hgd]
  · rename_i j want hgd
    split at hg
    · rename_i d hd
      simp at hg; subst hg
      simp only [guardV] at hb
      have hlook : d ∈ looks ops o := by unfold looks; rw [hgd]; simp [hd]
      have hy : yielded ops a.tmps j = match a.tmps[d]? with | some (.bool b) => some b | _ => none := by
        unfold yielded; rw [hd]; rfl
      split at hb
      · rename_i bb hbb
        simp at hb; subst hb
        have hv := (h d hlook _ hbb).bool_inv
        have : a.tmps[d]? = some (.bool bb) := by
          rw [Array.getD_eq_getD_getElem?] at hv
          cases hx : a.tmps[d]? with
          | none => rw [hx] at hv; simp [undef] at hv
          | some x => rw [hx] at hv; simp at hv; rw [hv]
        simp only [Region.wanted, hgd, hy, this]
        simp
      · rename_i hbb
        simp at hb; subst hb
        have hv := h d hlook _ hbb
        obtain ⟨C, hC, hC2⟩ := hv.tup_inv
        have : (match a.tmps[d]? with | some (.bool b) => some b | _ => none) = none := by
          rw [Array.getD_eq_getD_getElem?] at hC
          cases hx : a.tmps[d]? with
          | none => rfl
          | some x => rw [hx] at hC; simp at hC; rw [hC]
        simp only [Region.wanted, hgd, hy, this]
        simp
      · simp at hb
    · simp at hg

variable {Q : Exit → Act → World → Prop} {K : Act → World → Prop} {i : Nat} {o : Oper}

theorem upon_val {v : V} (h : Does P E w a.eval o v) (hK : ∀ cv, VR E v cv → K (a.put o.dst cv) w) : o.upon P a K Q ((execOp a.eval o).run P w) := by
  obtain ⟨cv, h1, h2⟩ := h
  rw [h1]; exact hK cv h2
theorem upon_A {k : AK} {b : Blk} (h : DoesA P E w a.eval o k b)
    (hK : ∀ cv ob p, p.blk = w.heap.size → Fresh P E ob p b → (∀ E' x, E'.pl x 0 = some p → VR E' (k.val x) cv) → K (a.put o.dst cv) (World.push w ob)) : o.upon P a K Q ((execOp a.eval o).run P w) := by
  obtain ⟨cv, ob, p, h1, h2, h3, h4⟩ := h
  rw [h1]; exact hK cv ob p h2 h3 h4
theorem upon_ok {v : V} {σ' : H} (h : DoesH P E σ w a.eval o (.ok v σ')) (hK : ∀ cv w' E', VR E' v cv → HRel P E' σ' w' → Ext E σ w E' σ' w' → K (a.put o.dst cv) w') : o.upon P a K Q ((execOp a.eval o).run P w) := by
  obtain ⟨nx, w', E', h1, h2, h3, h4⟩ := h
  rw [h1]
  rcases h2 with ⟨cv, rfl, h5⟩ | ⟨rfl, rfl⟩
  · exact hK cv w' E' h5 h3 h4
  · exact hK undef w' E' (VR.undef _) h3 h4
theorem upon_dfr {x : Df} (h : DoesH P E σ w a.eval o (.dfr x)) (hK : ∀ d, DfR E x d → K ({ a with defers := d :: a.defers }.put o.dst undef) w) : o.upon P a K Q ((execOp a.eval o).run P w) := by
  obtain ⟨d, h1, h2⟩ := h
  rw [h1]; exact hK d h2
theorem upon_pan {v : V} (h : DoesH P E σ w a.eval o (.pan v)) (hK : ∀ cv, VR E v cv → Q (.panic [{ v := cv, recovered := false }]) a w) : o.upon P a K Q ((execOp a.eval o).run P w) := by
  obtain ⟨cv, h1, h2⟩ := h
  rw [h1]; exact hK cv h2
theorem upon_callTo {f : Nat} {cargs : Array Value} (he : (execOp a.eval o).run P w = (callFunc f cargs).run P w) {Rv Rp : Value → World → Prop} (hc : CallsTo P f cargs w Rv Rp)
    (hv : ∀ cv w', Rv cv w' → K (a.put o.dst cv) w') (hp : ∀ cv w', Rp cv w' → Q (.panic [{ v := cv, recovered := false }]) a w') : o.upon P a K Q ((execOp a.eval o).run P w) := by
  obtain ⟨nx, w1, h1, h2⟩ := hc
  rw [he, h1]
  cases nx with
  | value cv => exact hv cv w1 h2
  | enter g args =>
    refine Calls.mono h2 fun e w' h' => ?_
    cases e with
    | returned v => exact hv v w' h'
    | panicked ch => obtain ⟨v, rfl, h''⟩ := h'; exact hp v w' h''
    | outgrown => exact h'.elim
  | _ => exact h2.elim

end
end Go.Proofs.YtahgfodccndcjaaGreatEng

namespace Go.Proofs.YtahgfodccndcjaaGreatEng
open Go

/-- All that a step leaves is as Q wants it. -/
def Sat (P : Program) (n : Nat) (E : Env) (σ : H) (w : World) (r : R) (Q : Exit → Act → World → Prop) : Prop :=
  match r with
  | .bad => False
  | .nx τ' σ' d' => ∀ a' w' E', AR E' n τ' d' a' → HRel P E' σ' w' → Ext E σ w E' σ' w' → Q .normal a' w'
  | .ex id τ' σ' d' => ∀ a' w' E', AR E' n τ' d' a' → HRel P E' σ' w' → Ext E σ w E' σ' w' → Q (.exit id) a' w'
  | .rt τ' σ' d' => ∀ a' w' E', AR E' n τ' d' a' → HRel P E' σ' w' → Ext E σ w E' σ' w' → Q .ret a' w'
  | .pn v τ' σ' d' => ∀ a' w' E' cv, AR E' n τ' d' a' → HRel P E' σ' w' → Ext E σ w E' σ' w' → VR E' v cv → Q (.panic [{ v := cv, recovered := false }]) a' w'

theorem Sat.mono {P : Program} {n : Nat} {E E1 : Env} {σ σ1 : H} {w w1 : World} {r : R} {Q : Exit → Act → World → Prop} (h : Sat P n E σ w r Q) (hE : Ext E σ w E1 σ1 w1) : Sat P n E1 σ1 w1 r Q := by
  cases r with
  | bad => exact h
  | nx => exact fun a' w' E' h1 h2 h3 => h a' w' E' h1 h2 (hE.trans h3)
  | ex => exact fun a' w' E' h1 h2 h3 => h a' w' E' h1 h2 (hE.trans h3)
  | rt => exact fun a' w' E' h1 h2 h3 => h a' w' E' h1 h2 (hE.trans h3)
  | pn => exact fun a' w' E' cv h1 h2 h3 => h a' w' E' cv h1 h2 (hE.trans h3)

section
variable {P : Program} {G : Nat → Option V} {E : Env} {n : Nat} {τ : Tr V} {σ : H} {d : List Df} {w : World} {ops : Array Oper} {a : Act} {w0 : World} {cf : CallF}

theorem le_w0 {E E' : Env} (h : E.le E') (h0 : E.w0 = w0) : E'.w0 = w0 := h.1.trans h0

/-- One operation. -/
theorem step_upon (hcf : CallOk P w0 cf) (hG : GOk G w0) (h0 : E.w0 = w0) {o : Oper} (hAR : AR E n τ d a) (h : HRel P E σ w) {Q : Exit → Act → World → Prop} {K : Act → World → Prop}
    (hs : Sat P n E σ w (stepOp cf n (cOper P G ops o) τ σ d) (Exit.then K Q)) :
    if Region.wanted o (yielded ops a.tmps) then o.upon P a K Q ((execOp a.eval o).run P w) else K (a.put o.dst undef) w := by
  have hT : TR E τ a (looks ops o) := fun t _ => hAR.val t
  rcases cOper_cases P G ops o with hb | ⟨g, hg, hb⟩
  · rw [hb] at hs; simp [stepOp, guardV, POp.ev, Sat] at hs
  · rw [hb] at hs
    have hsound := cOp_sound' (o := o) (TR_op hG h0 hT) h
    unfold stepOp at hs
    simp only at hs
    split at hs
    · exact hs.elim
    · rename_i hgv
      rw [guard_wanted hT hg hgv]
      simp only [Bool.false_eq_true, if_false]
      split at hs
      · rename_i τ' hτ
        exact hs _ _ _ (hAR.put hτ (VR.undef E)) h (.refl _ _ _)
      · exact hs.elim
    · rename_i hgv
      rw [guard_wanted hT hg hgv]
      simp only [if_true]
      split at hs
      · rename_i q hq
        rw [hq] at hsound
        split at hs
        · rename_i v hv
          split at hs
          · rename_i τ' hτ
            exact upon_val (hsound v hv) fun cv hcv => hs _ _ _ (hAR.put hτ hcv) h (.refl _ _ _)
          · exact hs.elim
        · exact hs.elim
      · rename_i q hq
        rw [hq] at hsound
        split at hs
        · rename_i v hv
          split at hs
          · rename_i τ' hτ
            exact upon_val (hsound v hv) fun cv hcv => hs _ _ _ (hAR.put hτ hcv) h (.refl _ _ _)
          · exact hs.elim
        · exact hs.elim
      · rename_i q hq
        rw [hq] at hsound
        split at hs
        · rename_i k b hv
          split at hs
          · rename_i τ' hτ
            refine upon_A (hsound k b hv) fun cv ob p hp hF hV => ?_
            obtain ⟨g1, g2⟩ := h.alloc hp hF
            exact hs _ _ _ ((hAR.mono g2.le).put hτ (hV _ _ (Env.put_self _ _ _ _))) g1 g2
          · exact hs.elim
        · exact hs.elim
      · rename_i q hq
        rw [hq] at hsound
        simp only [DoesC] at hsound
        split at hs
        · exact hs.elim
        · rename_i v σ' hv
          rw [hv] at hsound
          split at hs
          · rename_i τ' hτ
            exact upon_ok hsound fun cv w' E' hcv h1 h2 => hs _ _ _ ((hAR.mono h2.le).put hτ hcv) h1 h2
          · exact hs.elim
        · rename_i f args hv
          rw [hv] at hsound
          obtain ⟨cargs, he, hargs⟩ := hsound
          have hc := hcf f args σ E w cargs h0 h hargs
          split at hs
          · rename_i v σ' hr
            rw [hr] at hc
            split at hs
            · rename_i τ' hτ
              exact upon_callTo he hc (fun cv w' ⟨E', q1, q2, q3⟩ => hs _ _ _ ((hAR.mono q3.le).put hτ q1) q2 q3) (fun _ _ h => h.elim)
            · exact hs.elim
          · rename_i v σ' hr
            rw [hr] at hc
            exact upon_callTo he hc (fun _ _ h => h.elim) (fun cv w' ⟨E', q1, q2, q3⟩ => hs _ _ _ _ (hAR.mono q3.le) q2 q3 q1)
          · exact hs.elim
        · rename_i x hv
          rw [hv] at hsound
          split at hs
          · rename_i τ' hτ
            refine upon_dfr hsound fun d' hd' => ?_
            have hAR' : AR E n τ (x :: d) { a with defers := d' :: a.defers } := ⟨hAR.sz, hAR.val, .cons hd' hAR.df⟩
            exact hs _ _ _ (hAR'.put hτ (VR.undef E)) h (.refl _ _ _)
          · exact hs.elim
        · rename_i v hv
          rw [hv] at hsound
          exact upon_pan hsound fun cv hcv => hs _ _ _ _ hAR h (.refl _ _ _) hcv
        · exact hs.elim

theorem wpOp_sound (hcf : CallOk P w0 cf) (hG : GOk G w0) (h0 : E.w0 = w0) {i : Nat} {o : Oper} (ho : ops[i]? = some o) (hAR : AR E n τ d a) (h : HRel P E σ w) {Q : Exit → Act → World → Prop} {K : Act → World → Prop}
    (hs : Sat P n E σ w (stepOp cf n (cOper P G ops o) τ σ d) (Exit.then K Q)) : wpOp P ops Q i K a w := by
  have := step_upon hcf hG h0 hAR h hs
  unfold wpOp
  simp only [ho]
  split
  · rename_i hw; rw [if_pos hw] at this; exact .inl this
  · rename_i hw; rw [if_neg hw] at this; exact this

theorem runOps_sound (hcf : CallOk P w0 cf) (hG : GOk G w0) {Q : Exit → Act → World → Prop} : ∀ (os : List Oper) (is : List Nat), is.map (fun i => ops[i]?) = os.map some → ∀ {E : Env} {τ : Tr V} {σ : H} {d : List Df} {a : Act} {w : World},
    E.w0 = w0 → AR E n τ d a → HRel P E σ w → Sat P n E σ w (runOps cf n (os.map (cOper P G ops)) τ σ d) Q → wpOps P ops Q is a w
  | [], is, hi, E, τ, σ, d, a, w, h0, hAR, h, hs => by
    simp at hi; subst hi
    exact hs _ _ _ hAR h (.refl _ _ _)
  | o :: os, [], hi, E, τ, σ, d, a, w, h0, hAR, h, hs => by simp at hi
  | o :: os, i :: is, hi, E, τ, σ, d, a, w, h0, hAR, h, hs => by
    simp only [List.map_cons, List.cons.injEq] at hi
    rw [wpOps_cons]
    refine wpOp_sound hcf hG h0 hi.1 hAR h (d := d) (σ := σ) (τ := τ) (n := n) (cf := cf) (G := G) ?_
    simp only [List.map_cons, runOps] at hs
    cases hr : stepOp cf n (cOper P G ops o) τ σ d with
    | bad => rw [hr] at hs; exact hs
    | nx τ' σ' d' =>
      rw [hr] at hs
      intro a' w' E' q1 q2 q3
      exact runOps_sound hcf hG os is hi.2 (le_w0 q3.le h0) q1 q2 (hs.mono q3)
    | ex => rw [hr] at hs; exact hs
    | rt => rw [hr] at hs; exact hs
    | pn v τ' σ' d' => rw [hr] at hs; exact hs

end
end Go.Proofs.YtahgfodccndcjaaGreatEng

namespace Go.Proofs.YtahgfodccndcjaaGreatEng
open Go

/-- How many of the first p act. -/
def Hn : List DO → Nat → Nat
  | _, 0 => 0
  | [], _ + 1 => 0
  | d :: r, p + 1 => (if d.kind == 2 then 1 else 0) + Hn r p

theorem Hn_succ : ∀ (ds : List DO) (p : Nat), Hn ds (p + 1) = Hn ds p + (match ds[p]? with | some d => if d.kind == 2 then 1 else 0 | none => 0)
  | [], 0 => rfl
  | [], p + 1 => rfl
  | d :: r, 0 => by simp [Hn]
  | d :: r, p + 1 => by
    have := Hn_succ r p
    simp only [Hn] at this ⊢
    rw [this]
    simp only [List.getElem?_cons_succ]
    omega
theorem Hn_mono (ds : List DO) {p q : Nat} (h : p ≤ q) : Hn ds p ≤ Hn ds q := by
  induction q with
  | zero => have : p = 0 := by omega
            subst this; exact Nat.le_refl _
  | succ q ih =>
    rcases Nat.lt_or_ge p (q + 1) with h1 | h1
    · have := ih (by omega); rw [Hn_succ]; omega
    · have : p = q + 1 := by omega
      subst this; exact Nat.le_refl _
theorem Hn_lt (ds : List DO) {p q : Nat} {d : DO} (hd : ds[p]? = some d) (hk : d.kind = 2) (h : p < q) : Hn ds p < Hn ds q := by
  have h1 := Hn_succ ds p
  rw [hd] at h1
  simp [hk] at h1
  have := Hn_mono ds (show p + 1 ≤ q from h)
  omega
/-- Where nothing acts in between, as many act ahead. -/
theorem Hn_eq (ds : List DO) {p q : Nat} (h : p ≤ q) (hn : ∀ (k : Nat) (d : DO), p ≤ k → k < q → ds[k]? = some d → d.kind ≠ 2) : Hn ds q = Hn ds p := by
  induction q with
  | zero => have : p = 0 := by omega
            subst this; rfl
  | succ q ih =>
    rcases Nat.lt_or_ge p (q + 1) with h1 | h1
    · rw [Hn_succ, ih (by omega) (fun k d a b => hn k d a (by omega))]
      cases hq : ds[q]? with
      | none => rfl
      | some d =>
        have := hn q d (by omega) (by omega) hq
        simp [this]
    · have : p = q + 1 := by omega
      subst this; rfl
theorem Hn_last (ds : List DO) : ∀ {p : Nat}, 0 < Hn ds p → ∃ (q : Nat) (d : DO), q < p ∧ ds[q]? = some d ∧ d.kind = 2 ∧ Hn ds q + 1 = Hn ds p ∧ ∀ (k : Nat) (d' : DO), q < k → k < p → ds[k]? = some d' → d'.kind ≠ 2 := by
  intro p
  induction p with
  | zero => intro h; simp [Hn] at h
  | succ p ih =>
    intro h
    rw [Hn_succ] at h ⊢
    cases hp : ds[p]? with
    | none =>
      rw [hp] at h; simp only [Nat.add_zero] at h ⊢
      obtain ⟨q, d, h1, h2, h3, h4, h5⟩ := ih h
      refine ⟨q, d, by omega, h2, h3, h4, fun k d' a b hk => ?_⟩
      rcases Nat.lt_or_ge k p with hlt | hge
      · exact h5 k d' a hlt hk
      · have : k = p := by omega
        subst this; rw [hp] at hk; simp at hk
    | some d =>
      by_cases hk : d.kind = 2
      · exact ⟨p, d, by omega, hp, hk, by simp [hk], fun k d' a b => by omega⟩
      · rw [hp] at h; simp only [show (d.kind == 2) = false by simpa using hk] at h ⊢
        simp only [Bool.false_eq_true, if_false, Nat.add_zero] at h ⊢
        obtain ⟨q, d0, h1, h2, h3, h4, h5⟩ := ih h
        refine ⟨q, d0, by omega, h2, h3, h4, fun k d' a b hk' => ?_⟩
        rcases Nat.lt_or_ge k p with hlt | hge
        · exact h5 k d' a hlt hk'
        · have : k = p := by omega
          subst this; rw [hp] at hk'; simp at hk'; subst hk'; exact hk

theorem hiOk_spec {B : List Nat} {j hi : Nat} : ∀ {r : List DO} {k : Nat}, hiOk B j hi k r = true → ∀ (q : Nat) (x : DO), r[q]? = some x → x.kind = 2 → hi ≤ k + Hn r q → bef B j x.at_ = true
  | [], k, _, q, x, hx, _, _ => by simp at hx
  | d :: r, k, h, q, x, hx, hk, hle => by
    simp only [hiOk, Bool.and_eq_true, Bool.or_eq_true] at h
    cases q with
    | zero =>
      simp at hx; subst hx
      rcases h.1 with (h1 | h1) | h1
      · simp [hk] at h1
      · have := Nat.lt_of_lt_of_le (Nat.le_of_ble_eq_true h1) (Nat.le_refl _); simp [Hn] at hle; omega
      · exact h1
    | succ q =>
      refine hiOk_spec h.2 q x (by simpa using hx) hk ?_
      simp only [Hn] at hle
      split <;> rename_i hd
      · rw [if_pos hd] at hle; omega
      · rw [if_neg hd] at hle; omega

/-- What the check of an order says. -/
structure Ord (B : List Nat) (ds : List DO) (q0 : Nat) (last : Option Nat) : Prop where
  lo : ∀ (p : Nat) (d : DO), ds[p]? = some d → d.lo = q0 + Hn ds p ∧ d.lo ≤ d.hi ∧ bef B d.at_ d.at_ = false
  pre : ∀ (p : Nat) (d : DO), ds[p]? = some d → (∀ (k : Nat) (x : DO), k < p → ds[k]? = some x → x.kind ≠ 2) → ∀ h, last = some h → bef B h d.at_ = true
  pre' : ∀ (p : Nat) (d : DO), ds[p]? = some d → ∀ (q : Nat) (x : DO), q < p → ds[q]? = some x → x.kind = 2 → (∀ (k : Nat) (y : DO), q < k → k < p → ds[k]? = some y → y.kind ≠ 2) → bef B x.at_ d.at_ = true
  ord : ∀ (p q : Nat) (d x : DO), p < q → ds[p]? = some d → ds[q]? = some x → bef B x.at_ d.at_ = false ∧ d.at_ ≠ x.at_ ∧ (d.kind = 2 → d.tl = true → bef B d.at_ x.at_ = true)
  hi : ∀ (p : Nat) (d : DO), ds[p]? = some d → ∀ (q : Nat) (x : DO), p < q → ds[q]? = some x → x.kind = 2 → d.hi ≤ q0 + Hn ds q → bef B d.at_ x.at_ = true

theorem ordOk_spec {B : List Nat} : ∀ {ds : List DO} {q0 : Nat} {last : Option Nat}, ordOk B q0 last ds = true → Ord B ds q0 last
  | [], q0, last, _ => ⟨by simp, by simp, by simp, by simp, by simp⟩
  | d :: r, q0, last, h => by
    simp only [ordOk, Bool.and_eq_true] at h
    obtain ⟨⟨⟨⟨⟨⟨h1, h2⟩, h3⟩, h4⟩, h5⟩, h6⟩, h7⟩ := h
    have ih := ordOk_spec h7
    have hlo : d.lo = q0 := Nat.eq_of_beq_eq_true h1
    have hhi : d.lo ≤ d.hi := Nat.le_of_ble_eq_true h2
    have hn : ∀ p, (if (d.kind == 2) = true then q0 + 1 else q0) + Hn r p = q0 + Hn (d :: r) (p + 1) := by
      intro p; simp only [Hn]; split <;> omega
    rw [List.all_eq_true] at h5
    refine ⟨?_, ?_, ?_, ?_, ?_⟩
    · intro p x hx
      cases p with
      | zero => simp at hx; subst hx; exact ⟨by simpa [Hn] using hlo, hhi, by simpa using h3⟩
      | succ p =>
        obtain ⟨a, b, c⟩ := ih.lo p x (by simpa using hx)
        exact ⟨by rw [a, hn], b, c⟩
    · intro p x hx hnone g hg
      cases p with
      | zero =>
        simp at hx; subst hx
        rw [hg] at h4; exact h4
      | succ p =>
        have hd2 : d.kind ≠ 2 := hnone 0 d (by omega) rfl
        refine ih.pre p x (by simpa using hx) (fun k y hk hy => hnone (k + 1) y (by omega) (by simpa using hy)) g ?_
        rw [if_neg (by simpa using hd2)]; exact hg
    · intro p x hx q y hq hy hk hbtw
      cases p with
      | zero => omega
      | succ p =>
        cases q with
        | zero =>
          simp at hy; subst hy
          refine ih.pre p x (by simpa using hx) (fun k z hk' hz => hbtw (k + 1) z (by omega) (by omega) (by simpa using hz)) d.at_ ?_
          rw [if_pos (by simpa using hk)]
        | succ q => exact ih.pre' p x (by simpa using hx) q y (by omega) (by simpa using hy) hk (fun k z a b hz => hbtw (k + 1) z (by omega) (by omega) (by simpa using hz))
    · intro p q x y hpq hx hy
      cases p with
      | zero =>
        simp at hx; subst hx
        cases q with
        | zero => omega
        | succ q =>
          have := h5 y (List.mem_of_getElem? (by simpa using hy))
          simp only [Bool.and_eq_true, Bool.or_eq_true, Bool.not_eq_true'] at this
          obtain ⟨⟨a, b⟩, c⟩ := this
          refine ⟨a, fun e => ?_, fun hk ht => ?_⟩
          · rw [e] at b; simp at b
          · rcases c with (c | c) | c
            · simp [hk] at c
            · rw [ht] at c; simp at c
            · exact c
      | succ p =>
        cases q with
        | zero => omega
        | succ q => exact ih.ord p q x y (by omega) (by simpa using hx) (by simpa using hy)
    · intro p x hx q y hpq hy hk hle
      cases q with
      | zero => omega
      | succ q =>
        cases p with
        | zero =>
          simp at hx; subst hx
          refine hiOk_spec h6 q y (by simpa using hy) hk ?_
          rw [hn]; exact hle
        | succ p => exact ih.hi p x (by simpa using hx) q y (by omega) (by simpa using hy) hk (by rw [hn]; exact hle)

section
variable {P : Program} {G : Nat → Option V} {ops : Array Oper} {B : List Nat}

theorem drwOps_mem {cs : List CO} {d : DO} (h : d ∈ drwOps B cs) : cs[d.at_]? = some d.co ∧ d.kind = clsOf d.co.op := by
  unfold drwOps at h
  simp only [List.mem_flatMap, List.mem_append, List.mem_filter, List.mem_filterMap] at h
  obtain ⟨e, _, h⟩ := h
  rcases h with ⟨⟨j, _, hj⟩, _⟩ | ⟨⟨j, _, hj⟩, _⟩ <;>
  · split at hj
    · rename_i c hc
      simp only [Option.some.injEq] at hj; subst hj
      exact ⟨hc, by simp [hc]⟩
    · simp at hj

/-- What is known of an order that was checked. -/
structure DF (P : Program) (G : Nat → Option V) (ops : Array Oper) (B : List Nat) (ds : List DO) : Prop where
  len : ds.length = ops.size
  mem : ∀ (p : Nat) (d : DO), ds[p]? = some d → ∃ o, ops[d.at_]? = some o ∧ d.co = cOper P G ops o ∧ d.kind = clsOf d.co.op
  all : ∀ j, j < ops.size → ∃ (p : Nat) (d : DO), ds[p]? = some d ∧ d.at_ = j
  ord : Ord B ds 0 none
  edge : ∀ (j : Nat) o, ops[j]? = some o → ∀ e ∈ o.after, Region.binds .any e = true → e.on < ops.size ∧ bef B e.on j = true
  conv : ∀ (i j : Nat) o, i < ops.size → ops[j]? = some o → bef B i j = true → ∃ e ∈ o.after, Region.binds .any e = true ∧ (e.on = i ∨ bef B i e.on = true)
  uniq : ∀ (i j : Nat) oi oj, i ≠ j → ops[i]? = some oi → ops[j]? = some oj → ∀ t, oi.dst = some t → oj.dst ≠ some t
  look : ∀ (i j : Nat) oi oj, i ≠ j → ops[i]? = some oi → ops[j]? = some oj → ∀ t, oi.dst = some t → t ∈ looks ops oj → bef B i j = true ∨ bef B j i = true

theorem drwOk_spec (h : drwOk ops B (drwOps B (ops.toList.map (cOper P G ops))) = true) : DF P G ops B (drwOps B (ops.toList.map (cOper P G ops))) := by
  generalize hds : drwOps B (ops.toList.map (cOper P G ops)) = ds at h
  unfold drwOk at h
  simp only [Bool.and_eq_true] at h
  obtain ⟨⟨⟨h1, h2⟩, h3⟩, h4⟩ := h
  simp only [List.all_eq_true, List.mem_range] at h2 h4
  have row : ∀ (j : Nat) o, ops[j]? = some o → j < ops.size := fun j o ho => (Array.getElem?_eq_some_iff.1 ho).1
  have h4' : ∀ (j : Nat) o, ops[j]? = some o → _ := fun j o ho => by
    have := h4 j (row j o ho)
    rw [Array.getElem?_toList, ho] at this
    exact this
  refine ⟨by simpa using h1, ?_, ?_, ordOk_spec h3, ?_, ?_, ?_, ?_⟩
  · intro p d hd
    have := drwOps_mem (B := B) (cs := ops.toList.map (cOper P G ops)) (d := d) (by rw [hds]; exact List.mem_of_getElem? hd)
    obtain ⟨a, b⟩ := this
    rw [List.getElem?_map, Array.getElem?_toList] at a
    obtain ⟨o, ho, e⟩ := map_some a
    exact ⟨o, ho, e.symm, b⟩
  · intro j hj
    have := h2 j hj
    rw [List.any_eq_true] at this
    obtain ⟨d, hd, e⟩ := this
    obtain ⟨p, hp⟩ := List.mem_iff_getElem?.1 hd
    exact ⟨p, d, hp, by simpa using e⟩
  · intro j o ho e he hb
    have := h4' j o ho
    simp only [Bool.and_eq_true] at this
    have := this.1.1
    rw [Array.all_eq_true_iff_forall_mem] at this
    have := this e he
    simp only [hb, Bool.not_true, Bool.false_or, Bool.and_eq_true, decide_eq_true_eq] at this
    exact this
  · intro i j o hi ho hb
    have := h4' j o ho
    simp only [Bool.and_eq_true] at this
    have := this.1.2
    rw [List.all_eq_true] at this
    have := this i (by simpa using hi)
    simp only [hb, Bool.not_true, Bool.false_or] at this
    rw [Array.any_eq_true'] at this
    obtain ⟨e, he, h⟩ := this
    simp only [Bool.and_eq_true, Bool.or_eq_true, beq_iff_eq] at h
    exact ⟨e, he, h.1, h.2⟩
  · intro i j oi oj hij hi hj t ht ht'
    have := h4' j oj hj
    simp only [Bool.and_eq_true] at this
    have := this.2
    rw [List.all_eq_true] at this
    have := this i (by simpa using row i oi hi)
    simp only [Bool.or_eq_true, beq_iff_eq] at this
    have := this.resolve_left hij
    rw [Array.getElem?_toList, hi] at this
    simp [ht, ht'] at this
  · intro i j oi oj hij hi hj t ht hl
    have := h4' j oj hj
    simp only [Bool.and_eq_true] at this
    have := this.2
    rw [List.all_eq_true] at this
    have := this i (by simpa using row i oi hi)
    simp only [Bool.or_eq_true, beq_iff_eq] at this
    have := this.resolve_left hij
    rw [Array.getElem?_toList, hi] at this
    simp only [ht, Bool.and_eq_true, Bool.or_eq_true, Bool.not_eq_true', List.contains_eq_mem, decide_eq_false_iff_not] at this
    rcases this.2 with (h | h) | h
    · exact absurd hl h
    · exact .inl h
    · exact .inr h

end
end Go.Proofs.YtahgfodccndcjaaGreatEng

