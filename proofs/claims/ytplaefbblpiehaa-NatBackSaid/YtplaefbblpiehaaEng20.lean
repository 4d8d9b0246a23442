/- The engine, part 20: every compiled operation does what the program's does. -/
import Derived.Test.YtplaefbblpiehaaEng19
namespace Go.Proofs.YtplaefbblpiehaaEng
open Go
section
variable {P : Program} {G : Nat → Option V} {E : Env} {τ : Tr V} {ρ : Operand → Value} {σ : H} {w : World}

/-- What a compiled operation stands for. -/
def DoesC (P : Program) (E : Env) (σ : H) (w : World) (τ : Tr V) (ρ : Operand → Value) (o : Oper) : COp → Prop
  | .p q => ∀ v, q.ev τ = some v → Does P E w ρ o v
  | .r q => ∀ v, q.ev τ σ = some v → Does P E w ρ o v
  | .a q => ∀ k b, q.ev τ = some (k, b) → DoesA P E w ρ o k b
  | .h q => DoesH P E σ w ρ o (q.ev τ σ)

theorem map_some {α β : Type} {x : Option α} {f : α → β} {y : β} (h : x.map f = some y) : ∃ a, x = some a ∧ f a = y := Option.map_eq_some_iff.1 h

theorem bind_some {α β : Type} {x : Option α} {f : α → Option β} {y : β} (h : x.bind f = some y) : ∃ a, x = some a ∧ f a = some y := Option.bind_eq_some_iff.1 h

theorem cBuiltin_sound {o : Oper} {c : Call} (ho : o.op = .call c) {b : Builtin} (hc : c.callee = .builtin b) {q : COp} (hq : cBuiltin P G b c.argTypes c.args.toList = some q) (hO : OR G E τ ρ o.op.operands.toList) (h : HRel P E σ w) :
    DoesC P E σ w τ ρ o q := by
  unfold cBuiltin at hq
  split at hq
  · rename_i x hx
    split at hq
    · rename_i a ha ht
      obtain ⟨t, ht, hu⟩ := bind_some ht
      simp at hq; subst hq
      exact fun v hv => does_lenS ho hc hx ht hu ha hO hv w
    · rename_i a e ha ht
      obtain ⟨t, ht, hu⟩ := bind_some ht
      simp at hq; subst hq
      exact fun v hv => does_lens ho hc hx ht hu ha hO hv w
    · rename_i a n e ha ht
      obtain ⟨t, ht, hu⟩ := bind_some ht
      simp at hq; subst hq
      exact fun v hv => does_lena ho hc hx ht hu hv w
    · rename_i a k e ha ht
      obtain ⟨t, ht, hu⟩ := bind_some ht
      simp at hq; subst hq
      exact fun v hv => does_lenm ho hc hx ht hu ha hO h hv
    · simp at hq
  · rename_i x y hx
    split at hq
    · rename_i t ht
      split at hq
      · rename_i e hu
        split at hq
        · rename_i s eb z a b e' hs hb hz ha hb' ht'
          obtain ⟨t', ht', hu'⟩ := bind_some ht'
          split at hq
          · rename_i hzl
            simp at hq; subst hq
            exact doesH_app ho hc hx ⟨⟨t, ht, hu⟩, hs, hb, ⟨z, hz, hzl⟩, ⟨t', _, ht', hu', .inl ⟨e', rfl⟩⟩⟩ ha hb' hO h
          · simp at hq
        · rename_i s eb z a b hs hb hz ha hb' ht'
          obtain ⟨t', ht', hu'⟩ := bind_some ht'
          split at hq
          · rename_i hzl
            simp at hq; subst hq
            exact doesH_app ho hc hx ⟨⟨t, ht, hu⟩, hs, hb, ⟨z, hz, hzl.1⟩, ⟨t', _, ht', hu', .inr ⟨rfl, hzl.2⟩⟩⟩ ha hb' hO h
          · simp at hq
        · simp at hq
      · simp at hq
    · simp at hq
  · rename_i x y hx
    split at hq
    · rename_i t ht
      split at hq
      · rename_i e hu
        split at hq
        · rename_i s a b hs ha hb
          simp at hq; subst hq
          exact doesH_copy ho hc hx ht hu hs ha hb hO h
        · simp at hq
      · simp at hq
    · simp at hq
  · rename_i x hx
    split at hq
    · rename_i a e ha ht
      obtain ⟨t, ht, hu⟩ := bind_some ht
      simp at hq; subst hq
      exact fun v hv => does_caps ho hc hx ht hu ha hO hv w
    · simp at hq
  · rename_i x hx
    obtain ⟨a, ha, rfl⟩ := map_some hq
    exact fun v hv => does_sdata ho hc hx ha hO hv w
  · rename_i x y hx
    split at hq
    · rename_i e ht
      obtain ⟨t, ht, hu⟩ := bind_some ht
      split at hq
      · rename_i a b _ ha hb
        split at hq
        · rename_i hcond
          simp at hq; subst hq
          exact doesH_ustr ho hc hx ht hu hcond.1 hcond.2 ha hb hO h
        · simp at hq
      · simp at hq
    · simp at hq
  · obtain ⟨a, ha, rfl⟩ := map_some hq
    exact fun v hv => does_mn ho hc ha hO hv w
  · obtain ⟨a, ha, rfl⟩ := map_some hq
    exact fun v hv => does_mx ho hc ha hO hv w
  · simp at hq; subst hq
    exact doesH_recover (E := E) (σ := σ) (τ := τ) ho hc
  · simp at hq

theorem cOp_sound {o : Oper} {q : COp} (hq : cOp? P G o = some q) (hO : OR G E τ ρ o.op.operands.toList) (h : HRel P E σ w) : DoesC P E σ w τ ρ o q := by
  unfold cOp? at hq
  split at hq
  · rename_i x ho
    obtain ⟨a, ha, rfl⟩ := map_some hq
    exact fun v hv => does_mv (.inl ho) ha hO hv w
  · rename_i x ho
    obtain ⟨a, ha, rfl⟩ := map_some hq
    exact fun v hv => does_mv (.inr ho) ha hO hv w
  · rename_i c x y ho
    split at hq
    · rename_i ac ax ay hc hx hy
      simp at hq; subst hq
      exact fun v hv => does_pick ho hc hx hy hO hv w
    · simp at hq
  · rename_i t ho
    obtain ⟨z, hz, rfl⟩ := map_some hq
    exact fun k b hv => does_alloc ho hz hv
  · rename_i t x ho
    split at hq
    · rename_i n a hn ha
      simp at hq; subst hq
      exact fun k b hv => does_box ho hn ha hO hv
    · simp at hq
  · rename_i t ps ho
    split at hq
    · rename_i z fs hz ht
      split at hq
      · rename_i pl hpl
        obtain ⟨l, hl, rfl⟩ := map_some hq
        exact fun v hv => does_build ho hz (.inl ⟨fs, pl, ht, hpl, hl⟩) hO hv w
      · simp at hq
    · rename_i z n e hz ht
      split at hq
      · rename_i s hs
        obtain ⟨l, hl, rfl⟩ := map_some hq
        exact fun v hv => does_build ho hz (.inr ⟨n, e, s, ht, hs, hl⟩) hO hv w
      · simp at hq
    · simp at hq
  · rename_i t n ps ho
    split at hq
    · rename_i e ht
      split at hq
      · rename_i s z hs hz
        split at hq
        · rename_i hcond
          obtain ⟨l, hl, rfl⟩ := map_some hq
          exact fun k b hv => does_bslice ho ht hs hz hcond.1 hcond.2 hl hO hv
        · simp at hq
      · simp at hq
    · simp at hq
  · rename_i t x ho
    split at hq
    · rename_i ag a hag ha
      simp at hq; subst hq
      exact fun v hv => does_load ho hag ha hO h hv
    · simp at hq
  · rename_i t x y ho
    split at hq
    · rename_i n a b hn ha hb
      simp at hq; subst hq
      exact doesH_store ho hn ha hb hO h
    · simp at hq
  · rename_i x ho
    obtain ⟨a, ha, rfl⟩ := map_some hq
    exact fun v hv => does_nilck ho ha hO hv w
  · rename_i op t x y yt ho
    obtain ⟨po, hpo, rfl⟩ := map_some hq
    obtain ⟨ax, ay, qq, h1, h2, h3, rfl⟩ := cBin_spec hpo
    exact fun v hv => does_bin ho h1 h2 h3 hO hv w
  · rename_i op t x ho
    obtain ⟨a, ha, rfl⟩ := map_some hq
    exact fun v hv => does_un ho ha hO hv w
  · rename_i s d x ho
    split at hq
    · rename_i a k0 k ha hs hd
      simp at hq; subst hq
      exact fun v hv => does_cii ho hs hd ha hO hv w
    · rename_i a ha hs hd
      simp at hq; subst hq
      exact fun v hv => does_css ho hs hd ha hO hv w
    · rename_i a k0 ha hs hd
      simp at hq; subst hq
      exact fun v hv => does_cis ho hs hd ha hO hv w
    · rename_i a e ha hs hd
      split at hq
      · rename_i k hk
        simp at hq; subst hq
        exact fun v hv => does_cpu ho hs hd hk ha hO h hv
      · simp at hq
    · rename_i a e ha hs hd
      split at hq
      · rename_i k hk
        simp at hq; subst hq
        exact fun v hv => does_cup ho hs hd hk ha hO h hv
      · simp at hq
    · rename_i a e ha hs hd
      split at hq
      · rename_i he
        split at hq
        · rename_i hz
          simp at hq; subst hq
          exact doesH_s2b ho hs hd he hz ha hO h
        · simp at hq
      · simp at hq
    · rename_i a e ha hs hd
      split at hq
      · rename_i he
        simp at hq; subst hq
        exact fun v hv => does_b2s ho hs hd he ha hO h hv
      · simp at hq
    · simp at hq
  · rename_i t x ho
    split at hq
    · simp at hq
    · rename_i d a hne ht ha
      simp at hq; subst hq
      exact fun v hv => does_mkif ho ht (fun ms e => by subst e; exact absurd ht (by simpa using hne ms)) ha hO hv w
    · simp at hq
  · rename_i f a b ho
    split at hq
    · rename_i la lb ha hb
      simp at hq; subst hq
      exact fun v hv => does_mkfn ho ha hb hO hv w
    · simp at hq
  · rename_i t ho
    simp at hq; subst hq
    exact fun k b hv => does_mkmap ho hv
  · rename_i t l c ho
    split at hq
    · rename_i e ht
      split at hq
      · rename_i s eb z a b hs hb hz ha hb'
        split at hq
        · rename_i hzl
          simp at hq; subst hq
          exact fun k bl hv => does_mksl ho ht hs hb hz hzl ha hb' hO hv
        · simp at hq
      · simp at hq
    · simp at hq
  · rename_i t x lo hi mx ho
    split at hq
    · rename_i a alo ahi ha hlo hhi hmx ht
      simp at hq; subst hq
      have : mx = none := by
        cases mx with
        | none => rfl
        | some m => simp [cOpt] at hmx
      subst this
      exact fun v hv => does_slis ho ht ha hlo hhi hO hv w
    · rename_i a alo ahi amx e _ ha hlo hhi hmx ht
      obtain ⟨s, hs, rfl⟩ := map_some hq
      exact fun v hv => does_slsl ho ht hs ha hlo hhi hmx hO hv w
    · rename_i a alo ahi amx n e ha hlo hhi hmx ht
      obtain ⟨s, hs, rfl⟩ := map_some hq
      exact fun v hv => does_slar ho (.inl ht) hs ha hlo hhi hmx hO hv w
    · rename_i a alo ahi amx arr ha hlo hhi hmx ht
      split at hq
      · rename_i n e hu
        obtain ⟨s, hs, rfl⟩ := map_some hq
        exact fun v hv => does_slar ho (.inr ⟨arr, ht, hu⟩) hs ha hlo hhi hmx hO hv w
      · simp at hq
    · simp at hq
  · rename_i s x f ho
    split at hq
    · rename_i fs a hs ha
      split at hq
      · rename_i fd hf
        split at hq
        · rename_i n hn
          simp at hq; subst hq
          exact fun v hv => does_faddr ho hs hf hn ha hO hv w
        · simp at hq
      · simp at hq
    · simp at hq
  · rename_i t x f ho
    split at hq
    · rename_i fs a ht ha
      split at hq
      · rename_i fd hf
        obtain ⟨ag, hag, rfl⟩ := map_some hq
        exact fun v hv => does_field ho ht hf hag ha hO hv w
      · simp at hq
    · simp at hq
  · rename_i t x i ho
    split at hq
    · rename_i e a b ht ha hb
      obtain ⟨s, hs, rfl⟩ := map_some hq
      exact fun v hv => does_iaddr ho ht hs ha hb hO hv w
    · rename_i n e a b ht ha hb
      obtain ⟨s, hs, rfl⟩ := map_some hq
      exact fun v hv => does_iarr ho ht hs ha hb hO hv w
    · simp at hq
  · rename_i t x i ho
    split at hq
    · rename_i a b ht ha hb
      simp at hq; subst hq
      exact fun v hv => does_idxs ho ht ha hb hO hv w
    · rename_i n e a b ht ha hb
      split at hq
      · rename_i s ag hs hag
        simp at hq; subst hq
        exact fun v hv => does_idxa ho ht hs hag ha hb hO hv w
      · simp at hq
    · simp at hq
  · rename_i t x i ok ho
    split at hq
    · rename_i k e a b ht ha hb
      obtain ⟨z, hz, rfl⟩ := map_some hq
      exact fun v hv => does_lookup ho ht hz ha hb hO h hv
    · simp at hq
  · rename_i t m k v ho
    split at hq
    · rename_i kt e a b c ht ha hb hc
      simp at hq; subst hq
      exact doesH_mupd (.inl ho) ht ha hb hc hO h
    · simp at hq
  · rename_i t m k v ho
    split at hq
    · rename_i kt e a b c ht ha hb hc
      simp at hq; subst hq
      exact doesH_mupd (.inr ho) ht ha hb hc hO h
    · simp at hq
  · rename_i t x ho
    split at hq
    · rename_i a ht ha
      simp at hq; subst hq
      exact fun k b hv => does_range ho ht ha hO hv
    · simp at hq
  · rename_i x s ho
    split at hq
    · rename_i hs
      obtain ⟨a, ha, rfl⟩ := map_some hq
      rw [hs] at ho
      exact doesH_next ho ha hO h
    · simp at hq
  · rename_i x xt t ok ho
    split at hq
    · simp at hq
    · rename_i d a z hne ht ha hz
      simp at hq; subst hq
      exact fun v hv => does_tass ho ht (fun ms e => by subst e; exact absurd ht (by simpa using hne ms)) hz ha hO hv w
    · simp at hq
  · rename_i x i ho
    obtain ⟨a, ha, rfl⟩ := map_some hq
    exact fun v hv => does_extract ho ha hO hv w
  · rename_i c ho
    split at hq
    · rename_i f hc
      obtain ⟨l, hl, rfl⟩ := map_some hq
      exact doesH_call ho hc hl hO
    · rename_i x hne hc
      split at hq
      · rename_i a l ha hl
        simp at hq; subst hq
        exact doesH_calld ho hc ha hl hO
      · simp at hq
    · rename_i b hc
      exact cBuiltin_sound ho hc hq hO h
    · simp at hq
  · rename_i c ho
    split at hq
    · rename_i x hc
      split at hq
      · rename_i a l ha hl
        simp at hq; subst hq
        exact doesH_dfr ho hc ha hl hO
      · simp at hq
    · simp at hq
  · rename_i x ho
    obtain ⟨a, ha, rfl⟩ := map_some hq
    exact doesH_panic ho ha hO
  · simp at hq

theorem cOp_sound' {o : Oper} (hO : OR G E τ ρ o.op.operands.toList) (h : HRel P E σ w) : DoesC P E σ w τ ρ o (cOp P G o) := by
  unfold cOp
  split
  · rename_i c hc; exact cOp_sound hc hO h
  · intro v hv; simp [POp.ev] at hv

end
end Go.Proofs.YtplaefbblpiehaaEng
