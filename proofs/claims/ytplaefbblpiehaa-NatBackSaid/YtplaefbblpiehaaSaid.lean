/- NatBack returns true, whatever the number and the zeros on top: the row. -/
import Derived.Test.YtplaefbblpiehaaRows
import Derived.Test.YtplaefbblpiehaaL2
import Derived.ProofKit
import Derived.ChangeBears2
import Derived.OpenShut
import Derived.JoinedCond
import Derived.Carry
import Derived.Stop.Joined
import Derived.Deep.DeepHandedRow
namespace Go.Proofs.Ytplaefbblpiehaa
open Go Go.ChangeShapes Go.WideShapes Go.ChangeAt Go.RowKit Go.Proofs.YtplaefbblpiehaaEng

theorem own : ownKnob Try.prog.godebug = none := by kernel_rfl
theorem mixed : Try.prog.follows .mixedOrders = true := by kernel_rfl
theorem gok (W : World) : GOk G0 W := by
  intro g v hg
  have : (none : Option V) = some v := hg
  cases this
def intrA : Nat → Option (List V → H → CR)
  | 32 => some iAdd64
  | _ => none
def TA : Tab := { code := codes.find, intr := intrA }
def isTrue : CR → Bool
  | .ret (.bool true) _ => true
  | _ => false
theorem isTrue_ret : ∀ {r : CR}, isTrue r = true → ∃ σ, r = .ret (.bool true) σ
  | .ret (.bool true) σ, _ => ⟨σ, rfl⟩
set_option maxRecDepth 1000000 in
theorem alive_run : isTrue (call TA 1000 100 8 [] H.empty) = true := by kernel_rfl
theorem add_ok (W : World) : IntrOk Try.prog W 32 iAdd64 := iAdd64_ok Try.func32 (by kernel_rfl) (by kernel_rfl) (by kernel_rfl) (by kernel_rfl)
theorem codeA_ok : ∀ f c, TA.code f = some c → codeOf Try.prog G0 f = some c := fun f c hc => by
  have h : codes.find f = some c := hc
  exact BT.find_all (Q := fun f c => codeOf Try.prog G0 f = some c) codes_all h
theorem code1_ok : ∀ f c, T1.code f = some c → codeOf Try.prog G0 f = some c := fun f c hc => by
  have h : codes.find f = some c := hc
  exact BT.find_all (Q := fun f c => codeOf Try.prog G0 f = some c) codes_all h
theorem intrA_ok (W : World) : ∀ f g, TA.intr f = some g → IntrOk Try.prog W f g := by
  intro f g hfg
  have h : intrA f = some g := hfg
  unfold intrA at h
  split at h
  · obtain rfl := Option.some.inj h
    exact add_ok W
  · cases h
theorem alive_ok (W : World) : IntrOk Try.prog W 8 iTrue := by
  obtain ⟨body, hb⟩ := Option.isSome_iff_exists.1 (show Try.f8.body.isSome = true by kernel_rfl)
  obtain ⟨σ', hr⟩ := isTrue_ret alive_run
  exact closed_ok mixed (fun w _ => gok w) codeA_ok (fun w _ => intrA_ok w) Try.func8 hb (by kernel_rfl) hr
theorem intr1_ok (W : World) : ∀ f g, T1.intr f = some g → IntrOk Try.prog W f g := by
  intro f g hfg
  have h : intr1 f = some g := hfg
  unfold intr1 at h
  split at h
  · obtain rfl := Option.some.inj h
    exact alive_ok W
  · obtain rfl := Option.some.inj h
    exact add_ok W
  · cases h

theorem wf_empty : WfH H.empty := by
  intro x b h
  unfold H.get at h
  rw [show H.empty.m = .lf from rfl, Tr.get_lf] at h
  cases h
/-- THE CALL. -/
theorem back_calls (W : World) {a : V} {L : List Nat} {v : Value} (hv : VR (E0 W) a v) (hU : U H.empty a L) (hL : ∀ x ∈ L, x < 18446744073709551616) (hlen : L.length ≤ 17592186044416) (z : Nat) (hz : z < 256) :
    Calls Try.prog 4 #[v, .int .u8 z] W fun e W' => e = .returned (.bool true) ∧ Below W.heap.size W W' := by
  obtain ⟨body, hb⟩ := Option.isSome_iff_exists.1 (show Try.f4.body.isSome = true by kernel_rfl)
  obtain ⟨σ', hr⟩ := natBack_run (lf := val L + L.length + 35184372088833) (m := 0) (σ := H.empty) wf_empty hU (wok_of hL) hlen hz (by omega) (by omega)
  have hargs : VRL (E0 W) [a, .int .u8 z] (#[v, .int .u8 z] : Array Value).toList := VRL.cons hv (VRL.cons (VR.int .u8 z) VRL.nil)
  have hname : (Try.f4.name == "runtime.NumGoroutine") = false := by kernel_rfl
  have hcalls := calls_of_run mixed (gok W) code1_ok (intr1_ok W) Try.func4 hb hname hargs hr
  refine hcalls.mono ?_
  rintro e W' ⟨cv, E', rfl, hcv, hrel, hE⟩
  rw [hcv.bool_inv]
  exact ⟨rfl, hrel.below hE⟩

theorem cells32 : Try.prog.cellsOf 32 = 1 := by kernel_rfl
theorem bytes32 : Try.prog.bytesOf 32 = 8 := by kernel_rfl
theorem reads (os : Os) {H : Type} (enc : TypeId × Value → H) : ∃ places, DataW.whole enc Try.prog ((World.holding Try.prog os ⟨#[], #[], []⟩).forCall (fun _ _ => 0) ⟨#[], #[.slice none 0 0, .int .u8 0], []⟩).memory Try.f4.params.toList (OpenSpec.ofChange Rows.natBackSpec).vars false #[Value.slice none 0 0, .int .u8 0].toList 8 = some ([.nil, .lit (.int .u8 0)], [], places) :=
  ⟨[], by kernel_rfl⟩
theorem none_laid {w : World} : laidMetH Try.prog Rows.natBackRow.laid w := by
  show laidMet Try.prog [] w
  exact ⟨[], rfl, List.nodup_nil, fun _ _ h => by cases h⟩
set_option maxRecDepth 100000 in
theorem back_lifted (os : Os) (started : os.Started) (H : Type) (enc : TypeId × Value → H) (F0 : Stop.Interp) :
    ReturnsInHanded {} Try.checked os 4 .any ((OpenSpec.ofChange Rows.natBackSpec).preRow enc Try.prog Try.f4 Rows.natBackRow.domain false Rows.natBackRow.laid) (((OpenSpec.ofChange Rows.natBackSpec).at F0).post enc Try.prog Try.f4 false true false false) := by
  obtain ⟨places, hx⟩ := reads os enc
  refine returnsInHanded_of_row (C := Try.checked) (s := OpenSpec.ofChange Rows.natBackSpec) own started (by kernel_rfl) Try.func4
    (witness_row_at (enc := enc) (C := Try.checked) false (World.holding Try.prog os ⟨#[], #[], []⟩) #[.slice none 0 0, .int .u8 0] rfl (by kernel_rfl) (by kernel_rfl) (by kernel_rfl)
      (OpenSpec.preRow_of_cond 8 hx (by kernel_rfl) (fun k hk => by cases hk) (by kernel_rfl) none_laid)) ?_
  intro W base args ds gs before hval0 hW _ _ hwt _ _ _
  have hval : ∀ (j : Nat) t v, Try.f4.params[j]? = some t → args[j]? = some v → Value.okWide Try.prog W .any base t v := hval0
  have hW' := hW
  have hlt := hW.lt
  obtain ⟨p, q, hA0, hV, rfl, _, _⟩ := hW
  have hA : DataW.TrodAll enc Try.prog W 0 (fun _ => true) true Try.f4.params.toList args.toList ds p := hA0
  rw [Try.params4] at hA hval hwt
  obtain ⟨v0, v1, d0, d1, p0, p1, rfl, rfl, rfl, h0, h1⟩ := trodAll_two hA
  obtain ⟨rfl, rfl⟩ := trodVars_none hV
  obtain ⟨n, rfl, rfl, rfl, wn⟩ := open_int Try.underlying5 (hval 1 5 v1 rfl rfl) h1
  obtain ⟨a, L, hv, hU, hL, hd⟩ := words_arg Try.underlying23 Try.underlying32 cells32 (hval 0 23 v0 rfl rfl) h0
  have hlen : L.length ≤ 17592186044416 := by
    rcases hd with ⟨_, rfl⟩ | ⟨l1, l2, rfl, e⟩
    · decide
    · have hs : (lits (H := H) .u64 l1).length = L.length := by simp [lits, e]
      have h2 : (DataW.weightsEach Try.prog ([23, 5] ++ (OpenSpec.ofChange Rows.natBackSpec).bare.plain.varTypes Try.prog) ([DataW.slice (lits (H := H) .u64 l1) (lits .u64 l2), .lit (.int .u8 n)] ++ [])).all (· ≤ reachBytes) = true := hwt
      have h3 := List.all_eq_true.1 h2 (((lits (H := H) .u64 l1).length + (lits (H := H) .u64 l2).length) * Try.prog.bytesOf 32) (by
        simp only [List.cons_append, List.nil_append, DataW.weightsEach, DataW.weights, Try.underlying23, List.mem_append, List.mem_cons, true_or])
      have h4 := of_decide_eq_true h3
      rw [bytes32, hs] at h4
      simp only [reachBytes] at h4
      omega
  obtain ⟨z, rfl, hz⟩ : ∃ z : Nat, n = z ∧ z < 256 := by
    have : 0 ≤ n ∧ n < 256 := by
      simp [Lit.wf, IntKind.min, IntKind.max, IntKind.signed, IntKind.bits] at wn
      omega
    exact ⟨n.toNat, by omega, by omega⟩
  refine (back_calls W hv hU hL hlen z hz).mono fun e W' ⟨he, hb⟩ => ?_
  subst he
  have e1 : ((OpenSpec.ofChange Rows.natBackSpec).at F0).fn H ([d0, .lit (.int .u8 z)] ++ []) = { results := [.lit (.bool true)], args := [d0, .lit (.int .u8 z)] } := rfl
  refine ⟨_, rfl, _, _, _, [], p0, [], hW', ?_, ?_, ?_, hb.frame _, fun h => by cases h⟩
  · rw [e1]; exact trodAll_mk1 (shut_bool Try.underlying4 true)
  · rw [e1]
    have := trodAll_mk2 (hb.trod (by kernel_rfl) (by kernel_rfl) (of_decide_eq_true (by kernel_rfl)) h0 (fun x hx => hlt x (by simp [hx]))) (shut_int (enc := enc) (P := Try.prog) (w := W') (base := 0) (spare := fun b => decide (b < W.heap.size)) (held := true) Try.underlying5 wn)
    have h2 : DataW.TrodAll enc Try.prog W' 0 (fun b => decide (b < W.heap.size)) true [23, 5] [v0, .int .u8 z] [d0, .lit (.int .u8 z)] p0 := by simpa using this
    exact h2
  · rw [e1]; rfl

theorem natBack_said : Rows.NatBackSaid :=
  OpenClaim.holds_of_cond 4 Try.f4 rfl rfl rfl rfl rfl rfl rfl ⟨rfl, rfl, rfl, rfl, rfl⟩ rfl rfl rfl rfl rfl (by kernel_rfl) Try.func4 (by kernel_rfl)
    (of_decide_eq_true (by kernel_rfl)) (by unfold Func.isWrapper; first | (rw [if_pos (by decide +kernel)]; kernel_rfl) | (rw [if_neg (by decide +kernel)]; exact ⟨rfl, rfl⟩))
    (fun os started H enc _ F0 => by rw [OpenClaim.pre_eq_preRow]; exact back_lifted os started H enc F0)
#print axioms natBack_said
end Go.Proofs.Ytplaefbblpiehaa
