/- BitsBack returns true, whatever the vector: the row. -/
import Derived.Test.YtahgfodccndcjaaGreatRows
import Derived.Test.YtahgfodccndcjaaGreatV3
import Derived.Test.YtahgfodccndcjaaGreatM8
import Derived.Test.YtahgfodccndcjaaGreatShelf
import Derived.ProofKit
import Derived.ChangeBears2
import Derived.ChangeSame
import Derived.OpenShut
import Derived.JoinedCond
import Derived.Carry
import Derived.Stop.Joined
import Derived.Deep.DeepHandedRow
namespace Go.Proofs.YtahgfodccndcjaaGreat
open Go Go.ChangeShapes Go.WideShapes Go.ChangeAt Go.RowKit Go.Proofs.YtahgfodccndcjaaGreatEng

theorem own : ownKnob Tryz.prog.godebug = none := by kernel_rfl
theorem mixed : Tryz.prog.follows .mixedOrders = true := by kernel_rfl
theorem gok (W : World) : GOk G0 W := by
  intro g v hg
  have : (none : Option V) = some v := hg
  cases this
def intrA : Nat → Option (List V → H → CR)
  | 57 => some iAdd64
  | 162 => some iSub64
  | _ => none
def TA : Tab := { code := codes.find, intr := intrA }
def isTrue : CR → Bool
  | .ret (.bool true) _ => true
  | _ => false
theorem isTrue_ret : ∀ {r : CR}, isTrue r = true → ∃ σ, r = .ret (.bool true) σ
  | .ret (.bool true) σ, _ => ⟨σ, rfl⟩
set_option maxRecDepth 1000000 in
theorem alive_run : isTrue (call TA 1000 100 8 [] H.empty) = true := by kernel_rfl
theorem add_ok (W : World) : IntrOk Tryz.prog W 57 iAdd64 := iAdd64_ok Tryz.func57 (by kernel_rfl) (by kernel_rfl) (by kernel_rfl) (by kernel_rfl)
theorem sub_ok (W : World) : IntrOk Tryz.prog W 162 iSub64 := iSub64_ok Tryz.func162 (by kernel_rfl) (by kernel_rfl) (by kernel_rfl) (by kernel_rfl)
theorem codeA_ok : ∀ f c, TA.code f = some c → codeOf Tryz.prog G0 f = some c := fun f c hc => by
  have h : codes.find f = some c := hc
  exact BT.find_all (Q := fun f c => codeOf Tryz.prog G0 f = some c) codes_all h
theorem code1_ok : ∀ f c, T1.code f = some c → codeOf Tryz.prog G0 f = some c := fun f c hc => by
  have h : codes.find f = some c := hc
  exact BT.find_all (Q := fun f c => codeOf Tryz.prog G0 f = some c) codes_all h
theorem intrA_ok (W : World) : ∀ f g, TA.intr f = some g → IntrOk Tryz.prog W f g := by
  intro f g hfg
  have h : intrA f = some g := hfg
  unfold intrA at h
  split at h
  · obtain rfl := Option.some.inj h
    exact add_ok W
  · obtain rfl := Option.some.inj h
    exact sub_ok W
  · cases h
theorem alive_ok (W : World) : IntrOk Tryz.prog W 8 iTrue := by
  obtain ⟨body, hb⟩ := Option.isSome_iff_exists.1 (show Tryz.f8.body.isSome = true by kernel_rfl)
  obtain ⟨σ', hr⟩ := isTrue_ret alive_run
  exact closed_ok mixed (fun w _ => gok w) codeA_ok (fun w _ => intrA_ok w) Tryz.func8 hb (by kernel_rfl) hr
set_option maxRecDepth 1000000 in
theorem rep_ok (W : World) : IntrOk Tryz.prog W 22 iRepeat := by
  obtain ⟨body, hb⟩ := Option.isSome_iff_exists.1 (show Tryz.f22.body.isSome = true by kernel_rfl)
  have hname : (Tryz.f22.name == "runtime.NumGoroutine") = false := by kernel_rfl
  exact iRepeat_ok Tryz.lays105 Tryz.Builder_Extra_105 Tryz.func22 hb hname
theorem intr1_ok (W : World) : ∀ f g, T1.intr f = some g → IntrOk Tryz.prog W f g := by
  intro f g hfg
  have h : intr1 f = some g := hfg
  unfold intr1 at h
  split at h
  · obtain rfl := Option.some.inj h
    exact alive_ok W
  · obtain rfl := Option.some.inj h
    exact add_ok W
  · obtain rfl := Option.some.inj h
    exact sub_ok W
  · obtain rfl := Option.some.inj h
    exact rep_ok W
  · cases h

theorem wf_empty : WfH H.empty := by
  intro x b h
  unfold H.get at h
  rw [show H.empty.m = .lf from rfl, Tr.get_lf] at h
  cases h
/-- THE CALL. -/
theorem back_calls (W : World) {n : Int} {a : V} {L : List Nat} {v : Value} (hv : VR (E0 W) a v) (hU : U H.empty a L) (hL : ∀ x ∈ L, x < 18446744073709551616) (hlen : L.length ≤ 17592186044416) :
    Calls Tryz.prog 4 #[.agg #[.int .i64 n, v]] W fun e W' => e = .returned (.bool true) ∧ Below W.heap.size W W' := by
  obtain ⟨body, hb⟩ := Option.isSome_iff_exists.1 (show Tryz.f4.body.isSome = true by kernel_rfl)
  obtain ⟨σ', hr⟩ := bitsBack_run (lf := val L + L.length + 35184372088833) (m := 0) (σ := H.empty) (n := n) wf_empty hU (wok_of hL) (by omega) (by omega) (by omega) (by omega)
  have hag : VR (E0 W) (.agg [.int .i64 n, a]) (.agg #[.int .i64 n, v]) := .mk_agg (VRL.cons (VR.int .i64 n) (VRL.cons hv VRL.nil))
  have hargs : VRL (E0 W) [.agg [.int .i64 n, a]] (#[.agg #[.int .i64 n, v]] : Array Value).toList := VRL.cons hag VRL.nil
  have hname : (Tryz.f4.name == "runtime.NumGoroutine") = false := by kernel_rfl
  have hcalls := calls_of_run mixed (gok W) code1_ok (intr1_ok W) Tryz.func4 hb hname hargs hr
  refine hcalls.mono ?_
  rintro e W' ⟨cv, E', rfl, hcv, hrel, hE⟩
  rw [hcv.bool_inv]
  exact ⟨rfl, hrel.below hE⟩

theorem cells3 : Tryz.prog.cellsOf 3 = 1 := by kernel_rfl
theorem cells23 : Tryz.prog.cellsOf 23 = 1 := by kernel_rfl
theorem cells25 : Tryz.prog.cellsOf 25 = 2 := by kernel_rfl
theorem cells49 : Tryz.prog.cellsOf 49 = 1 := by kernel_rfl
theorem types25 : Tryz.prog.cellTypes Tryz.prog.depth 25 = some [3, 23] := by kernel_rfl
set_option maxRecDepth 1000000 in
/-- A vector that came in. -/
theorem vec_arg {H0 : Type} {enc : TypeId × Value → H0} {W : World} {base : Nat} {v : Value} {d : DataW H0} {p : List MemPlace} (hval : Value.okWide Tryz.prog W .any base 25 v) (hd : DataW.Trod enc Tryz.prog W 0 (fun _ => true) true 25 v d p) :
    ∃ (n : Int) (s : Value) (a : V) (L : List Nat), v = .agg #[.int .i64 n, s] ∧ VR (E0 W) a s ∧ U H.empty a L ∧ (∀ x ∈ L, x < 18446744073709551616) ∧ ∃ e0 e1, d = .agg [e0, e1] ∧ ((e1 = .nil ∧ L = []) ∨ ∃ l1 l2, e1 = .slice (lits .u64 l1) (lits .u64 l2) ∧ l1.length = L.length) := by
  have hval2 := hval
  obtain ⟨cs, rfl, hsz⟩ := okWide_struct Tryz.underlying25 hval
  rw [cells25] at hsz
  obtain ⟨v0, v1, rfl⟩ : ∃ v0 v1, cs = #[v0, v1] := by
    obtain ⟨l⟩ := cs
    match l, hsz with
    | [v0, v1], _ => exact ⟨v0, v1, rfl⟩
  obtain ⟨fuel, hf⟩ := hd
  obtain ⟨y0, y1, m, hx, _, _, h1⟩ := trod_struct2 Tryz.underlying25 hf
  have h1' : DataW.trod enc Tryz.prog W 0 (fun _ => true) true m 23 (([v0, v1].drop 1).take (Tryz.prog.cellsOf 23)) = some y1 := h1
  rw [cells23] at h1'
  have h1'' : DataW.trod enc Tryz.prog W 0 (fun _ => true) true m 23 [v1] = some y1 := h1'
  unfold Value.okWide at hval2
  simp only [Tryz.underlying25] at hval2
  obtain ⟨cs', he, _, ts, hts, _, hrow⟩ := hval2
  have he' : cs' = #[v0, v1] := (Value.agg.inj he).symm
  subst he'
  obtain rfl : [3, 23] = ts := Option.some.inj (types25.symm.trans hts)
  obtain ⟨u0, hu0, hc0⟩ := hrow 0 v0 rfl
  obtain ⟨u1, hu1, hc1⟩ := hrow 1 v1 rfl
  obtain rfl : 3 = u0 := Option.some.inj hu0
  obtain rfl : 23 = u1 := Option.some.inj hu1
  have ho0 : Value.okWide Tryz.prog W .any base 3 v0 := by
    unfold Value.okWide
    simp only [Tryz.underlying3]
    exact hc0
  have ho1 : Value.okWide Tryz.prog W .any base 23 v1 := by
    unfold Value.okWide
    simp only [Tryz.underlying23]
    exact hc1
  obtain ⟨n, rfl⟩ := okWide_int Tryz.underlying3 ho0
  have hd1 : DataW.Trod enc Tryz.prog W 0 (fun _ => true) true 23 v1 y1.1 y1.2 := by
    obtain ⟨a0, len0, cap0, rfl⟩ := okWide_slice Tryz.underlying23 ho1
    exact ⟨m, h1''⟩
  obtain ⟨a, L, hv, hU, hL, hb⟩ := words_arg Tryz.underlying23 Tryz.underlying49 cells49 ho1 hd1
  exact ⟨n, v1, a, L, rfl, hv, hU, hL, y0.1, y1.1, (Prod.mk.inj hx).1, hb⟩

theorem bytes49 : Tryz.prog.bytesOf 49 = 8 := by kernel_rfl
def arg0 : Array Value := #[.agg #[.int .i64 0, .slice none 0 0]]
theorem reads (os : Os) {H : Type} (enc : TypeId × Value → H) : ∃ places, DataW.whole enc Tryz.prog ((World.holding Tryz.prog os ⟨#[], #[], []⟩).forCall (fun _ _ => 0) ⟨#[], arg0, []⟩).memory Tryz.f4.params.toList (OpenSpec.ofChange Rows.bitsBackSpec).vars false arg0.toList 8 = some ([.agg [.lit (.int .i64 0), .nil]], [], places) :=
  ⟨[], by kernel_rfl⟩
theorem none_laid {w : World} : laidMetH Tryz.prog Rows.bitsBackRow.laid w := by
  show laidMet Tryz.prog [] w
  exact ⟨[], rfl, List.nodup_nil, fun _ _ h => by cases h⟩
set_option maxRecDepth 100000 in
theorem back_lifted (os : Os) (started : os.Started) (H : Type) (enc : TypeId × Value → H) (F0 : Stop.Interp) :
    ReturnsInHanded {} Tryz.checked os 4 .any ((OpenSpec.ofChange Rows.bitsBackSpec).preRow enc Tryz.prog Tryz.f4 Rows.bitsBackRow.domain false Rows.bitsBackRow.laid) (((OpenSpec.ofChange Rows.bitsBackSpec).at F0).post enc Tryz.prog Tryz.f4 false true false false) := by
  obtain ⟨places, hx⟩ := reads os enc
  refine returnsInHanded_of_row (C := Tryz.checked) (s := OpenSpec.ofChange Rows.bitsBackSpec) own started (by kernel_rfl) Tryz.func4
    (witness_row_at (enc := enc) (C := Tryz.checked) false (World.holding Tryz.prog os ⟨#[], #[], []⟩) arg0 rfl (by kernel_rfl) (by kernel_rfl) (by kernel_rfl)
      (OpenSpec.preRow_of_cond 8 hx (by kernel_rfl) (fun k hk => by cases hk) (by kernel_rfl) none_laid)) ?_
  intro W base args ds gs before hval0 hW _ _ hwt _ _ _
  have hval : ∀ (j : Nat) t v, Tryz.f4.params[j]? = some t → args[j]? = some v → Value.okWide Tryz.prog W .any base t v := hval0
  have hW' := hW
  have hlt := hW.lt
  obtain ⟨p, q, hA0, hV, rfl, _, _⟩ := hW
  have hA : DataW.TrodAll enc Tryz.prog W 0 (fun _ => true) true Tryz.f4.params.toList args.toList ds p := hA0
  rw [Tryz.params4] at hA hval hwt
  obtain ⟨v0, d0, rfl, rfl, h0⟩ := trodAll_one hA
  obtain ⟨rfl, rfl⟩ := trodVars_none hV
  obtain ⟨n, s, a, L, rfl, hv, hU, hL, e0, e1, hd, hl⟩ := vec_arg (hval 0 25 v0 rfl rfl) h0
  have hlen : L.length ≤ 17592186044416 := by
    rcases hl with ⟨_, rfl⟩ | ⟨l1, l2, rfl, e⟩
    · decide
    · have hs : (lits (H := H) .u64 l1).length = L.length := by simp [lits, e]
      have h2 : (DataW.weightsEach Tryz.prog ([25] ++ (OpenSpec.ofChange Rows.bitsBackSpec).bare.plain.varTypes Tryz.prog) ([d0] ++ [])).all (· ≤ reachBytes) = true := hwt
      rw [hd] at h2
      have h3 := List.all_eq_true.1 h2 (((lits (H := H) .u64 l1).length + (lits (H := H) .u64 l2).length) * Tryz.prog.bytesOf 49) (by
        simp only [List.cons_append, List.nil_append, DataW.weightsEach, DataW.weights, Tryz.underlying25, Tryz.underlying23, List.map_cons, List.map_nil, List.mem_append, List.mem_cons, true_or, or_true])
      have h4 := of_decide_eq_true h3
      rw [bytes49, hs] at h4
      simp only [reachBytes] at h4
      omega
  refine (back_calls W (n := n) hv hU hL hlen).mono fun e W' ⟨he, hb⟩ => ?_
  subst he
  have e1 : ((OpenSpec.ofChange Rows.bitsBackSpec).at F0).fn H ([d0] ++ []) = { results := [.lit (.bool true)], args := [d0] } := rfl
  refine ⟨_, rfl, _, _, _, [], p, [], hW', ?_, ?_, ?_, hb.frame _, fun h => by cases h⟩
  · rw [e1]; exact trodAll_mk1 (shut_bool Tryz.underlying4 true)
  · rw [e1]
    exact trodAll_mk1 (hb.trod (by kernel_rfl) (by kernel_rfl) (of_decide_eq_true (by kernel_rfl)) h0 (fun x hx => hlt x (by simp [hx])))
  · rw [e1]; rfl

theorem bitsBack_said : Rows.BitsBackSaid :=
  OpenClaim.holds_of_cond 4 Tryz.f4 rfl rfl rfl rfl rfl rfl rfl ⟨rfl, rfl, rfl, rfl, rfl⟩ rfl rfl rfl rfl rfl (by kernel_rfl) Tryz.func4 (by kernel_rfl)
    (of_decide_eq_true (by kernel_rfl)) (by unfold Func.isWrapper; first | (rw [if_pos (by decide +kernel)]; kernel_rfl) | (rw [if_neg (by decide +kernel)]; exact ⟨rfl, rfl⟩))
    (fun os started H enc _ F0 => by rw [OpenClaim.pre_eq_preRow]; exact back_lifted os started H enc F0)
#print axioms bitsBack_said
end Go.Proofs.YtahgfodccndcjaaGreat
