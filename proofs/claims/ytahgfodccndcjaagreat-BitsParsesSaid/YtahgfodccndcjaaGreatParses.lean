/- BitsParses returns true, whatever the text: the row. -/
import Derived.Test.YtahgfodccndcjaaGreatRows
import Derived.Test.YtahgfodccndcjaaGreatL3
import Derived.Test.YtahgfodccndcjaaGreatEng34
import Derived.ProofKit
import Derived.ChangeBears2
import Derived.OpenShut
import Derived.Stop.Joined
namespace Go.Proofs.YtahgfodccndcjaaGreat
open Go Go.ChangeShapes Go.WideShapes Go.ChangeAt Go.RowKit Go.Proofs.YtahgfodccndcjaaGreatEng
open Go.ChangeMaps (open_string shut_string)

theorem own : ownKnob Tryz.prog.godebug = none := by kernel_rfl
theorem mixed : Tryz.prog.follows .mixedOrders = true := by kernel_rfl
theorem gok (W : World) : GOk G0 W := by
  intro g v hg
  have : (none : Option V) = some v := hg
  cases this
def intrA : Nat → Option (List V → H → CR)
  | 57 => some iAdd64
  | 162 => some iSub64
  | _ => none
def TA : Tab := { code := codes.find, intr := intrA }
def isTrue : CR → Bool
  | .ret (.bool true) _ => true
  | _ => false
theorem isTrue_ret : ∀ {r : CR}, isTrue r = true → ∃ σ, r = .ret (.bool true) σ
  | .ret (.bool true) σ, _ => ⟨σ, rfl⟩
set_option maxRecDepth 1000000 in
theorem alive_run : isTrue (call TA 1000 100 8 [] H.empty) = true := by kernel_rfl
theorem add_ok (W : World) : IntrOk Tryz.prog W 57 iAdd64 := iAdd64_ok Tryz.func57 (by kernel_rfl) (by kernel_rfl) (by kernel_rfl) (by kernel_rfl)
theorem sub_ok (W : World) : IntrOk Tryz.prog W 162 iSub64 := iSub64_ok Tryz.func162 (by kernel_rfl) (by kernel_rfl) (by kernel_rfl) (by kernel_rfl)
theorem codeA_ok : ∀ f c, TA.code f = some c → codeOf Tryz.prog G0 f = some c := fun f c hc => by
  have h : codes.find f = some c := hc
  exact BT.find_all (Q := fun f c => codeOf Tryz.prog G0 f = some c) codes_all h
theorem code1_ok : ∀ f c, T1.code f = some c → codeOf Tryz.prog G0 f = some c := fun f c hc => by
  have h : codes.find f = some c := hc
  exact BT.find_all (Q := fun f c => codeOf Tryz.prog G0 f = some c) codes_all h
theorem intrA_ok (W : World) : ∀ f g, TA.intr f = some g → IntrOk Tryz.prog W f g := by
  intro f g hfg
  have h : intrA f = some g := hfg
  unfold intrA at h
  split at h
  · obtain rfl := Option.some.inj h
    exact add_ok W
  · obtain rfl := Option.some.inj h
    exact sub_ok W
  · cases h
theorem alive_ok (W : World) : IntrOk Tryz.prog W 8 iTrue := by
  obtain ⟨body, hb⟩ := Option.isSome_iff_exists.1 (show Tryz.f8.body.isSome = true by kernel_rfl)
  obtain ⟨σ', hr⟩ := isTrue_ret alive_run
  exact closed_ok mixed (fun w _ => gok w) codeA_ok (fun w _ => intrA_ok w) Tryz.func8 hb (by kernel_rfl) hr
theorem intr1_ok (W : World) : ∀ f g, T1.intr f = some g → IntrOk Tryz.prog W f g := by
  intro f g hfg
  have h : intr1 f = some g := hfg
  unfold intr1 at h
  split at h
  · obtain rfl := Option.some.inj h
    exact alive_ok W
  · obtain rfl := Option.some.inj h
    exact add_ok W
  · cases h

theorem wf_empty : WfH H.empty := by
  intro x b h
  unfold H.get at h
  rw [show H.empty.m = .lf from rfl, Tr.get_lf] at h
  cases h
/-- THE CALL. -/
theorem parses_calls (W : World) (s : ByteArray) (hs : s.size ≤ maxLen) : Calls Tryz.prog 3 #[.string s] W fun e W' => e = .returned (.bool true) ∧ Below W.heap.size W W' := by
  obtain ⟨body, hb⟩ := Option.isSome_iff_exists.1 (show Tryz.f3.body.isSome = true by kernel_rfl)
  have hlen : (s.data.toList.map (·.toNat)).length = s.size := by simp
  obtain ⟨σ', hr⟩ := bitsParses_run (lf := s.size + 32769) (m := 0) (σ := H.empty) wf_empty (s := s.data.toList.map (·.toNat)) (by rw [hlen]; omega) (by omega) (by rw [hlen]; unfold maxLen at hs; omega) (fun j => by
    rw [List.getD_eq_getElem?_getD, List.getElem?_map]
    cases s.data.toList[j]? with
    | none => decide
    | some b => exact b.toNat_lt)
  have hargs : VRL (E0 W) [.str (s.data.toList.map (·.toNat))] (#[.string s] : Array Value).toList := VRL.cons (VR.str s) VRL.nil
  have hname : (Tryz.f3.name == "runtime.NumGoroutine") = false := by kernel_rfl
  have hcalls := calls_of_run mixed (gok W) code1_ok (intr1_ok W) Tryz.func3 hb hname hargs hr
  refine hcalls.mono ?_
  rintro e W' ⟨cv, E', rfl, hcv, hrel, hE⟩
  rw [hcv.bool_inv]
  exact ⟨rfl, hrel.below hE⟩

set_option maxRecDepth 100000 in
theorem parses_lifted (os : Os) (started : os.Started) (H : Type) (enc : TypeId × Value → H) :
    ReturnsInHanded {} Tryz.checked os 3 .any (Rows.bitsParsesSpec.pre6 enc Tryz.prog Tryz.f3 Rows.bitsParsesRow.domain false) (Rows.bitsParsesSpec.post enc Tryz.prog Tryz.f3 false true false false) := by
  refine returnsInHanded_of_change (C := Tryz.checked) own started (by kernel_rfl) Tryz.func3
    (ChangeSpec.witness6 (enc := enc) (C := Tryz.checked) false ⟨#[], #[.string ⟨#[]⟩], []⟩ 8 (by kernel_rfl) (by kernel_rfl) (by kernel_rfl) (by kernel_rfl)) ?_
  intro W base args ds gs before hval0 hW _ _
  have hval : ∀ (j : Nat) t v, Tryz.f3.params[j]? = some t → args[j]? = some v → Value.okWide Tryz.prog W .any base t v := hval0
  have hW' := hW
  obtain ⟨p, q, hA0, hV, rfl, _, _⟩ := hW
  have hA : DataW.TrodAll enc Tryz.prog W 0 (fun _ => true) true Tryz.f3.params.toList args.toList ds p := hA0
  rw [Tryz.params3] at hA hval
  obtain ⟨v0, d0, rfl, rfl, h0⟩ := trodAll_one hA
  obtain ⟨rfl, rfl⟩ := trodVars_none hV
  obtain ⟨s, rfl, rfl, rfl, ws⟩ := open_string Tryz.underlying9 (hval 0 9 v0 rfl rfl) h0
  refine (parses_calls W s ws).mono fun e W' ⟨he, hb⟩ => ?_
  subst he
  have e1 : Rows.bitsParsesSpec.fn H ([.lit (.string s.data.toList)] ++ []) = { results := [.lit (.bool true)], args := [.lit (.string s.data.toList)] } := rfl
  refine ⟨_, rfl, _, _, _, [], [], [], hW', ?_, ?_, ?_, hb.frame _, fun h => by cases h⟩
  · rw [e1]; exact trodAll_mk1 (shut_bool Tryz.underlying4 true)
  · rw [e1]; exact trodAll_mk1 (shut_string Tryz.underlying9 ws)
  · rw [e1]; rfl

theorem bitsParses_holds : Rows.BitsParsesSaid :=
  OpenClaim.holds_of_wide 3 Tryz.f3 rfl rfl rfl rfl rfl rfl rfl ⟨rfl, rfl, rfl, rfl, rfl⟩ rfl rfl rfl rfl rfl (by kernel_rfl) Tryz.func3 (by kernel_rfl)
    (of_decide_eq_true (by kernel_rfl)) (by unfold Func.isWrapper; first | (rw [if_pos (by decide +kernel)]; kernel_rfl) | (rw [if_neg (by decide +kernel)]; exact ⟨rfl, rfl⟩))
    (fun os started H enc _ => parses_lifted os started H enc)
#print axioms bitsParses_holds
end Go.Proofs.YtahgfodccndcjaaGreat
