/- StackNobody returns true, whatever its argument, and leaves it as it was: the row and the tied card. -/
import Derived.Test.YtbnllnbeapfmbaaGreatDoorCards
import Derived.Test.YtbnllnbeapfmbaaGreatDoorTied
import Derived.Test.YtbnllnbeapfmbaaGreatDoorRun
import Derived.Test.YtbnllnbeapfmbaaGreatDoorFacts
import Derived.Test.YtbnllnbeapfmbaaGreatDoorFactsB
import Derived.Test.YtbnllnbeapfmbaaGreatDoorFactsC
import Derived.Test.YtbnllnbeapfmbaaGreatDoorFactsD
import Derived.Test.YtbnllnbeapfmbaaGreatDoorFactsG
import Derived.Test.YtbnllnbeapfmbaaGreatDoorFactsH
import Derived.Test.YtbnllnbeapfmbaaGreatDoorShelf
import Derived.Test.YtbnllnbeapfmbaaGreatDoorEng32
import Derived.ProofKit
import Derived.OpenShut
import Derived.LaidMore
import Derived.Lay
import Derived.SevenTiedAt
import Derived.Stop.Joined
namespace Go.Proofs.YtbnllnbeapfmbaaGreatDoor
open Go Go.ChangeShapes Go.WideShapes Go.ChangeAt Go.RowKit Go.Proofs.YtbnllnbeapfmbaaGreatDoorEng

theorem own : ownKnob Tryz.prog.godebug = none := by kernel_rfl
/-- which bytes are blanks -/
def gSpaceL : List Int := (List.range 256).map fun c => if Lib.isSp (UInt8.ofNat c) then 1 else 0
theorem space_cells {W : World} (h : laidMet Tryz.prog Rows.stackNobodyRow.laid W) : ∀ r, r < 256 → W.cell? ⟨0, r, none⟩ = some (.int .u8 (gSpaceL.getD r 0)) :=
  byte_cells h (nm := "strings.asciiSpace") (L := gSpaceL) (List.mem_of_getElem? (i := 6) (by kernel_rfl)) (by kernel_rfl) (by kernel_rfl) Tryz.underlying220 Tryz.underlying5 (by kernel_rfl) (by kernel_rfl) (by kernel_rfl)
theorem gok (W : World) : GOk G0 W := by
  intro g v hg
  have : (none : Option V) = some v := hg
  cases this

theorem space_is : ((List.range 256).all fun c => gSpaceL.getD c 0 == (if Lib.isSp (UInt8.ofNat c) then 1 else 0)) = true := by kernel_rfl
theorem intr_ok {W : World} (h : laidMet Tryz.prog Rows.stackNobodyRow.laid W) : ∀ f g, T0.intr f = some g → IntrOk Tryz.prog W f g := by
  intro f g hfg
  have hfg' : intr0 f = some g := hfg
  unfold intr0 at hfg'
  split at hfg'
  · obtain rfl := Option.some.inj hfg'
    obtain ⟨body, hb⟩ := Option.isSome_iff_exists.1 (show Tryz.f53.body.isSome = true by kernel_rfl)
    exact iFields_ok (ρ := Tryz.lays157_ren) Tryz.lays157 (by kernel_rfl) (by kernel_rfl) (fun c hc => by
      have h1 := space_cells h c hc
      have h2 := List.all_eq_true.1 space_is c (List.mem_range.2 hc)
      rw [eq_of_beq h2] at h1
      exact h1) (fn := Tryz.f53) Tryz.func53 hb (by kernel_rfl)
  · obtain rfl := Option.some.inj hfg'
    exact iSame_ok Tryz.func360 (by kernel_rfl) (by kernel_rfl) (by kernel_rfl) (by kernel_rfl)
  · cases hfg'

theorem code_ok : ∀ f c, T0.code f = some c → codeOf Tryz.prog G0 f = some c := fun f c hc => by
  have h : codes.find f = some c := hc
  exact BT.find_all (Q := fun f c => codeOf Tryz.prog G0 f = some c) codes_all h
theorem cells37 : Tryz.prog.cellsOf 37 = 20 := by kernel_rfl
theorem any20_eq : any20 = List.replicate 20 .any := by kernel_rfl
theorem nb_read : Tryz.prog.readableRec 37 = true := by kernel_rfl
set_option maxRecDepth 100000 in
/-- THE CALL. -/
theorem nobody_calls {W : World} (h : laidMet Tryz.prog Rows.stackNobodyRow.laid W) {r : Reach} {b : Nat} {w : World} {v : Value} (hv : Value.okWide Tryz.prog w r b 37 v) :
    Calls Tryz.prog 3 #[v] W fun e W' => e = .returned (.bool true) ∧ Below W.heap.size W W' := by
  obtain ⟨body, hb⟩ := Option.isSome_iff_exists.1 (show Tryz.f3.body.isSome = true by kernel_rfl)
  obtain ⟨σ', hr⟩ := isTrue_ret nobody_run
  have harg : VR (E0 W) (.agg any20) v := any_arg (P := Tryz.prog) (w := w) (r := r) (b := b) (t := 37) (v := v) (n := 20) (E := E0 W) (c := any20) Tryz.underlying37 hv cells37 any20_eq
  have hargs : VRL (E0 W) [.agg any20] (#[v] : Array Value).toList := VRL.cons harg VRL.nil
  have hmo : Tryz.prog.follows .mixedOrders = true := by kernel_rfl
  have hname : (Tryz.f3.name == "runtime.NumGoroutine") = false := by kernel_rfl
  have hcalls := calls_of_run hmo (gok W) code_ok (intr_ok h) Tryz.func3 hb hname hargs hr
  refine hcalls.mono ?_
  · rintro e W' ⟨cv, E', rfl, hcv, hrel, hE⟩
    rw [hcv.bool_inv]
    exact ⟨rfl, hrel.below hE⟩

set_option maxRecDepth 100000 in
theorem nobody_lifted (os : Os) (started : os.Started) (H : Type) (enc : TypeId × Value → H) :
    ReturnsInHanded {} Tryz.checked os 3 .any (fun w args => (Rows.stackNobodySpec.pre enc Tryz.prog Tryz.f3 Rows.stackNobodyRow.domain false w args ∧ laidMetH Tryz.prog Rows.stackNobodyRow.laid w) ∧ sizedMet enc Tryz.prog Tryz.f3 (OpenSpec.ofChange Rows.stackNobodySpec) false w args)
      (Rows.stackNobodySpec.post enc Tryz.prog Tryz.f3 false true false false) := by
  refine returnsInHanded_of_change_and (C := Tryz.checked) (X := fun w _ => laidMetH Tryz.prog Rows.stackNobodyRow.laid w) (fun _ _ _ hh h => h.of_heap hh) own started (by kernel_rfl) Tryz.func3
    (ChangeSpec.witness_shaped (enc := enc) (C := Tryz.checked) (os := os) (X := fun w _ => laidMetH Tryz.prog Rows.stackNobodyRow.laid w) false (World.laidAll Tryz.prog os Rows.stackNobodyRow.laid)
      #[.agg #[.int .i64 0, .int .i64 0, .string ⟨#[]⟩, .slice none 0 0, .string ⟨#[]⟩, .slice none 0 0, .int .i64 0, .int .i64 0, .string ⟨#[]⟩, .slice none 0 0, .slice none 0 0, .slice none 0 0, .int .i64 0, .int .i64 0, .string ⟨#[]⟩, .slice none 0 0, .slice none 0 0, .int .i64 0, .int .i64 0, .slice none 0 0]] 8 (World.laidAll_os _ _ _)
      (World.shaped_of_ZipB (by kernel_rfl) (by kernel_rfl)) (by kernel_rfl) (by kernel_rfl) (by kernel_rfl)
      (by rw [MakeChecks.laidMetH_plain _ _ _ (by kernel_rfl)]; exact laidMet_laidAll _ (by kernel_rfl) (by kernel_rfl))) ?_
  intro W base args ds gs before hval0 hW hc _ hL _
  have hval : ∀ (j : Nat) t v, Tryz.f3.params[j]? = some t → args[j]? = some v → Value.okWide Tryz.prog W .any base t v := hval0
  have hW' := hW
  have hlt := hW.lt
  obtain ⟨p, q, hA0, hV, rfl, _, _⟩ := hW
  have hA : DataW.TrodAll enc Tryz.prog W 0 (fun _ => true) true Tryz.f3.params.toList args.toList ds p := hA0
  rw [Tryz.params3] at hA hval
  obtain ⟨v0, d0, rfl, rfl, h0⟩ := trodAll_one hA
  obtain ⟨rfl, rfl⟩ := trodVars_none hV
  have hL' : laidMet Tryz.prog Rows.stackNobodyRow.laid W := by
    have := hL
    rw [MakeChecks.laidMetH_plain _ _ _ (by kernel_rfl)] at this
    exact this
  refine (nobody_calls hL' (hval 0 37 v0 rfl rfl)).mono fun e W' ⟨he, hb⟩ => ?_
  subst he
  have e1 : Rows.stackNobodySpec.fn H ([d0] ++ []) = { results := [.lit (.bool true)], args := [d0] } := rfl
  refine ⟨_, rfl, _, _, _, [], p, [], hW', ?_, ?_, ?_, hb.frame _, fun h => by cases h⟩
  · rw [e1]; exact trodAll_mk1 (shut_bool Tryz.underlying4 true)
  · rw [e1]; exact trodAll_mk1 (hb.trod nb1 nb_read (of_decide_eq_true (by kernel_rfl)) h0 (fun x hx => hlt x (List.mem_append_left _ hx)))
  · rw [e1]; rfl

theorem band {a b : Bool} (h : a = true) (h' : b = true) : (a && b) = true := by rw [h, h']; rfl
set_option maxRecDepth 100000 in
theorem nb_closed : joinedFacts Tryz.prog 3 Tryz.f3 Rows.stackNobodySpec Rows.stackNobodyRow = true := by
  unfold joinedFacts
  exact (band (band (band (band (band (band (band (band (band (band (band (band (band (band (band (band (band (band (band (band (band (band (band (band (band (band (band (band (band (band (band nb0 nb1) nb2) nb3) nb4) nb5) nb6) nb7) nb8) nb9) nb10) nb11) nb12) nb13) nb14) nb15) nb16) nb17) nb18) nb19) nb20) nb21) nb22) nb23) nb24) nb25) nb26) nb27) nb28) nb29) nb30) nb31)
theorem stackNobody_holds : Rows.StackNobodySaid :=
  OpenClaim.holds_of_wide 3 Tryz.f3 rfl rfl rfl rfl rfl rfl rfl ⟨rfl, rfl, rfl, rfl, rfl⟩ rfl rfl rfl rfl rfl nb_name Tryz.func3 nb_closed
    nb_inst nb_wrap (fun os started H enc _ => nobody_lifted os started H enc)
theorem stackNobody_card : Rows.StackNobodyCardSaid :=
  Claim7.holds_tied_plain_at .later [] [.pinned, .data, .pinned, .data, .data, .data, .data, .listed] true (true, "d1a09f5923c599f8b6393819bc75be5592d1bce4f349b60e4bb1e3a18b56a92d") true stackNobody_holds (fun _ h => by cases h) nb_wf (fun _ h => by cases h) stackNobody_row_tie rfl ⟨rfl, rfl⟩ nb_main rfl
    (fun f fn hf hfn => by
      obtain rfl : f = 3 := Option.some.inj (nb_name.symm.trans hf) |>.symm
      obtain rfl : fn = Tryz.f3 := (Option.some.inj (Tryz.func3.symm.trans hfn)).symm
      exact ⟨nb_looks, fun j t ht => by
        rw [Tryz.params3] at ht
        have hm : t ∈ [37] := by simpa using Array.mem_of_getElem? ht
        exact (show Tryz.prog.wantsStandIn t = false by simpa using List.all_eq_true.1 nb_stand t hm)⟩)
    nb_goes
#print axioms stackNobody_card
end Go.Proofs.YtbnllnbeapfmbaaGreatDoor
