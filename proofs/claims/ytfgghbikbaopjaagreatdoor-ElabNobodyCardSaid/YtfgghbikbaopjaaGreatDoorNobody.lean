/- ElabNobody returns true, whatever its argument, and leaves it as it was: the row and the tied card. -/
import Derived.Test.YtfgghbikbaopjaaGreatDoorCards
import Derived.Test.YtfgghbikbaopjaaGreatDoorTie
import Derived.Test.YtfgghbikbaopjaaGreatDoorRun
import Derived.Test.YtfgghbikbaopjaaGreatDoorFacts
import Derived.Test.YtfgghbikbaopjaaGreatDoorFactsB
import Derived.Test.YtfgghbikbaopjaaGreatDoorShelf
import Derived.Test.YtfgghbikbaopjaaGreatDoorEng32
import Derived.ProofKit
import Derived.OpenShut
import Derived.LaidMore
import Derived.Lay
import Derived.SevenTiedAt
import Derived.Stop.Joined
namespace Go.Proofs.YtfgghbikbaopjaaGreatDoor
open Go Go.ChangeShapes Go.WideShapes Go.ChangeAt Go.RowKit Go.Proofs.YtfgghbikbaopjaaGreatDoorEng

theorem own : ownKnob Tryz.prog.godebug = none := by kernel_rfl
theorem space_cells {W : World} (h : laidMet Tryz.prog Rows.elabNobodyRow.laid W) : ∀ r, r < 256 → W.cell? ⟨1, r, none⟩ = some (.int .u8 (gSpaceL.getD r 0)) :=
  byte_cells h (nm := "strings.asciiSpace") (L := gSpaceL) (List.mem_of_getElem? (i := 5) (by kernel_rfl)) (by kernel_rfl) (by kernel_rfl) Tryz.underlying375 Tryz.underlying5 (by kernel_rfl) (by kernel_rfl) (by kernel_rfl)
theorem bruijn_cells {W : World} (h : laidMet Tryz.prog Rows.elabNobodyRow.laid W) : ∀ r, r < 64 → W.cell? ⟨4, r, none⟩ = some (.int .u8 (gBruijnL.getD r 0)) :=
  byte_cells h (nm := "math/bits.deBruijn64tab") (L := gBruijnL) (List.mem_of_getElem? (i := 1) (by kernel_rfl)) (by kernel_rfl) (by kernel_rfl) Tryz.underlying403 Tryz.underlying5 (by kernel_rfl) (by kernel_rfl) (by kernel_rfl)
theorem gSpace_len : gSpaceL.length = 256 := by kernel_rfl
theorem gBruijn_len : gBruijnL.length = 64 := by kernel_rfl
theorem gSpace_eq : gSpace = .rop (gSpaceL.map fun n => .int .u8 n) 0 := by kernel_rfl
theorem gBruijn_eq : gBruijn = .rop (gBruijnL.map fun n => .int .u8 n) 0 := by kernel_rfl

theorem gok {W : World} (h : laidMet Tryz.prog Rows.elabNobodyRow.laid W) : GOk G0 W := by
  intro g v hg E hE
  unfold G0 at hg
  split at hg
  · obtain rfl := Option.some.inj hg
    rw [gSpace_eq]
    exact VR_bytes (by rw [gSpace_len]; decide) (by rw [gSpace_len]; exact space_cells h) hE
  · obtain rfl := Option.some.inj hg
    rw [gBruijn_eq]
    exact VR_bytes (by rw [gBruijn_len]; decide) (by rw [gBruijn_len]; exact bruijn_cells h) hE
  · cases hg

theorem space_is : ((List.range 256).all fun c => gSpaceL.getD c 0 == (if Lib.isSp (UInt8.ofNat c) then 1 else 0)) = true := by kernel_rfl
theorem intr_ok {W : World} (h : laidMet Tryz.prog Rows.elabNobodyRow.laid W) : ∀ f g, T0.intr f = some g → IntrOk Tryz.prog W f g := by
  intro f g hfg
  have hfg' : intr0 f = some g := hfg
  unfold intr0 at hfg'
  split at hfg'
  · obtain rfl := Option.some.inj hfg'
    exact iSame_ok Tryz.func212 (by kernel_rfl) (by kernel_rfl) (by kernel_rfl) (by kernel_rfl)
  · obtain rfl := Option.some.inj hfg'
    obtain ⟨body, hb⟩ := Option.isSome_iff_exists.1 (show Tryz.f225.body.isSome = true by kernel_rfl)
    exact iFields_ok (ρ := Tryz.lays157_ren) Tryz.lays157 (by kernel_rfl) (by kernel_rfl) (fun c hc => by
      have h1 := space_cells h c hc
      have h2 := List.all_eq_true.1 space_is c (List.mem_range.2 hc)
      rw [eq_of_beq h2] at h1
      exact h1) (fn := Tryz.f225) Tryz.func225 hb (by kernel_rfl)
  · obtain rfl := Option.some.inj hfg'
    exact iAdd64_ok Tryz.func295 (by kernel_rfl) (by kernel_rfl) (by kernel_rfl) (by kernel_rfl)
  · obtain rfl := Option.some.inj hfg'
    exact iIxb_ok Tryz.func320 (by kernel_rfl) (by kernel_rfl) (by kernel_rfl) (by kernel_rfl)
  · obtain rfl := Option.some.inj hfg'
    exact iMkNZ_ok Tryz.func322 (by kernel_rfl) (by kernel_rfl) (by kernel_rfl) (ps := Tryz.f322.params) (t := 114) (by kernel_rfl) Tryz.underlying114 (by kernel_rfl)
  · obtain rfl := Option.some.inj hfg'
    exact iCnt_ok Tryz.func336 (by kernel_rfl) (by kernel_rfl) (by kernel_rfl) (by kernel_rfl)
  · cases hfg'

theorem code_ok : ∀ f c, T0.code f = some c → codeOf Tryz.prog G0 f = some c := fun f c hc => by
  have h : codes.find f = some c := hc
  exact BT.find_all (Q := fun f c => codeOf Tryz.prog G0 f = some c) codes_all h
theorem cells77 : Tryz.prog.cellsOf 77 = 18 := by kernel_rfl
theorem any18_eq : any18 = List.replicate 18 .any := by kernel_rfl
theorem nb_read : Tryz.prog.readableRec 77 = true := by kernel_rfl
set_option maxRecDepth 100000 in
/-- THE CALL. -/
theorem nobody_calls {W : World} (h : laidMet Tryz.prog Rows.elabNobodyRow.laid W) {r : Reach} {b : Nat} {w : World} {v : Value} (hv : Value.okWide Tryz.prog w r b 77 v) :
    Calls Tryz.prog 5 #[v] W fun e W' => e = .returned (.bool true) ∧ Below W.heap.size W W' := by
  obtain ⟨body, hb⟩ := Option.isSome_iff_exists.1 (show Tryz.f5.body.isSome = true by kernel_rfl)
  obtain ⟨σ', hr⟩ := isTrue_ret nobody_run
  have harg : VR (E0 W) (.agg any18) v := any_arg (P := Tryz.prog) (w := w) (r := r) (b := b) (t := 77) (v := v) (n := 18) (E := E0 W) (c := any18) Tryz.underlying77 hv cells77 any18_eq
  have hargs : VRL (E0 W) [.agg any18] (#[v] : Array Value).toList := VRL.cons harg VRL.nil
  have hmo : Tryz.prog.follows .mixedOrders = true := by kernel_rfl
  have hname : (Tryz.f5.name == "runtime.NumGoroutine") = false := by kernel_rfl
  have hcalls := calls_of_run hmo (gok h) code_ok (intr_ok h) Tryz.func5 hb hname hargs hr
  refine hcalls.mono ?_
  · rintro e W' ⟨cv, E', rfl, hcv, hrel, hE⟩
    rw [hcv.bool_inv]
    exact ⟨rfl, hrel.below hE⟩

set_option maxRecDepth 100000 in
theorem nobody_lifted (os : Os) (started : os.Started) (H : Type) (enc : TypeId × Value → H) :
    ReturnsInHanded {} Tryz.checked os 5 .any (fun w args => (Rows.elabNobodySpec.pre enc Tryz.prog Tryz.f5 Rows.elabNobodyRow.domain false w args ∧ laidMetH Tryz.prog Rows.elabNobodyRow.laid w) ∧ sizedMet enc Tryz.prog Tryz.f5 (OpenSpec.ofChange Rows.elabNobodySpec) false w args)
      (Rows.elabNobodySpec.post enc Tryz.prog Tryz.f5 false true false false) := by
  refine returnsInHanded_of_change_and (C := Tryz.checked) (X := fun w _ => laidMetH Tryz.prog Rows.elabNobodyRow.laid w) (fun _ _ _ hh h => h.of_heap hh) own started (by kernel_rfl) Tryz.func5
    (ChangeSpec.witness_shaped (enc := enc) (C := Tryz.checked) (os := os) (X := fun w _ => laidMetH Tryz.prog Rows.elabNobodyRow.laid w) false (World.laidAll Tryz.prog os Rows.elabNobodyRow.laid)
      #[.agg #[.int .i64 0, .int .i64 0, .string ⟨#[]⟩, .slice none 0 0, .string ⟨#[]⟩, .slice none 0 0, .int .i64 0, .int .i64 0, .string ⟨#[]⟩, .slice none 0 0, .slice none 0 0, .slice none 0 0, .int .i64 0, .int .i64 0, .string ⟨#[]⟩, .slice none 0 0, .slice none 0 0, .int .i64 0]] 8 (World.laidAll_os _ _ _)
      (World.shaped_of_ZipB (by kernel_rfl) (by kernel_rfl)) (by kernel_rfl) (by kernel_rfl) (by kernel_rfl)
      (by rw [MakeChecks.laidMetH_plain _ _ _ (by kernel_rfl)]; exact laidMet_laidAll _ (by kernel_rfl) (by kernel_rfl))) ?_
  intro W base args ds gs before hval0 hW hc _ hL _
  have hval : ∀ (j : Nat) t v, Tryz.f5.params[j]? = some t → args[j]? = some v → Value.okWide Tryz.prog W .any base t v := hval0
  have hW' := hW
  have hlt := hW.lt
  obtain ⟨p, q, hA0, hV, rfl, _, _⟩ := hW
  have hA : DataW.TrodAll enc Tryz.prog W 0 (fun _ => true) true Tryz.f5.params.toList args.toList ds p := hA0
  rw [Tryz.params5] at hA hval
  obtain ⟨v0, d0, rfl, rfl, h0⟩ := trodAll_one hA
  obtain ⟨rfl, rfl⟩ := trodVars_none hV
  have hL' : laidMet Tryz.prog Rows.elabNobodyRow.laid W := by
    have := hL
    rw [MakeChecks.laidMetH_plain _ _ _ (by kernel_rfl)] at this
    exact this
  refine (nobody_calls hL' (hval 0 77 v0 rfl rfl)).mono fun e W' ⟨he, hb⟩ => ?_
  subst he
  have e1 : Rows.elabNobodySpec.fn H ([d0] ++ []) = { results := [.lit (.bool true)], args := [d0] } := rfl
  refine ⟨_, rfl, _, _, _, [], p, [], hW', ?_, ?_, ?_, hb.frame _, fun h => by cases h⟩
  · rw [e1]; exact trodAll_mk1 (shut_bool Tryz.underlying4 true)
  · rw [e1]; exact trodAll_mk1 (hb.trod nb1 nb_read (of_decide_eq_true (by kernel_rfl)) h0 (fun x hx => hlt x (List.mem_append_left _ hx)))
  · rw [e1]; rfl

theorem band {a b : Bool} (h : a = true) (h' : b = true) : (a && b) = true := by rw [h, h']; rfl
set_option maxRecDepth 100000 in
theorem nb_closed : joinedFacts Tryz.prog 5 Tryz.f5 Rows.elabNobodySpec Rows.elabNobodyRow = true := by
  unfold joinedFacts
  exact (band (band (band (band (band (band (band (band (band (band (band (band (band (band (band (band (band (band (band (band (band (band (band (band (band (band (band (band (band (band (band nb0 nb1) nb2) nb3) nb4) nb5) nb6) nb7) nb8) nb9) nb10) nb11) nb12) nb13) nb14) nb15) nb16) nb17) nb18) nb19) nb20) nb21) nb22) nb23) nb24) nb25) nb26) nb27) nb28) nb29) nb30) nb31)
theorem elabNobody_holds : Rows.ElabNobodySaid :=
  OpenClaim.holds_of_wide 5 Tryz.f5 rfl rfl rfl rfl rfl rfl rfl ⟨rfl, rfl, rfl, rfl, rfl⟩ rfl rfl rfl rfl rfl nb_name Tryz.func5 nb_closed
    nb_inst nb_wrap (fun os started H enc _ => nobody_lifted os started H enc)
theorem elabNobody_card : Rows.ElabNobodyCardSaid :=
  Claim7.holds_tied_plain_at .later [] [.data, .data, .data, .data, .listed, .data, .pinned, .pinned] true (true, "5eb932d640fb09bbdb294dbfe636880b2e5fe5907ddbbb94e8ba69101b7528b5") true elabNobody_holds (fun _ h => by cases h) nb_wf (fun _ h => by cases h) elabNobody_row_tie rfl ⟨rfl, rfl⟩ nb_main rfl
    (fun f fn hf hfn => by
      obtain rfl : f = 5 := Option.some.inj (nb_name.symm.trans hf) |>.symm
      obtain rfl : fn = Tryz.f5 := (Option.some.inj (Tryz.func5.symm.trans hfn)).symm
      exact ⟨nb_looks, fun j t ht => by
        rw [Tryz.params5] at ht
        have hm : t ∈ [77] := by simpa using Array.mem_of_getElem? ht
        exact (show Tryz.prog.wantsStandIn t = false by simpa using List.all_eq_true.1 nb_stand t hm)⟩)
    nb_goes
#print axioms elabNobody_card
end Go.Proofs.YtfgghbikbaopjaaGreatDoor
