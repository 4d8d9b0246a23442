/- ElabOwn returns true, whatever the signature, and leaves it as it was, where what it reads is of bulk at most 1048576: the row and the tied card. -/
import Derived.Test.YtfgghbikbaopjaaGreatDoorCards
import Derived.Test.YtfgghbikbaopjaaGreatDoorTie
import Derived.Test.YtfgghbikbaopjaaGreatDoorAwake
import Derived.Test.YtfgghbikbaopjaaGreatDoorOpen
import Derived.Test.YtfgghbikbaopjaaGreatDoorFacts
import Derived.Test.YtfgghbikbaopjaaGreatDoorFactsB
import Derived.Test.YtfgghbikbaopjaaGreatDoorFactsC
import Derived.Test.YtfgghbikbaopjaaGreatDoorFactsD
import Derived.Test.YtfgghbikbaopjaaGreatDoorShelf
import Derived.Test.YtfgghbikbaopjaaGreatDoorEng32
import Derived.Test.YtfgghbikbaopjaaGreatDoorEng33
import Derived.ProofKit
import Derived.OpenShut
import Derived.LaidMore
import Derived.LaidLaws
import Derived.Lay
import Derived.JoinedCond
import Derived.Carry
import Derived.SevenTiedAt
import Derived.Stop.Joined
import Derived.Deep.DeepHandedRow
namespace Go.Proofs.YtfgghbikbaopjaaGreatDoor
open Go Go.ChangeShapes Go.WideShapes Go.ChangeAt Go.RowKit Go.Proofs.YtfgghbikbaopjaaGreatDoorEng

theorem own : ownKnob Tryz.prog.godebug = none := by kernel_rfl
theorem mixed : Tryz.prog.follows .mixedOrders = true := by kernel_rfl
/-- What the tables hold. -/
structure Held (W : World) : Prop where
  space : ∀ r, r < 256 → W.cell? ⟨1, r, none⟩ = some (.int .u8 (gSpaceL.getD r 0))
  bruijn : ∀ r, r < 64 → W.cell? ⟨4, r, none⟩ = some (.int .u8 (gBruijnL.getD r 0))
theorem held {W : World} (h : laidMet Tryz.prog Rows.elabOwnUptoRow.laid W) : Held W where
  space := byte_cells h (nm := "strings.asciiSpace") (L := gSpaceL) (List.mem_of_getElem? (i := 5) (by kernel_rfl)) (by kernel_rfl) (by kernel_rfl) Tryz.underlying375 Tryz.underlying5 (by kernel_rfl) (by kernel_rfl) (by kernel_rfl)
  bruijn := byte_cells h (nm := "math/bits.deBruijn64tab") (L := gBruijnL) (List.mem_of_getElem? (i := 1) (by kernel_rfl)) (by kernel_rfl) (by kernel_rfl) Tryz.underlying403 Tryz.underlying5 (by kernel_rfl) (by kernel_rfl) (by kernel_rfl)
theorem cell_same {w W : World} (h : ∀ b, b < W.heap.size → w.heap[b]? = W.heap[b]?) {a : Addr} {v : Value} (hc : W.cell? a = some v) : w.cell? a = some v := by
  have hb := World.block_lt_of_cell? _ _ hc
  unfold World.cell? at *
  rw [h _ hb]
  exact hc
theorem Held.same {w W : World} (h : Held W) (hw : ∀ b, b < W.heap.size → w.heap[b]? = W.heap[b]?) : Held w :=
  ⟨fun r hr => cell_same hw (h.space r hr), fun r hr => cell_same hw (h.bruijn r hr)⟩
theorem gSpace_len : gSpaceL.length = 256 := by kernel_rfl
theorem gBruijn_len : gBruijnL.length = 64 := by kernel_rfl
theorem gSpace_eq : gSpace = .rop (gSpaceL.map fun n => .int .u8 n) 0 := by kernel_rfl
theorem gBruijn_eq : gBruijn = .rop (gBruijnL.map fun n => .int .u8 n) 0 := by kernel_rfl

theorem gok {W : World} (h : Held W) : GOk G0 W := by
  intro g v hg E hE
  unfold G0 at hg
  split at hg
  · obtain rfl := Option.some.inj hg
    rw [gSpace_eq]
    exact VR_bytes (by rw [gSpace_len]; decide) (by rw [gSpace_len]; exact h.space) hE
  · obtain rfl := Option.some.inj hg
    rw [gBruijn_eq]
    exact VR_bytes (by rw [gBruijn_len]; decide) (by rw [gBruijn_len]; exact h.bruijn) hE
  · cases hg

theorem space_is : ((List.range 256).all fun c => gSpaceL.getD c 0 == (if Lib.isSp (UInt8.ofNat c) then 1 else 0)) = true := by kernel_rfl
theorem intr0_ok {W : World} (h : Held W) : ∀ f g, T0.intr f = some g → IntrOk Tryz.prog W f g := by
  intro f g hfg
  have hfg' : intr0 f = some g := hfg
  unfold intr0 at hfg'
  split at hfg'
  · obtain rfl := Option.some.inj hfg'
    exact iSame_ok Tryz.func212 (by kernel_rfl) (by kernel_rfl) (by kernel_rfl) (by kernel_rfl)
  · obtain rfl := Option.some.inj hfg'
    obtain ⟨body, hb⟩ := Option.isSome_iff_exists.1 (show Tryz.f225.body.isSome = true by kernel_rfl)
    exact iFields_ok (ρ := Tryz.lays157_ren) Tryz.lays157 (by kernel_rfl) (by kernel_rfl) (fun c hc => by
      have h1 := h.space c hc
      have h2 := List.all_eq_true.1 space_is c (List.mem_range.2 hc)
      rw [eq_of_beq h2] at h1
      exact h1) (fn := Tryz.f225) Tryz.func225 hb (by kernel_rfl)
  · obtain rfl := Option.some.inj hfg'
    exact iAdd64_ok Tryz.func295 (by kernel_rfl) (by kernel_rfl) (by kernel_rfl) (by kernel_rfl)
  · obtain rfl := Option.some.inj hfg'
    exact iIxb_ok Tryz.func320 (by kernel_rfl) (by kernel_rfl) (by kernel_rfl) (by kernel_rfl)
  · obtain rfl := Option.some.inj hfg'
    exact iMkNZ_ok Tryz.func322 (by kernel_rfl) (by kernel_rfl) (by kernel_rfl) (ps := Tryz.f322.params) (t := 114) (by kernel_rfl) Tryz.underlying114 (by kernel_rfl)
  · obtain rfl := Option.some.inj hfg'
    exact iCnt_ok Tryz.func336 (by kernel_rfl) (by kernel_rfl) (by kernel_rfl) (by kernel_rfl)
  · cases hfg'
theorem code0_ok : ∀ f c, T0.code f = some c → codeOf Tryz.prog G0 f = some c := fun f c hc => by
  have h : codes.find f = some c := hc
  exact BT.find_all (Q := fun f c => codeOf Tryz.prog G0 f = some c) codes_all h
theorem code1_ok : ∀ f c, T1.code f = some c → codeOf Tryz.prog G0 f = some c := fun f c hc => by
  have h : codes.find f = some c := hc
  exact BT.find_all (Q := fun f c => codeOf Tryz.prog G0 f = some c) codes_all h
set_option maxRecDepth 100000 in
theorem awake_ok {W : World} (h : Held W) : IntrOk Tryz.prog W 7 iTrue := by
  obtain ⟨body, hb⟩ := Option.isSome_iff_exists.1 (show Tryz.f7.body.isSome = true by kernel_rfl)
  have hname : (Tryz.f7.name == "runtime.NumGoroutine") = false := by kernel_rfl
  obtain ⟨σ', hr⟩ := isTrue_ret awake_run
  exact closed_ok mixed (fun w hw => gok (h.same hw)) code0_ok (fun w hw => intr0_ok (h.same hw)) Tryz.func7 hb hname hr
theorem intr1_ok {W : World} (h : Held W) : ∀ f g, T1.intr f = some g → IntrOk Tryz.prog W f g := by
  intro f g hfg
  have h' : intr1 f = some g := hfg
  unfold intr1 at h'
  split at h'
  · obtain rfl := Option.some.inj h'
    exact awake_ok h
  · cases h'

theorem wf_empty : WfH H.empty := by
  intro x b h
  unfold H.get at h
  rw [show H.empty.m = .lf from rfl, Tr.get_lf] at h
  cases h
set_option maxRecDepth 100000 in
/-- THE CALL. -/
theorem own_calls {W : World} (h : Held W) {u a f : V} {g : Sg} {v : Value} (hv : VR (E0 W) (.agg [u, a, f]) v) (hu : SP Est 9 false H.empty (fun _ => True) u g.us) (ha : SP Eda 33 false H.empty (fun _ => True) a g.ds)
    (hf : SP Efu 44 false H.empty (fun _ => True) f g.fs) (hsz : sgSz g ≤ 1048576) :
    Calls Tryz.prog 3 #[v] W fun e W' => e = .returned (.bool true) ∧ Below W.heap.size W W' := by
  obtain ⟨body, hb⟩ := Option.isSome_iff_exists.1 (show Tryz.f3.body.isSome = true by kernel_rfl)
  obtain ⟨σ', hr⟩ := own_run (lf := 2 * sgSz g + 100) (m := sgSz g) (σ := H.empty) wf_empty hu ha hf (by omega) (by omega) (by unfold BB; omega) (Nat.le_refl _)
  have hargs : VRL (E0 W) [.agg [u, a, f]] (#[v] : Array Value).toList := VRL.cons hv VRL.nil
  have hname : (Tryz.f3.name == "runtime.NumGoroutine") = false := by kernel_rfl
  have hcalls := calls_of_run mixed (gok h) code1_ok (intr1_ok h) Tryz.func3 hb hname hargs hr
  refine hcalls.mono ?_
  rintro e W' ⟨cv, E', rfl, hcv, hrel, hE⟩
  rw [hcv.bool_inv]
  exact ⟨rfl, hrel.below hE⟩

theorem nb_read : Tryz.prog.readableRec 26 = true := by kernel_rfl
def arg0 : Array Value := #[.agg #[.slice none 0 0, .slice none 0 0, .slice none 0 0]]
theorem reads (os : Os) {H : Type} (enc : TypeId × Value → H) : ∃ places, DataW.whole enc Tryz.prog ((World.laidAll Tryz.prog os Rows.elabOwnUptoRow.laid).forCall (fun _ _ => 0) ⟨#[], arg0, []⟩).memory Tryz.f3.params.toList (Rows.OpenSpec.upto Rows.elabOwnSpec).vars false arg0.toList 8 = some ([.agg [.nil, .nil, .nil]], [], places) :=
  ⟨[], by kernel_rfl⟩
theorem own_witness {os : Os} {H : Type} {enc : TypeId × Value → H} : ∃ (w : World) (tape : Tape) (i : Input), w.os = os ∧ (w.forCall tape i).Shaped Tryz.prog ∧ i.vars = [] ∧ Input.okWide Tryz.prog (w.forCall tape i) .any w.heap.size 3 i ∧
    (Rows.OpenSpec.upto Rows.elabOwnSpec).preRow enc Tryz.prog Tryz.f3 Rows.elabOwnUptoRow.domain false Rows.elabOwnUptoRow.laid (w.forCall tape i).memory i.args ∧ ({} : Assume).holds Tryz.prog (lone (Frame.enter Tryz.prog 3 i.args .normal) [] (w.forCall tape i)) := by
  have hok : Input.okWideB Tryz.prog ((World.laidAll Tryz.prog os Rows.elabOwnUptoRow.laid).forCall (fun _ _ => 0) ⟨#[], arg0, []⟩) 3 ⟨#[], arg0, []⟩ = true := by kernel_rfl
  obtain ⟨places, hx⟩ := reads os enc
  refine ⟨World.laidAll Tryz.prog os Rows.elabOwnUptoRow.laid, fun _ _ => 0, ⟨#[], arg0, []⟩, World.laidAll_os _ _ _, World.shaped_of_ZipB (by kernel_rfl) (by kernel_rfl), (Input.okWide_of_okWideB (base := 0) hok).1, (Input.okWide_of_okWideB hok).2,
    OpenSpec.preRow_of_cond 8 hx (by kernel_rfl) (fun k hk => by cases hk; kernel_rfl) (by kernel_rfl) (by rw [MakeChecks.laidMetH_plain _ _ _ (by kernel_rfl)]; exact laidMet_laidAll _ (by kernel_rfl) (by kernel_rfl)), ?_⟩
  simp only [Assume.holds]
  exact ⟨by simp, by simp, fun _ => Modest.zero, by simp, by simp⟩

set_option maxRecDepth 100000 in
theorem own_lifted (os : Os) (started : os.Started) (H : Type) (enc : TypeId × Value → H) (F0 : Stop.Interp) :
    ReturnsInHanded {} Tryz.checked os 3 .any ((Rows.OpenSpec.upto Rows.elabOwnSpec).preRow enc Tryz.prog Tryz.f3 Rows.elabOwnUptoRow.domain false Rows.elabOwnUptoRow.laid) (((Rows.OpenSpec.upto Rows.elabOwnSpec).at F0).post enc Tryz.prog Tryz.f3 false true false false) := by
  refine returnsInHanded_of_row (C := Tryz.checked) (s := Rows.OpenSpec.upto Rows.elabOwnSpec) own started (by kernel_rfl) Tryz.func3 own_witness ?_
  intro W base args ds gs before hval0 hW _ hk _ hL _ _
  have hval : ∀ (j : Nat) t v, Tryz.f3.params[j]? = some t → args[j]? = some v → Value.okWide Tryz.prog W .any base t v := hval0
  have hW' := hW
  have hlt := hW.lt
  obtain ⟨p, q, hA0, hV, rfl, _, _⟩ := hW
  have hA : DataW.TrodAll enc Tryz.prog W 0 (fun _ => true) true Tryz.f3.params.toList args.toList ds p := hA0
  rw [Tryz.params3] at hA hval
  obtain ⟨v0, d0, rfl, rfl, h0⟩ := trodAll_one hA
  obtain ⟨rfl, rfl⟩ := trodVars_none hV
  have hL' : laidMet Tryz.prog Rows.elabOwnUptoRow.laid W := by
    have := hL
    rw [MakeChecks.laidMetH_plain _ _ _ (by kernel_rfl)] at this
    exact this
  have hH := held hL'
  have hW0 : 0 < W.heap.size := Nat.lt_of_le_of_lt (Nat.zero_le _) (World.block_lt_of_cell? _ _ (hH.space 0 (by decide)))
  obtain ⟨u, a, f, g, hv, hu, ha, hf, hd⟩ := open_sig hW0 (hval 0 26 v0 rfl rfl) h0
  have hsz : sgSz g ≤ 1048576 := by
    have h2 := of_decide_eq_true (hk _ rfl)
    simp only [List.append_nil, Rows.uptoBulkAll] at h2
    omega
  refine (own_calls hH hv hu ha hf hsz).mono fun e W' ⟨he, hb⟩ => ?_
  subst he
  have e1 : ((Rows.OpenSpec.upto Rows.elabOwnSpec).at F0).fn H ([d0] ++ []) = { results := [.lit (.bool true)], args := [d0] } := rfl
  refine ⟨_, rfl, _, _, _, [], p, [], hW', ?_, ?_, ?_, hb.frame _, fun h => by cases h⟩
  · rw [e1]; exact trodAll_mk1 (shut_bool Tryz.underlying4 true)
  · rw [e1]; exact trodAll_mk1 (hb.trod nb1 nb_read (of_decide_eq_true (by kernel_rfl)) h0 (fun x hx => hlt x (List.mem_append_left _ hx)))
  · rw [e1]; rfl

theorem band {a b : Bool} (h : a = true) (h' : b = true) : (a && b) = true := by rw [h, h']; rfl
set_option maxRecDepth 100000 in
theorem nb_closed : joinedFacts Tryz.prog 3 Tryz.f3 (Rows.OpenSpec.upto Rows.elabOwnSpec).bare Rows.elabOwnUptoRow = true := by
  unfold joinedFacts
  exact ((band (band (band (band (band (band (band (band (band (band (band (band (band (band (band (band (band (band (band (band (band (band (band (band (band (band (band (band (band (band (band nb0 nb1) nb2) nb3) nb4) nb5) nb6) nb7) nb8) nb9) nb10) nb11) nb12) nb13) nb14) nb15) nb16) nb17) nb18) nb19) nb20) nb21) nb22) nb23) nb24) nb25) nb26) nb27) nb28) nb29) nb30) nb31))
theorem elabOwn_holds : Rows.ElabOwnUptoSaid :=
  OpenClaim.holds_of_cond 3 Tryz.f3 rfl rfl rfl rfl rfl rfl rfl ⟨rfl, rfl, rfl, rfl, rfl⟩ rfl rfl rfl rfl rfl nb_name Tryz.func3 nb_closed
    nb_inst nb_wrap (fun os started H enc _ F => by rw [OpenClaim.pre_eq_preRow]; exact own_lifted os started H enc F)
theorem elabOwn_card : Rows.ElabOwnUptoCardSaid :=
  Claim7.holds_tied_plain_at .later [] [.data, .data, .data, .data, .listed, .data, .pinned, .pinned] true (true, "5eb932d640fb09bbdb294dbfe636880b2e5fe5907ddbbb94e8ba69101b7528b5") true elabOwn_holds (fun _ h => by cases h) nb_wf (fun _ h => by cases h) elabOwnUpto_row_tie rfl ⟨rfl, rfl⟩ nb_main rfl
    (fun f fn hf hfn => by
      obtain rfl : f = 3 := Option.some.inj (nb_name.symm.trans hf) |>.symm
      obtain rfl : fn = Tryz.f3 := (Option.some.inj (Tryz.func3.symm.trans hfn)).symm
      exact ⟨nb_looks, fun j t ht => by
        rw [Tryz.params3] at ht
        have hm : t ∈ [26] := by simpa using Array.mem_of_getElem? ht
        exact (show Tryz.prog.wantsStandIn t = false by simpa using List.all_eq_true.1 nb_stand t hm)⟩)
    nb_goes
#print axioms elabOwn_card
end Go.Proofs.YtfgghbikbaopjaaGreatDoor
