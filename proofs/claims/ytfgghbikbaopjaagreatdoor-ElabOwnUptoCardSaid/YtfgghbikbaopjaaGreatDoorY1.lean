/- Symbolic runs: what the other seats' first texts say, apart from their functions. -/
/- Slices whose elements take several cells: those that came in (ros), those of new memory (own). -/
/- Loops over a slice; what a sort, a selector, a constructor, a datatype, a function are in memory. -/
/- Symbolic runs: more rules; copies of sorts and functions. (Numbers of seat r3.) -/
/- Symbolic runs: Clone, Index, IndexFunc, ContainsFunc, each for every type. -/
/- Symbolic runs: copies of functions and datatypes. (Numbers of seat r3.) -/
/- Symbolic runs: copies of datatypes. (Numbers of seat r3.) -/
import Derived.Test.YtfgghbikbaopjaaGreatDoorSym2
import Derived.Test.YtfgghbikbaopjaaGreatDoorCodes
import Derived.Test.YtfgghbikbaopjaaGreatDoorEng33
namespace Go.Proofs.YtfgghbikbaopjaaGreatDoorEng
open Go
set_option maxRecDepth 100000
set_option linter.unusedSimpArgs false

/-- the slots -/
theorem QU : p0 = pk 0 ∧ t0 = Arg.t (pk 0) ∧ p1 = pk 1 ∧ t1 = Arg.t (pk 1) ∧ p2 = pk 2 ∧ t2 = Arg.t (pk 2) ∧ p3 = pk 3 ∧ t3 = Arg.t (pk 3) ∧ p4 = pk 4 ∧ t4 = Arg.t (pk 4) ∧ p5 = pk 5 ∧ t5 = Arg.t (pk 5) ∧ p6 = pk 6 ∧ t6 = Arg.t (pk 6) ∧ p7 = pk 7 ∧ t7 = Arg.t (pk 7) ∧ p8 = pk 8 ∧ t8 = Arg.t (pk 8) ∧ p9 = pk 9 ∧ t9 = Arg.t (pk 9) ∧ p10 = pk 10 ∧ t10 = Arg.t (pk 10) ∧ p11 = pk 11 ∧ t11 = Arg.t (pk 11) ∧ p12 = pk 12 ∧ t12 = Arg.t (pk 12) ∧ p13 = pk 13 ∧ t13 = Arg.t (pk 13) ∧ p14 = pk 14 ∧ t14 = Arg.t (pk 14) ∧ p15 = pk 15 ∧ t15 = Arg.t (pk 15) ∧ p16 = pk 16 ∧ t16 = Arg.t (pk 16) ∧ p17 = pk 17 ∧ t17 = Arg.t (pk 17) ∧ p18 = pk 18 ∧ t18 = Arg.t (pk 18) ∧ p19 = pk 19 ∧ t19 = Arg.t (pk 19) ∧ p20 = pk 20 ∧ t20 = Arg.t (pk 20) ∧ p21 = pk 21 ∧ t21 = Arg.t (pk 21) ∧ p22 = pk 22 ∧ t22 = Arg.t (pk 22) ∧ p23 = pk 23 ∧ t23 = Arg.t (pk 23) ∧ p24 = pk 24 ∧ t24 = Arg.t (pk 24) ∧ p25 = pk 25 ∧ t25 = Arg.t (pk 25) ∧ p26 = pk 26 ∧ t26 = Arg.t (pk 26) ∧ p27 = pk 27 ∧ t27 = Arg.t (pk 27) ∧ p28 = pk 28 ∧ t28 = Arg.t (pk 28) ∧ p29 = pk 29 ∧ t29 = Arg.t (pk 29) ∧ p30 = pk 30 ∧ t30 = Arg.t (pk 30) ∧ p31 = pk 31 ∧ t31 = Arg.t (pk 31) ∧ p32 = pk 32 ∧ t32 = Arg.t (pk 32) ∧ p33 = pk 33 ∧ t33 = Arg.t (pk 33) ∧ p34 = pk 34 ∧ t34 = Arg.t (pk 34) ∧ p35 = pk 35 ∧ t35 = Arg.t (pk 35) ∧ p36 = pk 36 ∧ t36 = Arg.t (pk 36) ∧ p37 = pk 37 ∧ t37 = Arg.t (pk 37) ∧ p38 = pk 38 ∧ t38 = Arg.t (pk 38) ∧ p39 = pk 39 ∧ t39 = Arg.t (pk 39) ∧ p40 = pk 40 ∧ t40 = Arg.t (pk 40) ∧ p41 = pk 41 ∧ t41 = Arg.t (pk 41) ∧ p42 = pk 42 ∧ t42 = Arg.t (pk 42) ∧ p43 = pk 43 ∧ t43 = Arg.t (pk 43) ∧ p44 = pk 44 ∧ t44 = Arg.t (pk 44) ∧ p45 = pk 45 ∧ t45 = Arg.t (pk 45) ∧ p46 = pk 46 ∧ t46 = Arg.t (pk 46) ∧ p47 = pk 47 ∧ t47 = Arg.t (pk 47) ∧ p48 = pk 48 ∧ t48 = Arg.t (pk 48) ∧ p49 = pk 49 ∧ t49 = Arg.t (pk 49) ∧ p50 = pk 50 ∧ t50 = Arg.t (pk 50) ∧ p51 = pk 51 ∧ t51 = Arg.t (pk 51) ∧ p52 = pk 52 ∧ t52 = Arg.t (pk 52) ∧ p53 = pk 53 ∧ t53 = Arg.t (pk 53) ∧ p54 = pk 54 ∧ t54 = Arg.t (pk 54) ∧ p55 = pk 55 ∧ t55 = Arg.t (pk 55) ∧ p56 = pk 56 ∧ t56 = Arg.t (pk 56) ∧ p57 = pk 57 ∧ t57 = Arg.t (pk 57) ∧ p58 = pk 58 ∧ t58 = Arg.t (pk 58) ∧ p59 = pk 59 ∧ t59 = Arg.t (pk 59) ∧ p60 = pk 60 ∧ t60 = Arg.t (pk 60) ∧ p61 = pk 61 ∧ t61 = Arg.t (pk 61) ∧ p62 = pk 62 ∧ t62 = Arg.t (pk 62) ∧ p63 = pk 63 ∧ t63 = Arg.t (pk 63) ∧ p64 = pk 64 ∧ t64 = Arg.t (pk 64) ∧ p65 = pk 65 ∧ t65 = Arg.t (pk 65) ∧ p66 = pk 66 ∧ t66 = Arg.t (pk 66) ∧ p67 = pk 67 ∧ t67 = Arg.t (pk 67) ∧ p68 = pk 68 ∧ t68 = Arg.t (pk 68) ∧ p69 = pk 69 ∧ t69 = Arg.t (pk 69) ∧ p70 = pk 70 ∧ t70 = Arg.t (pk 70) ∧ p71 = pk 71 ∧ t71 = Arg.t (pk 71) ∧ p72 = pk 72 ∧ t72 = Arg.t (pk 72) ∧ p73 = pk 73 ∧ t73 = Arg.t (pk 73) ∧ p74 = pk 74 ∧ t74 = Arg.t (pk 74) ∧ p75 = pk 75 ∧ t75 = Arg.t (pk 75) ∧ p76 = pk 76 ∧ t76 = Arg.t (pk 76) ∧ p77 = pk 77 ∧ t77 = Arg.t (pk 77) ∧ p78 = pk 78 ∧ t78 = Arg.t (pk 78) ∧ p79 = pk 79 ∧ t79 = Arg.t (pk 79) ∧ p80 = pk 80 ∧ t80 = Arg.t (pk 80) ∧ p81 = pk 81 ∧ t81 = Arg.t (pk 81) ∧ p82 = pk 82 ∧ t82 = Arg.t (pk 82) ∧ p83 = pk 83 ∧ t83 = Arg.t (pk 83) ∧ p84 = pk 84 ∧ t84 = Arg.t (pk 84) ∧ p85 = pk 85 ∧ t85 = Arg.t (pk 85) ∧ p86 = pk 86 ∧ t86 = Arg.t (pk 86) ∧ p87 = pk 87 ∧ t87 = Arg.t (pk 87) ∧ p88 = pk 88 ∧ t88 = Arg.t (pk 88) ∧ p89 = pk 89 ∧ t89 = Arg.t (pk 89) ∧ p90 = pk 90 ∧ t90 = Arg.t (pk 90) ∧ p91 = pk 91 ∧ t91 = Arg.t (pk 91) ∧ p92 = pk 92 ∧ t92 = Arg.t (pk 92) ∧ p93 = pk 93 ∧ t93 = Arg.t (pk 93) ∧ p94 = pk 94 ∧ t94 = Arg.t (pk 94) ∧ p95 = pk 95 ∧ t95 = Arg.t (pk 95) ∧ p96 = pk 96 ∧ t96 = Arg.t (pk 96) ∧ p97 = pk 97 ∧ t97 = Arg.t (pk 97) ∧ p98 = pk 98 ∧ t98 = Arg.t (pk 98) ∧ p99 = pk 99 ∧ t99 = Arg.t (pk 99) ∧ p100 = pk 100 ∧ t100 = Arg.t (pk 100) ∧ p101 = pk 101 ∧ t101 = Arg.t (pk 101) ∧ p102 = pk 102 ∧ t102 = Arg.t (pk 102) ∧ p103 = pk 103 ∧ t103 = Arg.t (pk 103) ∧ p104 = pk 104 ∧ t104 = Arg.t (pk 104) ∧ p105 = pk 105 ∧ t105 = Arg.t (pk 105) ∧ p106 = pk 106 ∧ t106 = Arg.t (pk 106) ∧ p107 = pk 107 ∧ t107 = Arg.t (pk 107) ∧ p108 = pk 108 ∧ t108 = Arg.t (pk 108) ∧ p109 = pk 109 ∧ t109 = Arg.t (pk 109) ∧ p110 = pk 110 ∧ t110 = Arg.t (pk 110) ∧ p111 = pk 111 ∧ t111 = Arg.t (pk 111) ∧ p112 = pk 112 ∧ t112 = Arg.t (pk 112) ∧ p113 = pk 113 ∧ t113 = Arg.t (pk 113) ∧ p114 = pk 114 ∧ t114 = Arg.t (pk 114) ∧ p115 = pk 115 ∧ t115 = Arg.t (pk 115) ∧ p116 = pk 116 ∧ t116 = Arg.t (pk 116) ∧ p117 = pk 117 ∧ t117 = Arg.t (pk 117) ∧ p118 = pk 118 ∧ t118 = Arg.t (pk 118) ∧ p119 = pk 119 ∧ t119 = Arg.t (pk 119) ∧ p120 = pk 120 ∧ t120 = Arg.t (pk 120) ∧ p121 = pk 121 ∧ t121 = Arg.t (pk 121) ∧ p122 = pk 122 ∧ t122 = Arg.t (pk 122) ∧ p123 = pk 123 ∧ t123 = Arg.t (pk 123) ∧ p124 = pk 124 ∧ t124 = Arg.t (pk 124) ∧ p125 = pk 125 ∧ t125 = Arg.t (pk 125) ∧ p126 = pk 126 ∧ t126 = Arg.t (pk 126) ∧ p127 = pk 127 ∧ t127 = Arg.t (pk 127) ∧ p128 = pk 128 ∧ t128 = Arg.t (pk 128) ∧ p129 = pk 129 ∧ t129 = Arg.t (pk 129) ∧ p130 = pk 130 ∧ t130 = Arg.t (pk 130) ∧ p131 = pk 131 ∧ t131 = Arg.t (pk 131) ∧ p132 = pk 132 ∧ t132 = Arg.t (pk 132) ∧ p133 = pk 133 ∧ t133 = Arg.t (pk 133) ∧ p134 = pk 134 ∧ t134 = Arg.t (pk 134) ∧ p135 = pk 135 ∧ t135 = Arg.t (pk 135) ∧ p136 = pk 136 ∧ t136 = Arg.t (pk 136) :=
  ⟨q0, u0, q1, u1, q2, u2, q3, u3, q4, u4, q5, u5, q6, u6, q7, u7, q8, u8, q9, u9, q10, u10, q11, u11, q12, u12, q13, u13, q14, u14, q15, u15, q16, u16, q17, u17, q18, u18, q19, u19, q20, u20, q21, u21, q22, u22, q23, u23, q24, u24, q25, u25, q26, u26, q27, u27, q28, u28, q29, u29, q30, u30, q31, u31, q32, u32, q33, u33, q34, u34, q35, u35, q36, u36, q37, u37, q38, u38, q39, u39, q40, u40, q41, u41, q42, u42, q43, u43, q44, u44, q45, u45, q46, u46, q47, u47, q48, u48, q49, u49, q50, u50, q51, u51, q52, u52, q53, u53, q54, u54, q55, u55, q56, u56, q57, u57, q58, u58, q59, u59, q60, u60, q61, u61, q62, u62, q63, u63, q64, u64, q65, u65, q66, u66, q67, u67, q68, u68, q69, u69, q70, u70, q71, u71, q72, u72, q73, u73, q74, u74, q75, u75, q76, u76, q77, u77, q78, u78, q79, u79, q80, u80, q81, u81, q82, u82, q83, u83, q84, u84, q85, u85, q86, u86, q87, u87, q88, u88, q89, u89, q90, u90, q91, u91, q92, u92, q93, u93, q94, u94, q95, u95, q96, u96, q97, u97, q98, u98, q99, u99, q100, u100, q101, u101, q102, u102, q103, u103, q104, u104, q105, u105, q106, u106, q107, u107, q108, u108, q109, u109, q110, u110, q111, u111, q112, u112, q113, u113, q114, u114, q115, u115, q116, u116, q117, u117, q118, u118, q119, u119, q120, u120, q121, u121, q122, u122, q123, u123, q124, u124, q125, u125, q126, u126, q127, u127, q128, u128, q129, u129, q130, u130, q131, u131, q132, u132, q133, u133, q134, u134, q135, u135, q136, u136⟩

def intr1 : Nat → Option (List V → H → CR)
  | 7 => some iTrue
  | _ => none
def T1 : Tab := { code := codes.find, intr := intr1 }

theorem w_drw (cf : CallF) (lf n : Nat) (ops : List DO) (τ : Tr V) (σ : H) (d : List Df) : exec cf lf n (.drw ops) τ σ d = runDrw cf n ops τ σ d [] [] := rfl
theorem w_nil (cf : CallF) (n : Nat) (τ : Tr V) (σ : H) (d : List Df) (es : List H) (os : List Owe) : runDrw cf n [] τ σ d es os = if os.all (oweOk (σ :: es).reverse) then .nx τ σ d else .bad := rfl
def kD0 (cf : CallF) (n : Nat) (r : List DO) (d : List Df) (es : List H) (os : List Owe) : R → R
  | .nx τ' σ' _ => runDrw cf n r τ' σ' d es os
  | _ => .bad
theorem w_0 (cf : CallF) (n : Nat) (co : CO) (k lo hi : Nat) (tl : Bool) (r : List DO) (τ : Tr V) (σ : H) (d : List Df) (es : List H) (os : List Owe) :
    runDrw cf n (⟨co, k, 0, lo, hi, tl⟩ :: r) τ σ d es os = kD0 cf n r d es os (stepOp cf n co τ σ d) := by
  simp only [runDrw]; cases stepOp cf n co τ σ d <;> rfl
theorem w_3 (cf : CallF) (n : Nat) (co : CO) (k lo hi : Nat) (tl : Bool) (r : List DO) (τ : Tr V) (σ : H) (d : List Df) (es : List H) (os : List Owe) :
    runDrw cf n (⟨co, k, 3, lo, hi, tl⟩ :: r) τ σ d es os = kD0 cf n r d es os (stepOp cf n co τ σ d) := by
  simp only [runDrw]; cases stepOp cf n co τ σ d <;> rfl
theorem w_0nx (cf : CallF) (n : Nat) (r : List DO) (d d' : List Df) (es : List H) (os : List Owe) (τ : Tr V) (σ : H) : kD0 cf n r d es os (.nx τ σ d') = runDrw cf n r τ σ d es os := rfl
def kD1 (cf : CallF) (n : Nat) (r : List DO) (σ : H) (d : List Df) (es : List H) (os : List Owe) : R → R
  | .nx τ' _ _ => runDrw cf n r τ' σ d es os
  | _ => .bad
theorem w_1s (cf : CallF) (n : Nat) (co : CO) (k lo : Nat) (tl : Bool) (r : List DO) (τ : Tr V) (σ : H) (d : List Df) (es : List H) (os : List Owe) :
    runDrw cf n (⟨co, k, 1, lo, lo, tl⟩ :: r) τ σ d es os = kD1 cf n r σ d es os (stepOp cf n co τ σ d) := by
  simp only [runDrw, if_true]; cases stepOp cf n co τ σ d <;> rfl
theorem w_1nx (cf : CallF) (n : Nat) (r : List DO) (σ σ' : H) (d d' : List Df) (es : List H) (os : List Owe) (τ : Tr V) : kD1 cf n r σ d es os (.nx τ σ' d') = runDrw cf n r τ σ d es os := rfl
def owe1 (σ : H) (lo hi : Nat) (os : List Owe) : V → List Owe
  | .ptr x _ _ => ⟨x, lo, hi, σ.stamp x⟩ :: os
  | _ => os
def kDl (cf : CallF) (n : Nat) (r : List DO) (p : Pos) (τ : Tr V) (σ : H) (d : List Df) (es : List H) (os : List Owe) (lo hi : Nat) (q : V) : Option V → R
  | some v => kD1 cf n r σ d es (owe1 σ lo hi os q) (kPut n p τ σ d (some v))
  | none => .bad
def kDL (cf : CallF) (n : Nat) (r : List DO) (p : Pos) (τ : Tr V) (σ : H) (d : List Df) (es : List H) (os : List Owe) (lo hi : Nat) : Option V → R
  | some q => kDl cf n r p τ σ d es os lo hi q (ldv σ q)
  | none => .bad
theorem w_1l (cf : CallF) (n : Nat) (p : Pos) (a : Arg) (k lo hi : Nat) (hl : lo ≠ hi) (tl : Bool) (r : List DO) (τ : Tr V) (σ : H) (d : List Df) (es : List H) (os : List Owe) :
    runDrw cf n (⟨⟨some p, .r (.load none a), none⟩, k, 1, lo, hi, tl⟩ :: r) τ σ d es os = kDL cf n r p τ σ d es os lo hi (a.ev τ) := by
  simp only [runDrw, s_R, e_ld, guardV, if_neg hl, ROp.foot]
  cases ha : a.ev τ with
  | none => rfl
  | some q =>
    simp only [k_bind, kDL, kDl]
    cases q with
    | ptr x v o =>
      cases ldv σ (.ptr x v o) with
      | none => rfl
      | some u => simp only []; cases kPut n p τ σ d (some u) <;> rfl
    | rop c o =>
      cases ldv σ (.rop c o) with
      | none => rfl
      | some u => simp only []; cases kPut n p τ σ d (some u) <;> rfl
    | _ => rfl
theorem w_1lk (cf : CallF) (n : Nat) (r : List DO) (p : Pos) (τ : Tr V) (σ : H) (d : List Df) (es : List H) (os : List Owe) (lo hi : Nat) (q : V) : kDL cf n r p τ σ d es os lo hi (some q) = kDl cf n r p τ σ d es os lo hi q (ldv σ q) := rfl
theorem w_1ls (cf : CallF) (n : Nat) (r : List DO) (p : Pos) (τ : Tr V) (σ : H) (d : List Df) (es : List H) (os : List Owe) (lo hi : Nat) (q v : V) : kDl cf n r p τ σ d es os lo hi q (some v) = kD1 cf n r σ d es (owe1 σ lo hi os q) (kPut n p τ σ d (some v)) := rfl
def kD2 (cf : CallF) (n : Nat) (r : List DO) (σ : H) (es : List H) (os : List Owe) (tl : Bool) : R → R
  | .nx τ' σ' d' => runDrw cf n r τ' σ' d' (σ :: es) os
  | .pn v _ σ' d' => if tl && os.all (oweOk (σ :: es).reverse) then .pn v .lf σ' d' else .bad
  | _ => .bad
theorem w_2 (cf : CallF) (n : Nat) (co : CO) (k lo hi : Nat) (tl : Bool) (r : List DO) (τ : Tr V) (σ : H) (d : List Df) (es : List H) (os : List Owe) :
    runDrw cf n (⟨co, k, 2, lo, hi, tl⟩ :: r) τ σ d es os = kD2 cf n r σ es os tl (stepOp cf n co τ σ d) := by
  simp only [runDrw]; cases stepOp cf n co τ σ d <;> rfl
theorem w_2nx (cf : CallF) (n : Nat) (r : List DO) (σ σ' : H) (es : List H) (os : List Owe) (tl : Bool) (τ : Tr V) (d : List Df) : kD2 cf n r σ es os tl (.nx τ σ' d) = runDrw cf n r τ σ' d (σ :: es) os := rfl
/-- what was read where nothing turned -/
theorem owe_ok {σ : H} {lo hi : Nat} {os : List Owe} {q v : V} (h : ldv σ q = some v) {es : List H} (he : ∀ σ' ∈ es, σ' = σ) : (owe1 σ lo hi os q).all (oweOk es) = os.all (oweOk es) := by
  cases q with
  | ptr x ver o =>
    simp only [owe1, List.all_cons]
    have : oweOk es ⟨x, lo, hi, σ.stamp x⟩ = true := by
      simp only [oweOk, List.all_eq_true]
      intro σ' h'
      rw [he σ' (List.mem_of_mem_drop (List.mem_of_mem_take h'))]
      have : ∃ n, σ.stamp x = some n := by
        simp only [ldv, blkCells] at h
        split at h
        · rename_i c hc
          split at hc
          · rename_i hg
            obtain ⟨n, hn⟩ := get_some_m hg
            exact ⟨n, by simp [H.stamp, hn]⟩
          · cases hc
        · cases h
      obtain ⟨n, hn⟩ := this
      simp [hn]
    rw [this, Bool.true_and]
  | _ => rfl
theorem e_ixk (k : IntKind) {s : List Nat} {i : Nat} (h : i < s.length) : kIx (some (.str s)) (some (.int k (i : Nat))) = some (.int .u8 (s.getD i 0 : Nat)) := by
  simp only [kIx]
  rw [if_pos (Int.natCast_nonneg i)]
  simp [h]
/-- a loop within a loop -/
theorem NXT_in {cf : CallF} {lf n id j : Nat} {b : CC} {r : R} {N A X T : Tr V → H → Prop} (h : Nx r N) (k : ∀ τ σ, N τ σ → NXT id (exec cf lf n b τ σ []) A X T) : NXT id (kSeq cf lf n b (kBlk j r)) A X T := by
  obtain ⟨τ, σ, rfl, hN⟩ := h.elim
  exact k τ σ hN
def kBox (ty : Nat) : Option V → Option (AK × Blk)
  | some v => some (.ptr, .cells ty v.cells 0 0 (some 0) [])
  | none => none
theorem e_box (τ : Tr V) (ty : Nat) (a : Arg) : AOp.ev τ (.box ty a) = kBox ty (a.ev τ) := by
  simp only [AOp.ev]; cases a.ev τ <;> rfl
theorem e_box2 (ty : Nat) (v w : V) : kBox ty (some (.agg [v, w])) = some (.ptr, .cells ty [v, w] 0 0 (some 0) []) := rfl
def fadV (off : Nat) : V → Option V
  | .ptr x v o => some (.ptr x v (o + off))
  | .rop c o => some (.rop c (o + off))
  | _ => none
theorem e_faddr (τ : Tr V) (off : Nat) (a : Arg) : POp.ev τ (.faddr off a) = kBind (fadV off) (a.ev τ) := by
  simp only [POp.ev]
  cases a.ev τ with
  | none => rfl
  | some v => cases v <;> rfl
theorem e_fadp (off o : Nat) (x : Pos) (v : Nat) : fadV off (.ptr x v o) = some (.ptr x v (o + off)) := rfl
def ldg (σ : H) (n : Nat) : V → Option V
  | .ptr x v o => match blkCells σ x v with
    | some c => pick1 (some n) c o
    | none => none
  | .rop c o => pick1 (some n) c o
  | _ => none
theorem e_lg (τ : Tr V) (σ : H) (n : Nat) (a : Arg) : ROp.ev τ σ (.load (some n) a) = kBind (ldg σ n) (a.ev τ) := by
  simp only [ROp.ev]
  cases a.ev τ with
  | none => rfl
  | some v => cases v <;> rfl
theorem ldg2 {σ : H} {x : Pos} {ty ver minv : Nat} {v w : V} {ex : List Nat} (h : σ.get x = some (.cells ty [v, w] ver minv (some 0) ex)) : ldg σ 2 (.ptr x ver 0) = some (.agg [v, w]) := by
  simp only [ldg, blkCells, h, visib, if_true]; rfl
theorem ldg2' {σ : H} {x : Pos} {v w : V} (h : blkCells σ x 0 = some [v, w]) : ldg σ 2 (.ptr x 0 0) = some (.agg [v, w]) := by
  simp only [ldg, h]; rfl
theorem ld20 {σ : H} {x : Pos} {ty ver minv : Nat} {v w : V} {ex : List Nat} (h : σ.get x = some (.cells ty [v, w] ver minv (some 0) ex)) : ldv σ (.ptr x ver 0) = some v := by
  simp only [ldv, blkCells, h, visib, if_true]; rfl
theorem ld21 {σ : H} {x : Pos} {ty ver minv : Nat} {v w : V} {ex : List Nat} (h : σ.get x = some (.cells ty [v, w] ver minv (some 0) ex)) : ldv σ (.ptr x ver 1) = some w := by
  simp only [ldv, blkCells, h, visib, if_true]; rfl
theorem Keep.at {σ σ' : H} {b : Blk} (h : Keep (σ.new b) σ') : σ'.get σ.nx = some b := by
  rw [h.get (x := σ.nx) (by rw [nx_new]; omega), H.get_new, if_pos rfl]
/-- a result that lies in a variable of two cells -/
theorem call_rc {T : Tab} {f : Nat} {c : CFun} {p : Pos} {lf m : Nat} {args : List V} {σ : H} {Post : V → V → H → Prop} (hi : T.intr f = none) (hc : T.code f = some c) (hl : args.length ≤ c.n) (hr : c.res = [.cell p (some 2)])
    (h : ∀ cf, cf = call T lf m → Rt (exec cf lf c.n c.body (bindArgs args .h .lf) σ []) fun τ σ' => ∃ x v w, τ.get p = some (.ptr x 0 0) ∧ blkCells σ' x 0 = some [v, w] ∧ Post v w σ') :
    ∃ v w σ', call T lf (m + 1) f args σ = .ret (.agg [v, w]) σ' ∧ Post v w σ' := by
  obtain ⟨τ, σ', h1, x, v, w, h2, h3, h5⟩ := (h _ rfl).elim
  refine ⟨v, w, σ', ?_, h5⟩
  rw [call_def hi hc lf m args σ hl, h1, fin_rt, hr]
  simp [retOf, resV, resAll, resOne, h2, h3, pick1, cut]

def kB21 (z0 : V) : Option V → Option V
  | some w => if w.cells.length = 1 then some (.agg (z0 :: w.cells)) else none
  | _ => none
theorem e_build21 (τ : Tr V) (z0 z1 : V) (b : Arg) : POp.ev τ (.build [z0, z1] [(1, 1, b)]) = kB21 z0 (b.ev τ) := by
  simp only [POp.ev, evParts]
  cases b.ev τ with
  | none => rfl
  | some w =>
    simp only [kB21]
    cases hw : w.cells with
    | nil => simp [fillL, hw]
    | cons d0 d =>
      cases d with
      | nil => simp [fillL, hw]
      | cons => simp [fillL, hw]

/- reads whose order is open, over calls that make new memory alone -/
def kDG (cf : CallF) (n : Nat) (r : List DO) (p : Pos) (τ : Tr V) (σ : H) (d : List Df) (es : List H) (os : List Owe) (lo hi g : Nat) : Option V → R
  | some q => kDl cf n r p τ σ d es os lo hi q (ldg σ g q)
  | none => .bad
theorem w_1g (cf : CallF) (n : Nat) (p : Pos) (a : Arg) (k lo hi g : Nat) (hl : lo ≠ hi) (tl : Bool) (r : List DO) (τ : Tr V) (σ : H) (d : List Df) (es : List H) (os : List Owe) :
    runDrw cf n (⟨⟨some p, .r (.load (some g) a), none⟩, k, 1, lo, hi, tl⟩ :: r) τ σ d es os = kDG cf n r p τ σ d es os lo hi g (a.ev τ) := by
  simp only [runDrw, s_R, e_lg, guardV, if_neg hl, ROp.foot]
  cases ha : a.ev τ with
  | none => rfl
  | some q =>
    simp only [k_bind, kDG, kDl]
    cases q with
    | ptr x v o =>
      cases ldg σ g (.ptr x v o) with
      | none => rfl
      | some u => simp only []; cases kPut n p τ σ d (some u) <;> rfl
    | rop c o =>
      cases ldg σ g (.rop c o) with
      | none => rfl
      | some u => simp only []; cases kPut n p τ σ d (some u) <;> rfl
    | _ => rfl
theorem w_1gk (cf : CallF) (n : Nat) (r : List DO) (p : Pos) (τ : Tr V) (σ : H) (d : List Df) (es : List H) (os : List Owe) (lo hi g : Nat) (q : V) : kDG cf n r p τ σ d es os lo hi g (some q) = kDl cf n r p τ σ d es os lo hi q (ldg σ g q) := rfl
/-- what was read before memory was made alone -/
theorem owe_keep {σ : H} {lo hi : Nat} {os : List Owe} {x : Pos} {v o : Nat} {es : List H} {b : Blk} (hb : σ.get x = some b) (hw : WfH σ) (he : ∀ σ' ∈ es, Keep σ σ') : (owe1 σ lo hi os (.ptr x v o)).all (oweOk es) = os.all (oweOk es) := by
  simp only [owe1, List.all_cons]
  have : oweOk es ⟨x, lo, hi, σ.stamp x⟩ = true := by
    simp only [oweOk, List.all_eq_true]
    intro σ' h'
    rw [(he σ' (List.mem_of_mem_drop (List.mem_of_mem_take h'))).stamp (hw x b hb)]
    obtain ⟨n, hn⟩ := get_some_m hb
    have : σ.stamp x = some n := by simp [H.stamp, hn]
    rw [this]
    simp
  rw [this, Bool.true_and]

/-- what was read before memory was made -/
theorem owe_keepR {σ : H} {lo hi : Nat} {os : List Owe} {x : Pos} {v o : Nat} {es : List H} {b : Blk} (hb : σ.get x = some b) (hw : WfH σ) (he : ∀ σ' ∈ (es.drop lo).take (hi + 1 - lo), Keep σ σ') : (owe1 σ lo hi os (.ptr x v o)).all (oweOk es) = os.all (oweOk es) := by
  simp only [owe1, List.all_cons]
  have : oweOk es ⟨x, lo, hi, σ.stamp x⟩ = true := by
    simp only [oweOk, List.all_eq_true]
    intro σ' h'
    rw [(he σ' h').stamp (hw x b hb)]
    obtain ⟨n, hn⟩ := get_some_m hb
    have : σ.stamp x = some n := by simp [H.stamp, hn]
    rw [this]
    simp
  rw [this, Bool.true_and]

theorem Keep.get_some {σ σ' : H} (h : Keep σ σ') (hw : WfH σ) {x : Pos} {b : Blk} (hg : σ.get x = some b) : σ'.get x = some b := by
  rw [h.get (hw x b hg), hg]
theorem e_build0 (τ : Tr V) (zs : List V) : POp.ev τ (.build zs []) = some (.agg zs) := rfl
theorem e_alloc (τ : Tr V) (ty : Nat) (zs : List V) : AOp.ev τ (.alloc ty zs) = some (.ptr, .cells ty zs 0 0 (some 0) []) := rfl
theorem lt_true {a b : Nat} (h : a < b) : decide ((a : Int) < (b : Int)) = true := by simp; exact h
theorem lt_false {a b : Nat} (h : ¬ a < b) : decide ((a : Int) < (b : Int)) = false := by simp; omega
theorem QA : type_of% (And.intro (@QU) <| And.intro (@oP.eq_1) <| And.intro (@oR.eq_1) <| And.intro (@oA.eq_1) <| And.intro (@oH.eq_1) <| And.intro (@oPn.eq_1) <| And.intro (@oRn.eq_1) <| And.intro (@oAn.eq_1) <| And.intro (@oHn.eq_1) <| And.intro (@bi.eq_1) <| And.intro (@ld.eq_1) <| And.intro (@ki.eq_1) <| And.intro (@kt.eq_1) <| And.intro (@kf.eq_1) <| And.intro (@s_ops_nil) <| And.intro (@s_ops_cons) <| And.intro (@s_ops_nx) <| And.intro (@s_ops_pn) <| And.intro (@s_seq) <| And.intro (@s_seq_nx) <| And.intro (@s_seq_ex) <| And.intro (@s_seq_rt) <| And.intro (@s_skip) <| And.intro (@s_ret) <| And.intro (@s_exit) <| And.intro (@s_reg) <| And.intro (@s_cond) <| And.intro (@s_cond_t) <| And.intro (@s_cond_f) <| And.intro (@s_blk) <| And.intro (@s_blk_nx) <| And.intro (@s_blk_rt) <| And.intro (@s_blk_ex) <| And.intro (@s_put) <| And.intro (@s_P) <| And.intro (@s_R) <| And.intro (@s_A) <| And.intro (@s_A_some) <| And.intro (@s_C_ret) <| And.intro (@s_C_pan) <| And.intro (@s_H) <| And.intro (@s_H_ok) <| And.intro (@s_H_call) <| And.intro (@s_H_pan) <| And.intro (@s_gd) <| And.intro (@s_gd_bool) <| And.intro (@s_gd_undef) <| And.intro (@e_t) <| And.intro (@e_k) <| And.intro (@e_mv) <| And.intro (@e_pick) <| And.intro (@e_pick_b) <| And.intro (@e_bin) <| And.intro (@e_add_i64) <| And.intro (@e_add_i32) <| And.intro (@e_sub_i64) <| And.intro (@e_sub_u8) <| And.intro (@e_mul_i64) <| And.intro (@e_addU) <| And.intro (@e_mulU) <| And.intro (@e_addU32) <| And.intro (@e_mulU32) <| And.intro (@e_eql) <| And.intro (@e_neq) <| And.intro (@e_lss) <| And.intro (@e_leq) <| And.intro (@e_gtr) <| And.intro (@e_geq) <| And.intro (@e_str_eql) <| And.intro (@e_str_neq) <| And.intro (@e_iaddr) <| And.intro (@e_iaddr_int) <| And.intro (@e_lens) <| And.intro (@e_ld) <| And.intro (@e_extract) <| And.intro (@e_ex0) <| And.intro (@e_ex1) <| And.intro (@e_ex2) <| And.intro (@e_lenS) <| And.intro (@e_lenS_str) <| And.intro (@e_cii) <| And.intro (@e_cii_int) <| And.intro (@e_slsl_hm) <| And.intro (@e_sl2) <| And.intro (@e_slsl_h) <| And.intro (@e_sl1) <| And.intro (@e_slis) <| And.intro (@e_evL_nil) <| And.intro (@e_evL_cons) <| And.intro (@e_cons) <| And.intro (@e_call) <| And.intro (@e_callk) <| And.intro (@e_app) <| And.intro (@e_appk) <| And.intro (@e_store) <| And.intro (@e_stk) <| And.intro (@e_next) <| And.intro (@e_nextk) <| And.intro (@e_range) <| And.intro (@e_rangek) <| And.intro (@e_bs1) <| And.intro (@e_bs1i) <| And.intro (@e_bs0) <| And.intro (@e_mksl) <| And.intro (@e_mkslk) <| And.intro (@e_AK_sl) <| And.intro (@e_AK_it) <| And.intro (@e_AK_ptr) <| And.intro (@e_not) <| And.intro (@e_notb) <| And.intro (@e_xori) <| And.intro (@e_idxs) <| And.intro (@s_Hn) <| And.intro (@s_Hnk) <| And.intro (@s_Nx) <| And.intro (@s_Rt) <| And.intro (@s_NR_nx) <| And.intro (@s_NR_rt) <| And.intro (@s_NXT_nx) <| And.intro (@s_NXT_ex) <| And.intro (@s_NXT_rt) <| And.intro (@e_lenV_sl) <| And.intro (@e_lenV_nils) <| And.intro (@get_pk) <| And.intro (@k_bind) <| And.intro (@true_and) <| And.intro (@and_true) <| And.intro (@if_true.{1}) <| And.intro (@if_true.{0}) <| And.intro (@if_false.{1}) <| And.intro (@if_false.{0}) <| And.intro (@Bool.true_eq) <| And.intro (@beq_self_eq_true.{0}) <| And.intro (@Bool.false_eq_true) <| And.intro (@bne_self_eq_false.{0}) <| And.intro (@Nat.succ_ne_self) <| And.intro (@Bool.not_true) <| And.intro (@Bool.not_false) <| And.intro (@Bool.true_beq) <| And.intro (@Bool.false_beq) <| And.intro (@decide_true) <| And.intro (@decide_false) <| And.intro (@exists_eq_left'.{1}) <| (@Option.some.injEq.{0})) := And.intro (@QU) <| And.intro (@oP.eq_1) <| And.intro (@oR.eq_1) <| And.intro (@oA.eq_1) <| And.intro (@oH.eq_1) <| And.intro (@oPn.eq_1) <| And.intro (@oRn.eq_1) <| And.intro (@oAn.eq_1) <| And.intro (@oHn.eq_1) <| And.intro (@bi.eq_1) <| And.intro (@ld.eq_1) <| And.intro (@ki.eq_1) <| And.intro (@kt.eq_1) <| And.intro (@kf.eq_1) <| And.intro (@s_ops_nil) <| And.intro (@s_ops_cons) <| And.intro (@s_ops_nx) <| And.intro (@s_ops_pn) <| And.intro (@s_seq) <| And.intro (@s_seq_nx) <| And.intro (@s_seq_ex) <| And.intro (@s_seq_rt) <| And.intro (@s_skip) <| And.intro (@s_ret) <| And.intro (@s_exit) <| And.intro (@s_reg) <| And.intro (@s_cond) <| And.intro (@s_cond_t) <| And.intro (@s_cond_f) <| And.intro (@s_blk) <| And.intro (@s_blk_nx) <| And.intro (@s_blk_rt) <| And.intro (@s_blk_ex) <| And.intro (@s_put) <| And.intro (@s_P) <| And.intro (@s_R) <| And.intro (@s_A) <| And.intro (@s_A_some) <| And.intro (@s_C_ret) <| And.intro (@s_C_pan) <| And.intro (@s_H) <| And.intro (@s_H_ok) <| And.intro (@s_H_call) <| And.intro (@s_H_pan) <| And.intro (@s_gd) <| And.intro (@s_gd_bool) <| And.intro (@s_gd_undef) <| And.intro (@e_t) <| And.intro (@e_k) <| And.intro (@e_mv) <| And.intro (@e_pick) <| And.intro (@e_pick_b) <| And.intro (@e_bin) <| And.intro (@e_add_i64) <| And.intro (@e_add_i32) <| And.intro (@e_sub_i64) <| And.intro (@e_sub_u8) <| And.intro (@e_mul_i64) <| And.intro (@e_addU) <| And.intro (@e_mulU) <| And.intro (@e_addU32) <| And.intro (@e_mulU32) <| And.intro (@e_eql) <| And.intro (@e_neq) <| And.intro (@e_lss) <| And.intro (@e_leq) <| And.intro (@e_gtr) <| And.intro (@e_geq) <| And.intro (@e_str_eql) <| And.intro (@e_str_neq) <| And.intro (@e_iaddr) <| And.intro (@e_iaddr_int) <| And.intro (@e_lens) <| And.intro (@e_ld) <| And.intro (@e_extract) <| And.intro (@e_ex0) <| And.intro (@e_ex1) <| And.intro (@e_ex2) <| And.intro (@e_lenS) <| And.intro (@e_lenS_str) <| And.intro (@e_cii) <| And.intro (@e_cii_int) <| And.intro (@e_slsl_hm) <| And.intro (@e_sl2) <| And.intro (@e_slsl_h) <| And.intro (@e_sl1) <| And.intro (@e_slis) <| And.intro (@e_evL_nil) <| And.intro (@e_evL_cons) <| And.intro (@e_cons) <| And.intro (@e_call) <| And.intro (@e_callk) <| And.intro (@e_app) <| And.intro (@e_appk) <| And.intro (@e_store) <| And.intro (@e_stk) <| And.intro (@e_next) <| And.intro (@e_nextk) <| And.intro (@e_range) <| And.intro (@e_rangek) <| And.intro (@e_bs1) <| And.intro (@e_bs1i) <| And.intro (@e_bs0) <| And.intro (@e_mksl) <| And.intro (@e_mkslk) <| And.intro (@e_AK_sl) <| And.intro (@e_AK_it) <| And.intro (@e_AK_ptr) <| And.intro (@e_not) <| And.intro (@e_notb) <| And.intro (@e_xori) <| And.intro (@e_idxs) <| And.intro (@s_Hn) <| And.intro (@s_Hnk) <| And.intro (@s_Nx) <| And.intro (@s_Rt) <| And.intro (@s_NR_nx) <| And.intro (@s_NR_rt) <| And.intro (@s_NXT_nx) <| And.intro (@s_NXT_ex) <| And.intro (@s_NXT_rt) <| And.intro (@e_lenV_sl) <| And.intro (@e_lenV_nils) <| And.intro (@get_pk) <| And.intro (@k_bind) <| And.intro (@true_and) <| And.intro (@and_true) <| And.intro (@if_true.{1}) <| And.intro (@if_true.{0}) <| And.intro (@if_false.{1}) <| And.intro (@if_false.{0}) <| And.intro (@Bool.true_eq) <| And.intro (@beq_self_eq_true.{0}) <| And.intro (@Bool.false_eq_true) <| And.intro (@bne_self_eq_false.{0}) <| And.intro (@Nat.succ_ne_self) <| And.intro (@Bool.not_true) <| And.intro (@Bool.not_false) <| And.intro (@Bool.true_beq) <| And.intro (@Bool.false_beq) <| And.intro (@decide_true) <| And.intro (@decide_false) <| And.intro (@exists_eq_left'.{1}) <| (@Option.some.injEq.{0})
theorem QD : type_of% (And.intro (@w_drw) <| And.intro (@w_nil) <| And.intro (@w_0) <| And.intro (@w_3) <| And.intro (@w_0nx) <| And.intro (@w_1s) <| And.intro (@w_1nx) <| And.intro (@w_1lk) <| And.intro (@w_1ls) <| And.intro (@w_2) <| (@w_2nx)) := And.intro (@w_drw) <| And.intro (@w_nil) <| And.intro (@w_0) <| And.intro (@w_3) <| And.intro (@w_0nx) <| And.intro (@w_1s) <| And.intro (@w_1nx) <| And.intro (@w_1lk) <| And.intro (@w_1ls) <| And.intro (@w_2) <| (@w_2nx)
end Go.Proofs.YtfgghbikbaopjaaGreatDoorEng

namespace Go.Proofs.YtfgghbikbaopjaaGreatDoorEng
open Go
set_option maxRecDepth 100000
set_option linter.unusedSimpArgs false

/-- A slice holds chunks of n cells: none; new memory, to its end; memory that came in (where o is false). -/
inductive Sk (σ : H) (o : Bool) (Q : Nat → Prop) (ty n : Nat) : V → List (List V) → Prop
  | nils : Sk σ o Q ty n .nils []
  | own (x : Pos) (ver minv : Nat) (ex : List Nat) (C : List (List V)) (hne : C ≠ []) (hC : ∀ c ∈ C, c.length = n) (h1 : ∀ c ∈ C, c.all V.one = true) (hg : σ.get x = some (.cells ty C.flatten ver minv (some 0) ex)) (hb : Q x.toNat) (hx : x.toNat < σ.nx.toNat) : Sk σ o Q ty n (.sl x ver 0 C.length none n) C
  | ros (c : List V) (off cap : Nat) (C : List (List V)) (ho : o = false) (hC : ∀ c ∈ C, c.length = n) (h1 : ∀ c ∈ C, c.all V.one = true) (hl : C.length ≤ cap) (hc : cut c off (C.length * n) = some C.flatten) : Sk σ o Q ty n (.ros c off C.length cap) C
  | box (x : Pos) (c : List V) (ho : o = false) (hC : c.length = n) (h1 : c.all V.one = true) (hg : σ.get x = some (.cells ty c 0 0 (some 0) [])) (hb : Q x.toNat) (hx : x.toNat < σ.nx.toNat) : Sk σ o Q ty n (.sl x 0 0 1 (some 1) 0) [c]

/-- What is there above b is there, as it was. -/
def Up (Q : Nat → Prop) (σ σ' : H) : Prop := σ.nx.toNat ≤ σ'.nx.toNat ∧ ∀ x : Pos, Q x.toNat → x.toNat < σ.nx.toNat → σ'.get x = σ.get x
theorem Keep.up {σ σ' : H} (h : Keep σ σ') (Q : Nat → Prop) : Up Q σ σ' := ⟨h.1, fun _ _ h2 => h.get h2⟩
theorem Up.refl (Q : Nat → Prop) (σ : H) : Up Q σ σ := ⟨Nat.le_refl _, fun _ _ _ => rfl⟩
theorem Up.trans {Q : Nat → Prop} {σ σ' σ'' : H} (h : Up Q σ σ') (h' : Up Q σ' σ'') : Up Q σ σ'' := ⟨Nat.le_trans h.1 h'.1, fun x h1 h2 => (h'.2 x h1 (Nat.lt_of_lt_of_le h2 h.1)).trans (h.2 x h1 h2)⟩
theorem Up.low {Q Q' : Nat → Prop} {σ σ' : H} (h : Up Q σ σ') (hq : ∀ z, Q' z → Q z) : Up Q' σ σ' := ⟨h.1, fun x h1 h2 => h.2 x (hq _ h1) h2⟩
theorem Up.put {Q : Nat → Prop} (σ : H) {x : Pos} (hx : ¬ Q x.toNat) (k : Blk) : Up Q σ (σ.put x k) :=
  ⟨Nat.le_refl _, fun y h1 _ => by rw [H.get_put, if_neg (by rintro rfl; exact hx h1)]⟩

section
variable {σ σ' : H} {o : Bool} {Q : Nat → Prop} {ty n : Nat} {a : V} {C : List (List V)}
theorem Sk.up (h : Sk σ o Q ty n a C) (u : Up Q σ σ') : Sk σ' o Q ty n a C := by
  cases h with
  | nils => exact .nils
  | own x ver minv ex C hne hC h1 hg hb hx => exact .own x ver minv ex C hne hC h1 ((u.2 x hb hx).trans hg) hb (Nat.lt_of_lt_of_le hx u.1)
  | ros c off cap C ho hC h1 hl hc => exact .ros c off cap C ho hC h1 hl hc
  | box x c ho hC h1 hg hb hx => exact .box x c ho hC h1 ((u.2 x hb hx).trans hg) hb (Nat.lt_of_lt_of_le hx u.1)
theorem Sk.low {Q' : Nat → Prop} (h : Sk σ o Q ty n a C) (hq : ∀ z, Q z → Q' z) : Sk σ o Q' ty n a C := by
  cases h with
  | nils => exact .nils
  | own x ver minv ex C hne hC h1 hg hb hx => exact .own x ver minv ex C hne hC h1 hg (hq _ hb) hx
  | ros c off cap C ho hC h1 hl hc => exact .ros c off cap C ho hC h1 hl hc
  | box x c ho hC h1 hg hb hx => exact .box x c ho hC h1 hg (hq _ hb) hx
theorem Sk.read (h : Sk σ o Q ty n a C) : Sk σ false Q ty n a C := by
  cases h with
  | nils => exact .nils
  | own x ver minv ex C hne hC h1 hg hb hx => exact .own x ver minv ex C hne hC h1 hg hb hx
  | ros c off cap C ho hC h1 hl hc => exact .ros c off cap C rfl hC h1 hl hc
  | box x c ho hC h1 hg hb hx => exact .box x c rfl hC h1 hg hb hx
theorem Sk.bd (h : Sk σ o Q ty n a C) : Sk σ o (fun z => Q z ∧ z < σ.nx.toNat) ty n a C := by
  cases h with
  | nils => exact .nils
  | own x ver minv ex C hne hC h1 hg hb hx => exact .own x ver minv ex C hne hC h1 hg ⟨hb, hx⟩ hx
  | ros c off cap C ho hC h1 hl hc => exact .ros c off cap C ho hC h1 hl hc
  | box x c ho hC h1 hg hb hx => exact .box x c ho hC h1 hg ⟨hb, hx⟩ hx
theorem Sk.len (h : Sk σ o Q ty n a C) : lenV a = some (.int .i64 C.length) := by
  cases h <;> rfl
theorem Sk.slen (h : Sk σ o Q ty n a C) : slLen a = some C.length := by
  cases h <;> rfl
theorem Sk.one (h : Sk σ o Q ty n a C) : a.one = true := by
  cases h <;> rfl
theorem Sk.cells (h : Sk σ o Q ty n a C) : a.cells = [a] := by
  cases h <;> rfl
theorem Sk.chunk (h : Sk σ o Q ty n a C) : ∀ c ∈ C, c.length = n := by
  cases h with
  | nils => intro c h; cases h
  | own x ver minv ex C hne hC h1 hg hb hx => exact hC
  | ros c off cap C ho hC h1 hl hc => exact hC
  | box x c ho hC h1 hg hb hx => intro c' h; simp at h; subst h; exact hC
theorem Sk.ones (h : Sk σ o Q ty n a C) : ∀ c ∈ C, c.all V.one = true := by
  cases h with
  | nils => intro c h; cases h
  | own x ver minv ex C hne hC h1 hg hb hx => exact h1
  | ros c off cap C ho hC h1 hl hc => exact h1
  | box x c ho hC h1 hg hb hx => intro c' h; simp at h; subst h; exact h1
theorem Sk.str1 (h : Sk σ o Q ty n a C) (e : Nat) : strOne e a = true := by
  cases h <;> rfl
end

theorem flat_len {n : Nat} : ∀ {C : List (List V)}, (∀ c ∈ C, c.length = n) → C.flatten.length = C.length * n
  | [], _ => by simp
  | c :: C, h => by
    rw [List.flatten_cons, List.length_append, flat_len (C := C) (fun c' h' => h c' (by simp [h'])), h c (by simp), List.length_cons, Nat.succ_mul, Nat.add_comm]
theorem flat_at {n : Nat} : ∀ {C : List (List V)}, (∀ c ∈ C, c.length = n) → ∀ {i : Nat} {c : List V}, C[i]? = some c → cut C.flatten (i * n) n = some c
  | [], _, i, c, h => by simp at h
  | d :: C, h, 0, c, e => by
    simp at e; subst e
    have := h d (by simp)
    simp [cut, this]
  | d :: C, h, i + 1, c, e => by
    have e' : C[i]? = some c := by simpa using e
    have ih := flat_at (C := C) (fun c' h' => h c' (by simp [h'])) e'
    obtain ⟨h1, h2⟩ := cut_some ih
    have hd := h d (by simp)
    have e1 : (i + 1) * n = d.length + i * n := by rw [hd, Nat.succ_mul, Nat.add_comm]
    unfold cut
    rw [List.flatten_cons, e1, if_pos (by simp only [List.length_append]; omega)]
    rw [List.drop_append]
    simp only [Nat.add_sub_cancel_left]
    rw [List.drop_eq_nil_of_le (by omega), List.nil_append, ← h2]
theorem cut_cut {c l : List V} {o m i n : Nat} {d : List V} (h : cut c o m = some l) (h' : cut l i n = some d) : cut c (o + i) n = some d := by
  obtain ⟨h1, h2⟩ := cut_some h
  obtain ⟨h3, h4⟩ := cut_some h'
  subst h2
  have h5 : i + n ≤ m := by simp only [List.length_take, List.length_drop] at h3; omega
  unfold cut
  rw [if_pos (by omega), h4]
  rw [List.drop_take, List.take_take, Nat.min_eq_left (by omega), List.drop_drop]

/-- A place at which cells lie. -/
inductive At (σ : H) : V → List V → Prop
  | ptr (x : Pos) (v off : Nat) (c C0 : List V) (h : blkCells σ x v = some C0) (hc : cut C0 off c.length = some c) : At σ (.ptr x v off) c
  | rop (off : Nat) (c C0 : List V) (hc : cut C0 off c.length = some c) : At σ (.rop C0 off) c
theorem cut_one {C0 : List V} {o : Nat} {v : V} {r : List V} (h : cut C0 o (v :: r).length = some (v :: r)) : C0[o]? = some v := by
  obtain ⟨h1, h2⟩ := cut_some h
  have h3 : ((C0.drop o).take (v :: r).length)[0]? = some v := by rw [← h2]; rfl
  rw [List.getElem?_take, if_pos (by simp), List.getElem?_drop] at h3
  exact h3
theorem At.ldv {σ : H} {q v : V} {r : List V} (h : At σ q (v :: r)) : ldv σ q = some v := by
  cases h with
  | ptr x ver off c C0 h hc => simp only [Go.Proofs.YtfgghbikbaopjaaGreatDoorEng.ldv, h]; exact cut_one hc
  | rop off c C0 hc => simp only [Go.Proofs.YtfgghbikbaopjaaGreatDoorEng.ldv]; exact cut_one hc
theorem At.ldg {σ : H} {q : V} {c : List V} {n : Nat} (h : At σ q c) (hn : c.length = n) : ldg σ n q = some (.agg c) := by
  subst hn
  cases h with
  | ptr x ver off c C0 h hc => simp only [Go.Proofs.YtfgghbikbaopjaaGreatDoorEng.ldg, h, pick1, hc]
  | rop off c C0 hc => simp only [Go.Proofs.YtfgghbikbaopjaaGreatDoorEng.ldg, pick1, hc]
theorem At.pre {σ : H} {q : V} {c d : List V} (h : At σ q (c ++ d)) : At σ q c := by
  have key : ∀ {C0 : List V} {off : Nat}, cut C0 off (c ++ d).length = some (c ++ d) → cut C0 off c.length = some c := by
    intro C0 off hc
    have : cut (c ++ d) 0 c.length = some c := by unfold cut; rw [if_pos (by simp)]; simp
    exact cut_cut hc this
  cases h with
  | ptr x ver off c C0 h hc => exact .ptr x ver off _ C0 h (key hc)
  | rop off c C0 hc => exact .rop off _ C0 (key hc)
theorem At.fad {σ : H} {q : V} {c d : List V} (h : At σ q (c ++ d)) {j : Nat} (hj : c.length = j) : ∃ q', fadV j q = some q' ∧ At σ q' d := by
  have key : ∀ {C0 : List V} {off : Nat}, cut C0 off (c ++ d).length = some (c ++ d) → cut C0 (off + j) d.length = some d := by
    intro C0 off hc
    have : cut (c ++ d) j d.length = some d := by unfold cut; rw [if_pos (by simp; omega)]; subst hj; simp
    exact cut_cut hc this
  cases h with
  | ptr x ver off c C0 h hc => exact ⟨_, rfl, .ptr x ver _ _ C0 h (key hc)⟩
  | rop off c C0 hc => exact ⟨_, rfl, .rop _ _ C0 (key hc)⟩
theorem At.keep {σ σ' : H} {q : V} {c : List V} (h : At σ q c) (w : WfH σ) (k : Keep σ σ') : At σ' q c := by
  cases h with
  | ptr x ver off c C0 h hc =>
    refine .ptr x ver off c C0 ?_ hc
    simp only [blkCells] at h ⊢
    cases hg : σ.get x with
    | none => rw [hg] at h; simp at h
    | some b => rw [k.get (w x b hg), hg]; rw [hg] at h; exact h
  | rop off c C0 hc => exact .rop off c C0 hc
/-- a variable -/
theorem At.var {σ : H} {x : Pos} {ty ver minv : Nat} {c : List V} {fz : Option Nat} {ex : List Nat} (h : σ.get x = some (.cells ty c ver minv fz ex)) : At σ (.ptr x ver 0) c :=
  .ptr x ver 0 c c (by simp only [blkCells, h, visib, if_true]) (by simp [cut])
theorem Sk.elem {σ : H} {o : Bool} {Q : Nat → Prop} {ty n : Nat} {a : V} {C : List (List V)} (h : Sk σ o Q ty n a C) {i : Nat} {c : List V} (hi : C[i]? = some c) : ∃ q, elemAt n a i = some q ∧ At σ q c := by
  have hlt : i < C.length := by
    rcases Nat.lt_or_ge i C.length with h | h
    · exact h
    · rw [List.getElem?_eq_none h] at hi; cases hi
  have hn := h.chunk c (List.mem_of_getElem? hi)
  have hii : 0 ≤ (i : Int) ∧ (i : Int) < C.length := ⟨Int.natCast_nonneg i, by omega⟩
  cases h with
  | nils => simp at hlt
  | own x ver minv ex C hne hC h1 hg hb hx =>
    refine ⟨.ptr x ver (0 + i * n), by simp only [elemAt]; rw [if_pos hii]; rfl, .ptr x ver _ c C.flatten (by simp only [blkCells, hg, visib, if_true]) ?_⟩
    rw [Nat.zero_add, hn]
    exact flat_at hC hi
  | ros d off cap C ho hC h1 hl hc =>
    refine ⟨.rop d (off + i * n), by simp only [elemAt]; rw [if_pos hii]; rfl, .rop _ c d ?_⟩
    rw [hn]
    exact cut_cut hc (flat_at hC hi)
  | box x d ho hC h1 hg hb hx =>
    cases i with
    | succ i => simp at hi
    | zero =>
      simp at hi; subst hi
      exact ⟨.ptr x 0 0, by simp [elemAt], .ptr x 0 0 d d (by simp only [blkCells, hg, visib, if_true]) (by simp [cut])⟩

theorem slCells_sk {σ : H} {o : Bool} {Q : Nat → Prop} {ty n : Nat} {a : V} {C : List (List V)} (h : Sk σ o Q ty n a C) : slCells σ n C.length a = some C.flatten := by
  cases h with
  | nils => simp [slCells]
  | own x ver minv ex C hne hC h1 hg hb hx =>
    simp only [slCells, blkCells, hg, visib, if_true, cut, Nat.zero_add, flat_len hC]
    rw [if_pos (Nat.le_refl _), List.drop_zero, List.take_of_length_le (by rw [flat_len hC]; exact Nat.le_refl _)]
  | ros d off cap C ho hC h1 hl hc => exact hc
  | box x c ho hC h1 hg hb hx =>
    simp only [slCells, blkCells, hg, visib, if_true, cut, List.length_singleton, Nat.one_mul, Nat.zero_add]
    rw [if_pos (by omega), List.drop_zero, List.take_of_length_le (by omega)]
    simp
theorem all_flat {C : List (List V)} (h : ∀ c ∈ C, c.all V.one = true) : C.flatten.all V.one = true := by
  rw [List.all_eq_true]
  intro x hx
  obtain ⟨c, hc, hx⟩ := List.mem_flatten.1 hx
  exact List.all_eq_true.1 (h c hc) x hx

/-- append of what lies in another slice, to a list of one's own -/
theorem Sk.app {σ0 σ : H} {Q Q' : Nat → Prop} {ty n eb : Nat} {a y : V} {C D : List (List V)} {o' : Bool} {ty' : Nat} (h : Sk σ true Q ty n a C) (hy : Sk σ o' Q' ty' n y D) (hn : 0 < n) (hQ : Q σ.nx.toNat) (hQ0 : ∀ z, Q z → σ0.nx.toNat ≤ z) (hK : Keep σ0 σ) (hb : (C.length + D.length) * eb ≤ mostBytes) (hb2 : C.length + D.length ≤ mostBytes) :
    ∃ v' σ', appV σ ty n eb a y = .ok v' σ' ∧ Sk σ' true Q ty n v' (C ++ D) ∧ Keep σ0 σ' ∧ σ.nx.toNat ≤ σ'.nx.toNat ∧
      ((a = v' ∧ σ' = σ ∧ D = []) ∨ (a = .nils ∧ Keep σ σ' ∧ ∃ ver l, v' = .sl σ.nx ver 0 l none n) ∨ ∃ x ver ver' l l', a = .sl x ver 0 l none n ∧ v' = .sl x ver' 0 l' none n ∧ ∀ z, z ≠ x → σ'.get z = σ.get z) := by
  have hyl := hy.slen
  have hyc := slCells_sk hy
  have hlen : (C ++ D).length = C.length + D.length := List.length_append
  have hCD : (∀ c ∈ D, c.length = n) := hy.chunk
  have hD1 := all_flat hy.ones
  unfold appV
  rw [if_pos (hy.str1 n), hyl]
  simp only [hyc]
  by_cases hz : D.length = 0
  · have hD : D = [] := List.eq_nil_of_length_eq_zero hz
    subst hD
    refine ⟨a, σ, ?_, by simpa using h, hK, Nat.le_refl _, .inl ⟨rfl, rfl, rfl⟩⟩
    cases h with
    | nils => simp [vapp, HR.of]
    | own x ver minv ex C hne hC h1 hg hb hx => simp [vapp, HR.of]
    | ros c off cap C ho => cases ho
    | box x c ho => cases ho
  · cases h with
    | nils =>
      simp only [vapp, if_neg hz, vgrow, List.length_nil, Nat.zero_add] at hb hb2 ⊢
      rw [if_pos ⟨hb, hb2, hn⟩]
      refine ⟨_, _, rfl, ?_, hK.trans (Keep.new _ _), (Keep.new _ _).1, .inr (.inl ⟨by trivial, Keep.new _ _, _, _, rfl⟩)⟩
      exact .own σ.nx 0 0 [] D (fun e => hz (by rw [e]; rfl)) hCD hy.ones (by rw [H.get_new, if_pos rfl]) hQ (by rw [nx_new]; omega)
    | own x ver minv ex C hne hC h1 hg hbx hx =>
      simp only [vapp, if_neg hz, hg, flat_len hC, Nat.zero_add]
      rw [if_pos ⟨trivial, trivial, trivial, hn, hb, hb2, Nat.zero_le _, Nat.le_refl _, hD1⟩]
      simp only [if_true, HR.of]
      refine ⟨_, _, rfl, ?_, hK.put (hQ0 _ hbx) hx _, Nat.le_refl _, .inr (.inr ⟨x, _, _, _, _, rfl, rfl, fun z hz => ?_⟩)⟩
      · rw [← hlen]
        refine .own x (ver + 1) minv _ (C ++ D) (fun e => hne (List.append_eq_nil_iff.1 e).1) (fun c hc => ?_) (fun c hc => ?_) (by rw [H.get_put, if_pos rfl, List.flatten_append]) hbx (by rw [nx_put]; exact hx)
        · rcases List.mem_append.1 hc with h | h
          · exact hC c h
          · exact hCD c h
        · rcases List.mem_append.1 hc with h | h
          · exact h1 c h
          · exact hy.ones c h
      · rw [H.get_put, if_neg hz]
    | ros c off cap C ho => cases ho
    | box x c ho => cases ho

/-- What an element stands for. -/
structure EK (α : Type) (n : Nat) where
  P : Bool → H → (Nat → Prop) → List V → α → Prop
  up : ∀ {o : Bool} {σ σ' : H} {Q : Nat → Prop} {c : List V} {x : α}, P o σ Q c x → Up Q σ σ' → P o σ' Q c x
  low : ∀ {o : Bool} {σ : H} {Q Q' : Nat → Prop} {c : List V} {x : α}, P o σ Q c x → (∀ z, Q z → Q' z) → P o σ Q' c x
  read : ∀ {o : Bool} {σ : H} {Q : Nat → Prop} {c : List V} {x : α}, P o σ Q c x → P false σ Q c x
  bd : ∀ {o : Bool} {σ : H} {Q : Nat → Prop} {c : List V} {x : α}, P o σ Q c x → P o σ (fun z => Q z ∧ z < σ.nx.toNat) c x
  len : ∀ {o : Bool} {σ : H} {Q : Nat → Prop} {c : List V} {x : α}, P o σ Q c x → c.length = n
  one : ∀ {o : Bool} {σ : H} {Q : Nat → Prop} {c : List V} {x : α}, P o σ Q c x → c.all V.one = true

/-- A slice of such elements. -/
def SP {α : Type} {n : Nat} (E : EK α n) (ty : Nat) (o : Bool) (σ : H) (Q : Nat → Prop) (a : V) (L : List α) : Prop :=
  ∃ C, Sk σ o Q ty n a C ∧ C.length = L.length ∧ ∀ (i : Nat) c x, C[i]? = some c → L[i]? = some x → E.P o σ Q c x

section
variable {α : Type} {n : Nat} {E : EK α n} {ty : Nat} {o : Bool} {σ σ' : H} {Q Q' : Nat → Prop} {a : V} {L : List α}
theorem SP.up (h : SP E ty o σ Q a L) (u : Up Q σ σ') : SP E ty o σ' Q a L := by
  obtain ⟨C, h1, h2, h3⟩ := h
  exact ⟨C, h1.up u, h2, fun i c x e1 e2 => E.up (h3 i c x e1 e2) u⟩
theorem SP.keep (h : SP E ty o σ Q a L) (k : Keep σ σ') : SP E ty o σ' Q a L := h.up (k.up Q)
theorem SP.low (h : SP E ty o σ Q a L) (hq : ∀ z, Q z → Q' z) : SP E ty o σ Q' a L := by
  obtain ⟨C, h1, h2, h3⟩ := h
  exact ⟨C, h1.low hq, h2, fun i c x e1 e2 => E.low (h3 i c x e1 e2) hq⟩
theorem SP.read (h : SP E ty o σ Q a L) : SP E ty false σ Q a L := by
  obtain ⟨C, h1, h2, h3⟩ := h
  exact ⟨C, h1.read, h2, fun i c x e1 e2 => E.read (h3 i c x e1 e2)⟩
theorem SP.bd (h : SP E ty o σ Q a L) : SP E ty o σ (fun z => Q z ∧ z < σ.nx.toNat) a L := by
  obtain ⟨C, h1, h2, h3⟩ := h
  exact ⟨C, h1.bd, h2, fun i c x e1 e2 => E.bd (h3 i c x e1 e2)⟩
theorem SP.nils : SP E ty o σ Q .nils [] := ⟨[], .nils, rfl, fun i c x h => by simp at h⟩
theorem SP.len (h : SP E ty o σ Q a L) : lenV a = some (.int .i64 L.length) := by
  obtain ⟨C, h1, h2, _⟩ := h
  rw [h1.len, h2]
theorem SP.one (h : SP E ty o σ Q a L) : a.one = true := by
  obtain ⟨C, h1, _, _⟩ := h
  exact h1.one
theorem SP.cells (h : SP E ty o σ Q a L) : a.cells = [a] := by
  obtain ⟨C, h1, _, _⟩ := h
  exact h1.cells
theorem SP.elem (h : SP E ty o σ Q a L) {i : Nat} {x : α} (hi : L[i]? = some x) : ∃ q c, elemAt n a i = some q ∧ At σ q c ∧ E.P o σ Q c x := by
  obtain ⟨C, h1, h2, h3⟩ := h
  have hlt : i < L.length := by
    rcases Nat.lt_or_ge i L.length with h | h
    · exact h
    · rw [List.getElem?_eq_none h] at hi; cases hi
  have hc : C[i]? = some (C[i]'(h2 ▸ hlt)) := List.getElem?_eq_getElem _
  obtain ⟨q, q1, q2⟩ := h1.elem hc
  exact ⟨q, _, q1, q2, h3 i _ _ hc hi⟩
end

/-- A list that grows: its elements lie apart from its own block. -/
inductive GL {α : Type} {n : Nat} (E : EK α n) (ty : Nat) (σ : H) (Q : Nat → Prop) : V → List α → Prop
  | nils : GL E ty σ Q .nils []
  | own (x : Pos) (ver minv : Nat) (ex : List Nat) (C : List (List V)) (L : List α) (hg : σ.get x = some (.cells ty C.flatten ver minv (some 0) ex)) (hq : Q x.toNat) (hx : x.toNat < σ.nx.toNat) (hne : L ≠ []) (hl : C.length = L.length)
      (he : ∀ (i : Nat) c y, C[i]? = some c → L[i]? = some y → E.P true σ (fun z => Q z ∧ z ≠ x.toNat) c y) : GL E ty σ Q (.sl x ver 0 L.length none n) L
theorem idx_some {α β : Type} {C : List α} {L : List β} (h : C.length = L.length) {i : Nat} {c : α} (hc : C[i]? = some c) : ∃ y, L[i]? = some y := by
  have : i < C.length := by
    rcases Nat.lt_or_ge i C.length with h | h
    · exact h
    · rw [List.getElem?_eq_none h] at hc; cases hc
  exact ⟨_, List.getElem?_eq_getElem (h ▸ this)⟩
section
variable {α : Type} {n : Nat} {E : EK α n} {ty : Nat} {o : Bool} {σ0 σ σ' : H} {Q Q' : Nat → Prop} {a : V} {L : List α}
theorem GL.sp (h : GL E ty σ Q a L) : SP E ty true σ Q a L := by
  cases h with
  | nils => exact SP.nils
  | own x ver minv ex C L hg hq hx hne hl he =>
    refine ⟨C, ?_, hl, fun i c y e1 e2 => E.low (he i c y e1 e2) fun z hz => hz.1⟩
    rw [← hl]
    refine .own x ver minv ex C (fun e => hne (List.eq_nil_of_length_eq_zero (by rw [← hl, e]; rfl))) (fun c hc => ?_) (fun c hc => ?_) hg hq hx
    · obtain ⟨i, hi⟩ := List.getElem?_of_mem hc
      obtain ⟨y, hy⟩ := idx_some hl hi
      exact E.len (he i c y hi hy)
    · obtain ⟨i, hi⟩ := List.getElem?_of_mem hc
      obtain ⟨y, hy⟩ := idx_some hl hi
      exact E.one (he i c y hi hy)
theorem GL.up (h : GL E ty σ Q a L) (u : Up Q σ σ') : GL E ty σ' Q a L := by
  cases h with
  | nils => exact .nils
  | own x ver minv ex C L hg hq hx hne hl he =>
    exact .own x ver minv ex C L ((u.2 x hq hx).trans hg) hq (Nat.lt_of_lt_of_le hx u.1) hne hl fun i c y e1 e2 => E.up (he i c y e1 e2) (u.low fun z hz => hz.1)
theorem GL.keep (h : GL E ty σ Q a L) (k : Keep σ σ') : GL E ty σ' Q a L := h.up (k.up Q)
theorem GL.len (h : GL E ty σ Q a L) : lenV a = some (.int .i64 L.length) := h.sp.len
theorem GL.one (h : GL E ty σ Q a L) : a.one = true := h.sp.one
/-- one element more: its cells lie in a new slice of one; its own memory is new -/
theorem GL.app {eb : Nat} {c : List V} {y : α} (hn : 0 < n) (h : GL E ty σ0 Q a L) (hK : Keep σ0 σ) (hQ : ∀ z, σ0.nx.toNat ≤ z → Q z) (hy : E.P true σ (fun z => σ0.nx.toNat ≤ z) c y) (hb : (L.length + 1) * eb ≤ mostBytes) (hb2 : L.length + 1 ≤ mostBytes) (hw : WfH σ) :
    ∃ v' σ', appV (σ.new (.cells ty c 0 0 (some 0) [])) ty n eb a (.sl σ.nx 0 0 1 (some 1) 0) = .ok v' σ' ∧ GL E ty σ' Q v' (L ++ [y]) ∧ WfH σ' ∧ σ.nx.toNat ≤ σ'.nx.toNat ∧ (∀ z, z.toNat < σ.nx.toNat → (∀ ver l, a ≠ .sl z ver 0 l none n) → σ'.m.get z = σ.m.get z) ∧ ∀ (x : Pos) ver o l cp k, v' = .sl x ver o l cp k → σ.nx.toNat ≤ x.toNat ∨ ∃ ver' l', a = .sl x ver' 0 l' none n := by
  have hcl := E.len hy
  have hc1 := E.one hy
  have hgx : (σ.new (.cells ty c 0 0 (some 0) [])).get σ.nx = some (.cells ty c 0 0 (some 0) []) := by rw [H.get_new, if_pos rfl]
  have hw1 := (Keep.new σ (.cells ty c 0 0 (some 0) [])).2.2 hw
  unfold appV
  rw [if_pos (show strOne n (V.sl σ.nx 0 0 1 (some 1) 0) = true from rfl)]
  simp only [slLen, slCells, blkCells, hgx, visib, if_true, Nat.one_mul]
  have hcut : cut c 0 n = some c := by unfold cut; rw [if_pos (by omega), List.drop_zero, List.take_of_length_le (by omega)]
  simp only [hcut]
  cases h with
  | nils =>
    simp only [vapp, Nat.one_ne_zero, if_false, vgrow, List.length_nil, Nat.zero_add] at hb hb2 ⊢
    rw [if_pos ⟨hb, hb2, hn⟩]
    have kk := (Keep.new σ (.cells ty c 0 0 (some 0) [])).trans (Keep.new _ (.cells ty c 0 0 (some 0) []))
    refine ⟨_, _, rfl, ?_, kk.2.2 hw, kk.1, fun z hz _ => kk.2.1 z hz, fun x ver o l cp k h => by cases h; exact .inl (by rw [nx_new]; omega)⟩
    refine .own _ 0 0 [] [c] [y] (by rw [H.get_new, if_pos rfl]; simp) (hQ _ ?_) (by simp only [nx_new]; omega) (by simp) rfl fun i c' y' e1 e2 => ?_
    · rw [nx_new]; exact Nat.le_succ_of_le hK.1
    · cases i with
      | succ i => simp at e1
      | zero =>
        simp at e1 e2
        subst e1; subst e2
        have h1 := E.low (E.bd hy) (Q' := fun z => Q z ∧ z ≠ (σ.new (.cells ty c 0 0 (some 0) [])).nx.toNat) fun z hz => ⟨hQ z hz.1, by have := hz.2; rw [nx_new]; omega⟩
        exact E.up h1 (kk.up _)
  | own x ver minv ex C L hg hq hx hne hl he =>
    have hxn : x ≠ σ.nx := by rintro rfl; have := hK.1; omega
    have hgx' : (σ.new (.cells ty c 0 0 (some 0) [])).get x = some (.cells ty C.flatten ver minv (some 0) ex) := by
      rw [H.get_new, if_neg hxn, hK.get hx]; exact hg
    have hCl : ∀ c ∈ C, c.length = n := fun c hc => by
      obtain ⟨i, hi⟩ := List.getElem?_of_mem hc
      obtain ⟨y, hy⟩ := idx_some hl hi
      exact E.len (he i c y hi hy)
    have hfl : C.flatten.length = L.length * n := by rw [flat_len hCl, hl]
    simp only [vapp, Nat.one_ne_zero, if_false, hgx', hfl, Nat.zero_add]
    rw [if_pos ⟨trivial, trivial, trivial, hn, hb, hb2, Nat.zero_le _, Nat.le_refl _, hc1⟩]
    simp only [if_true, HR.of]
    have u1 : Up (fun z => z ≠ x.toNat) (σ.new (.cells ty c 0 0 (some 0) [])) ((σ.new (.cells ty c 0 0 (some 0) [])).put x (.cells ty (C.flatten ++ c) (ver + 1) minv (some 0) (L.length * n :: ex))) := Up.put _ (fun h => h rfl) _
    refine ⟨_, _, rfl, ?_, ?_, (Keep.new σ (.cells ty c 0 0 (some 0) [])).1, fun z hz hza => ?_, fun x' ver' o' l' cp k h => by cases h; exact .inr ⟨_, _, rfl⟩⟩
    · have := GL.own (E := E) (ty := ty) (Q := Q) (n := n) (σ := (σ.new (.cells ty c 0 0 (some 0) [])).put x (.cells ty (C.flatten ++ c) (ver + 1) minv (some 0) (L.length * n :: ex))) x (ver + 1) minv (L.length * n :: ex) (C ++ [c]) (L ++ [y])
        (by rw [H.get_put, if_pos rfl]; simp) hq (by rw [nx_put, nx_new]; have := hK.1; omega) (by simp) (by simp [hl]) fun i c' y' e1 e2 => ?_
      · simpa using this
      · by_cases hi : i < C.length
        · rw [List.getElem?_append_left hi] at e1
          rw [List.getElem?_append_left (hl ▸ hi)] at e2
          exact E.up (he i c' y' e1 e2) (((hK.trans (Keep.new _ _)).up _).trans (u1.low fun z hz => hz.2))
        · rw [List.getElem?_append_right (by omega)] at e1
          rw [List.getElem?_append_right (by omega)] at e2
          have e3 : i - C.length = 0 := by
            rcases Nat.eq_zero_or_pos (i - C.length) with h | h
            · exact h
            · rw [List.getElem?_eq_none (by simp; omega)] at e1; cases e1
          rw [← hl] at e2
          rw [e3] at e1 e2
          simp at e1 e2
          subst e1; subst e2
          have h1 := E.low hy (Q' := fun z => Q z ∧ z ≠ x.toNat) fun z hz => ⟨hQ z hz, by omega⟩
          exact E.up h1 (((Keep.new _ _).up _).trans (u1.low fun z hz => hz.2))
    · intro z b' hz
      rw [H.get_put] at hz
      rw [nx_put]
      by_cases e : z = x
      · subst e; have := hK.1; rw [nx_new]; omega
      · rw [if_neg e] at hz; exact hw1 z b' hz
    · rw [H.m_put, if_neg (by rintro rfl; exact hza _ _ rfl), H.m_new, if_neg (by rintro rfl; omega)]
/-- .. as it is used: b is the heap when the list began -/
theorem GL.app' {b : H} (hwb : WfH b) {eb : Nat} {c : List V} {y : α} (hn : 0 < n) (h : GL E ty σ0 (fun z => b.nx.toNat ≤ z) a L) (hKb : Keep b σ0) (hK : Keep σ0 σ) (hy : E.P true σ (fun z => σ0.nx.toNat ≤ z) c y) (hb : (L.length + 1) * eb ≤ mostBytes) (hb2 : L.length + 1 ≤ mostBytes) :
    ∃ v' σ', appV (σ.new (.cells ty c 0 0 (some 0) [])) ty n eb a (.sl σ.nx 0 0 1 (some 1) 0) = .ok v' σ' ∧ GL E ty σ' (fun z => b.nx.toNat ≤ z) v' (L ++ [y]) ∧ Keep b σ' := by
  have hKbs := hKb.trans hK
  obtain ⟨v', σ', h1, h2, h3, h4, h5, _⟩ := GL.app (eb := eb) hn h hK (fun z hz => Nat.le_trans hKb.1 hz) hy hb hb2 (hKbs.2.2 hwb)
  refine ⟨v', σ', h1, h2, Nat.le_trans hKbs.1 h4, fun x hx => ?_, fun _ => h3⟩
  rw [h5 x (Nat.lt_of_lt_of_le hx hKbs.1), hKbs.2.1 x hx]
  rintro ver l rfl
  cases h with
  | own x ver minv ex C L hg hq hx' hne hl he => exact absurd hq (by omega)
end
end Go.Proofs.YtfgghbikbaopjaaGreatDoorEng

namespace Go.Proofs.YtfgghbikbaopjaaGreatDoorEng
open Go
set_option maxRecDepth 100000
set_option linter.unusedSimpArgs false

/-- The body of a loop that counts: i < n, the round, i + 1. -/
def rngB (l i nn k id id' : Nat) (B : CC) : CC :=
  .seq (.reg [oP (pk l) (bi .lss (.t (pk i)) (.t (pk nn)))]) (.seq (.cond (.t (pk l)) .skip (.exit id)) (.seq (.blk id' B) (.reg [oP (pk k) (bi .add (.t (pk i)) (ki 1)), oP (pk i) (.mv (.t (pk k)))])))

theorem NR_blk {id : Nat} {r : R} {N T : Tr V → H → Prop} (h : NR r N T) : NR (kBlk id r) N T := by
  rcases h.elim with ⟨τ, σ, rfl, hN⟩ | ⟨τ, σ, rfl, hT⟩
  · exact ⟨rfl, hN⟩
  · exact ⟨rfl, hT⟩
theorem NR_in {cf : CallF} {lf n id : Nat} {b : CC} {r : R} {N A T : Tr V → H → Prop} (h : NR r N T) (k : ∀ τ σ, N τ σ → NR (kBlk id (exec cf lf n b τ σ [])) A T) : NR (kBlk id (kSeq cf lf n b r)) A T := by
  rcases h.elim with ⟨τ, σ, rfl, hN⟩ | ⟨τ, σ, rfl, hT⟩
  · exact k τ σ hN
  · exact ⟨rfl, hT⟩
theorem NR_seq {cf : CallF} {lf n : Nat} {b : CC} {r : R} {N A T : Tr V → H → Prop} (h : NR r N T) (k : ∀ τ σ, N τ σ → NR (exec cf lf n b τ σ []) A T) : NR (kSeq cf lf n b r) A T := by
  rcases h.elim with ⟨τ, σ, rfl, hN⟩ | ⟨τ, σ, rfl, hT⟩
  · exact k τ σ hN
  · exact ⟨rfl, hT⟩
theorem NR.mono {r : R} {N N' T T' : Tr V → H → Prop} (h : NR r N T) (hN : ∀ τ σ, N τ σ → N' τ σ) (hT : ∀ τ σ, T τ σ → T' τ σ) : NR r N' T' := by
  rcases h.elim with ⟨τ, σ, rfl, h1⟩ | ⟨τ, σ, rfl, h1⟩
  · exact ⟨rfl, hN _ _ h1⟩
  · exact ⟨rfl, hT _ _ h1⟩
theorem NR.nx {r : R} {N T : Tr V → H → Prop} (h : NR r N T) (hT : ∀ τ σ, ¬ T τ σ) : Nx r N := by
  rcases h.elim with ⟨τ, σ, rfl, h1⟩ | ⟨τ, σ, rfl, h1⟩
  · exact ⟨rfl, h1⟩
  · exact absurd h1 (hT _ _)

theorem range_rule {cf : CallF} {lf n l i nn k id id' : Nat} {B : CC} {N : Nat} (J : Nat → Tr V → H → Prop) (X T : Tr V → H → Prop)
    (hl : l + 1 ≤ n) (hi : i + 1 ≤ n) (hk : k + 1 ≤ n) (_d1 : ¬ i = l) (_d2 : ¬ nn = l) (d3 : ¬ nn = k) (d4 : ¬ nn = i)
    (hN : N < lf) (hN2 : N < 4611686018427387904)
    (step : ∀ j τ σ, j < N → J j τ σ → τ.get (pk i) = some (.int .i64 j) → τ.get (pk nn) = some (.int .i64 N) →
      NR (kBlk id' (exec cf lf n B (τ.set (pk l) (.bool true)) σ [])) (fun τ' σ' => τ'.get (pk i) = some (.int .i64 j) ∧ τ'.get (pk nn) = some (.int .i64 N) ∧
        J (j + 1) ((τ'.set (pk k) (.int .i64 (j + 1 : Nat))).set (pk i) (.int .i64 (j + 1 : Nat))) σ') T)
    (fin : ∀ τ σ, J N τ σ → X (τ.set (pk l) (.bool false)) σ)
    {τ : Tr V} {σ : H} (h0 : J 0 τ σ) (gi : τ.get (pk i) = some (.int .i64 0)) (gn : τ.get (pk nn) = some (.int .i64 N)) :
    NR (kBlk id (exec cf lf n (.loop (rngB l i nn k id id' B)) τ σ [])) X T := by
  refine loop_rule (fun kk τ σ' => ∃ j : Nat, j ≤ N ∧ kk = N - j ∧ τ.get (pk i) = some (.int .i64 j) ∧ τ.get (pk nn) = some (.int .i64 N) ∧ J j τ σ') X T ?_ (k := N) hN ⟨0, Nat.zero_le _, rfl, gi, gn, h0⟩
  rintro kk τ σ' ⟨j, hj, rfl, g1, g2, hJ⟩
  have e1 : bi .lss (.t (pk i)) (.t (pk nn)) = .bin .lss (.sc .int) (.t (pk i)) (.t (pk nn)) := rfl
  by_cases hlt : j < N
  · have q1 : decide ((j : Int) < (N : Int)) = true := by simp; exact hlt
    have hw : IntKind.i64.wrap ((j : Int) + 1) = ((j + 1 : Nat) : Int) := wrap_add1 (by omega)
    have hs := step j τ σ' hlt hJ g1 g2
    have h1 : exec cf lf n (rngB l i nn k id id' B) τ σ' [] = kSeq cf lf n (.reg [oP (pk k) (bi .add (.t (pk i)) (ki 1)), oP (pk i) (.mv (.t (pk k)))]) (kBlk id' (exec cf lf n B (τ.set (pk l) (.bool true)) σ' [])) := by
      simp only [rngB, s_seq, s_reg, s_ops_cons, oP, s_P, bi, e_bin, e_t, g1, g2, e_lss, q1, s_put, hl, if_true, s_ops_nx, s_ops_nil, s_seq_nx, s_cond, get_pk, s_cond_t, s_skip, s_blk]
    rw [h1]
    rcases hs.elim with ⟨τ', σ'', e, k1, k2, k3⟩ | ⟨τ', σ'', e, k1⟩
    · rw [e]
      simp only [s_seq_nx, s_reg, s_ops_cons, oP, s_P, bi, e_bin, e_t, e_k, ki, k1, k2, e_add_i64, hw, s_put, hk, hi, if_true, s_ops_nx, s_ops_nil, e_mv, get_pk, s_NXT_nx]
      refine ⟨trivial, N - (j + 1), by omega, j + 1, by omega, rfl, rfl, ?_, k3⟩
      rw [if_neg d4, if_neg d3]
    · rw [e]
      exact ⟨rfl, k1⟩
  · have q1 : decide ((j : Int) < (N : Int)) = false := by simp; omega
    have hjN : j = N := by omega
    subst hjN
    have h1 : exec cf lf n (rngB l i nn k id id' B) τ σ' [] = .ex id (τ.set (pk l) (.bool false)) σ' [] := by
      simp only [rngB, s_seq, s_reg, s_ops_cons, oP, s_P, bi, e_bin, e_t, g1, g2, e_lss, q1, s_put, hl, if_true, s_ops_nx, s_ops_nil, s_seq_nx, s_cond, get_pk, s_cond_f, s_exit, s_seq_ex]
    rw [h1]
    exact ⟨rfl, rfl, fin τ σ' hJ⟩

/-- a variable of new memory, written at once -/
theorem var_new (σ : H) (ty n : Nat) {zs c : List V} (hz : zs.length = n) (hc : c.length = n) (h1 : c.all V.one = true) :
    ∃ σ', stV (σ.new (.cells ty zs 0 0 (some 0) [])) n (.ptr σ.nx 0 0) (.agg c) = .ok undefV σ' ∧ Keep σ σ' ∧ σ'.get σ.nx = some (.cells ty c 0 0 (some 0) []) := by
  refine ⟨(σ.new (.cells ty zs 0 0 (some 0) [])).put σ.nx (.cells ty c 0 0 (some 0) []), ?_, (Keep.new σ _).put (Nat.le_refl _) (by rw [nx_new]; omega) _, by rw [H.get_put, if_pos rfl]⟩
  simp only [stV, V.cells, putCells, H.get_new, if_true]
  rw [if_pos hc, if_pos ⟨trivial, Nat.zero_le _, by omega, h1⟩]
  simp only [List.take_zero, List.nil_append, Nat.zero_add]
  rw [List.drop_eq_nil_of_le (by omega), List.append_nil]

/-- a write over the whole of a variable -/
theorem var_put {σ : H} {x : Pos} {ty n ver minv : Nat} {zs c : List V} {ex : List Nat} (hg : σ.get x = some (.cells ty zs ver minv (some 0) ex)) (hz : zs.length = n) (hc : c.length = n) (h1 : c.all V.one = true) :
    stV σ n (.ptr x ver 0) (.agg c) = .ok undefV (σ.put x (.cells ty c ver ver (some 0) ex)) := by
  simp only [stV, V.cells, putCells, hg]
  rw [if_pos hc, if_pos ⟨trivial, Nat.zero_le _, by omega, h1⟩]
  simp only [List.take_zero, List.nil_append, Nat.zero_add]
  rw [List.drop_eq_nil_of_le (by omega), List.append_nil]

/- ---- sorts ---- -/
inductive S where
  | mk (k w : Int) (nm : List Nat) (args : List S)
mutual
def S.sz : S → Nat
  | .mk _ _ nm l => S.szL l + nm.length + 1
def S.szL : List S → Nat
  | [] => 0
  | s :: r => s.sz + S.szL r + 1
end
theorem S.szL_len : ∀ l : List S, l.length ≤ S.szL l
  | [] => Nat.le_refl _
  | s :: r => by have := S.szL_len r; simp only [List.length_cons, S.szL]; omega
theorem S.szL_mem : ∀ {l : List S} {i : Nat} {s : S}, l[i]? = some s → s.sz < S.szL l
  | [], i, s, h => by simp at h
  | t :: r, 0, s, h => by simp at h; subst h; simp only [S.szL]; omega
  | t :: r, i + 1, s, h => by have := S.szL_mem (l := r) (i := i) (by simpa using h); simp only [S.szL]; omega

inductive SortIs (σ : H) (o : Bool) (Q : Nat → Prop) : List V → S → Prop
  | mk (k w : Int) (nm : List Nat) (a : V) (C : List (List V)) (args : List S) (h : Sk σ o Q 40 4 a C) (hl : C.length = args.length)
      (he : ∀ (i : Nat) (c : List V) (s : S), C[i]? = some c → args[i]? = some s → SortIs σ o Q c s) : SortIs σ o Q [.int .i64 k, .int .i64 w, .str nm, a] (.mk k w nm args)

section
variable {σ σ' : H} {o : Bool} {Q Q' : Nat → Prop} {c : List V} {s : S}
theorem SortIs.up (h : SortIs σ o Q c s) (u : Up Q σ σ') : SortIs σ' o Q c s := by
  induction h with
  | mk k w nm a C args h hl _ ih => exact .mk k w nm a C args (h.up u) hl ih
theorem SortIs.low (h : SortIs σ o Q c s) (hq : ∀ z, Q z → Q' z) : SortIs σ o Q' c s := by
  induction h with
  | mk k w nm a C args h hl _ ih => exact .mk k w nm a C args (h.low hq) hl ih
theorem SortIs.read (h : SortIs σ o Q c s) : SortIs σ false Q c s := by
  induction h with
  | mk k w nm a C args h hl _ ih => exact .mk k w nm a C args h.read hl ih
theorem SortIs.bd (h : SortIs σ o Q c s) : SortIs σ o (fun z => Q z ∧ z < σ.nx.toNat) c s := by
  induction h with
  | mk k w nm a C args h hl _ ih => exact .mk k w nm a C args h.bd hl ih
theorem SortIs.len (h : SortIs σ o Q c s) : c.length = 4 := by cases h; rfl
theorem SortIs.one (h : SortIs σ o Q c s) : c.all V.one = true := by
  cases h with
  | mk k w nm a C args h hl _ => have h1 := h.one; simp only [List.all_cons, List.all_nil, h1]; rfl
end
def Eso : EK S 4 := ⟨fun o σ Q c s => SortIs σ o Q c s, SortIs.up, SortIs.low, SortIs.read, SortIs.bd, SortIs.len, SortIs.one⟩
theorem SortIs.inv {σ : H} {o : Bool} {Q : Nat → Prop} {c : List V} {s : S} (h : SortIs σ o Q c s) : ∃ k w nm a args, c = [.int .i64 k, .int .i64 w, .str nm, a] ∧ s = .mk k w nm args ∧ SP Eso 40 o σ Q a args := by
  cases h with
  | mk k w nm a C args h hl he => exact ⟨k, w, nm, a, args, rfl, rfl, C, h, hl, he⟩
theorem SortIs.of {σ : H} {o : Bool} {Q : Nat → Prop} {a : V} {args : List S} (k w : Int) (nm : List Nat) (h : SP Eso 40 o σ Q a args) : SortIs σ o Q [.int .i64 k, .int .i64 w, .str nm, a] (.mk k w nm args) := by
  obtain ⟨C, h1, h2, h3⟩ := h
  exact .mk k w nm a C args h1 h2 h3

def Est : EK (List Nat) 1 where
  P := fun _ _ _ c s => c = [.str s]
  up := fun h _ => h
  low := fun h _ => h
  read := fun h => h
  bd := fun h => h
  len := fun h => by subst h; rfl
  one := fun h => by subst h; rfl
/-- selectors -/
def Ese : EK (List Nat × S) 5 where
  P := fun o σ Q c x => ∃ d, c = .str x.1 :: d ∧ SortIs σ o Q d x.2
  up := fun ⟨d, h1, h2⟩ u => ⟨d, h1, h2.up u⟩
  low := fun ⟨d, h1, h2⟩ q => ⟨d, h1, h2.low q⟩
  read := fun ⟨d, h1, h2⟩ => ⟨d, h1, h2.read⟩
  bd := fun ⟨d, h1, h2⟩ => ⟨d, h1, h2.bd⟩
  len := fun ⟨d, h1, h2⟩ => by subst h1; simp [h2.len]
  one := fun ⟨d, h1, h2⟩ => by subst h1; have h3 := h2.one; simp only [List.all_cons, h3]; rfl
/-- constructors -/
def Eco : EK (List Nat × List (List Nat × S)) 2 where
  P := fun o σ Q c x => ∃ a, c = [.str x.1, a] ∧ SP Ese 42 o σ Q a x.2
  up := fun ⟨d, h1, h2⟩ u => ⟨d, h1, h2.up u⟩
  low := fun ⟨d, h1, h2⟩ q => ⟨d, h1, h2.low q⟩
  read := fun ⟨d, h1, h2⟩ => ⟨d, h1, h2.read⟩
  bd := fun ⟨d, h1, h2⟩ => ⟨d, h1, h2.bd⟩
  len := fun ⟨d, h1, h2⟩ => by subst h1; rfl
  one := fun ⟨d, h1, h2⟩ => by subst h1; have h3 := h2.one; simp only [List.all_cons, List.all_nil, h3]; rfl
/-- datatypes -/
def Eda : EK (List Nat × List (List Nat × List (List Nat × S))) 2 where
  P := fun o σ Q c x => ∃ a, c = [.str x.1, a] ∧ SP Eco 36 o σ Q a x.2
  up := fun ⟨d, h1, h2⟩ u => ⟨d, h1, h2.up u⟩
  low := fun ⟨d, h1, h2⟩ q => ⟨d, h1, h2.low q⟩
  read := fun ⟨d, h1, h2⟩ => ⟨d, h1, h2.read⟩
  bd := fun ⟨d, h1, h2⟩ => ⟨d, h1, h2.bd⟩
  len := fun ⟨d, h1, h2⟩ => by subst h1; rfl
  one := fun ⟨d, h1, h2⟩ => by subst h1; have h3 := h2.one; simp only [List.all_cons, List.all_nil, h3]; rfl
/-- functions -/
def Efu : EK (List Nat × List S × S) 6 where
  P := fun o σ Q c x => ∃ a d, c = .str x.1 :: a :: d ∧ SP Eso 40 o σ Q a x.2.1 ∧ SortIs σ o Q d x.2.2
  up := fun ⟨a, d, h1, h2, h3⟩ u => ⟨a, d, h1, h2.up u, h3.up u⟩
  low := fun ⟨a, d, h1, h2, h3⟩ q => ⟨a, d, h1, h2.low q, h3.low q⟩
  read := fun ⟨a, d, h1, h2, h3⟩ => ⟨a, d, h1, h2.read, h3.read⟩
  bd := fun ⟨a, d, h1, h2, h3⟩ => ⟨a, d, h1, h2.bd, h3.bd⟩
  len := fun ⟨a, d, h1, h2, h3⟩ => by subst h1; simp [h3.len]
  one := fun ⟨a, d, h1, h2, h3⟩ => by subst h1; have h4 := h3.one; have h5 := h2.one; simp only [List.all_cons, h4, h5]; rfl

abbrev So := S
abbrev Se := List Nat × S
abbrev Co := List Nat × List Se
abbrev Da := List Nat × List Co
abbrev Fu := List Nat × List S × S
/-- a signature -/
structure Sg where
  us : List (List Nat)
  ds : List Da
  fs : List Fu
def SigIs (σ : H) (o : Bool) (Q : Nat → Prop) (c : List V) (g : Sg) : Prop := ∃ u d f, c = [u, d, f] ∧ SP Est 9 o σ Q u g.us ∧ SP Eda 33 o σ Q d g.ds ∧ SP Efu 44 o σ Q f g.fs
theorem SigIs.up {σ σ' : H} {o : Bool} {Q : Nat → Prop} {c : List V} {g : Sg} (h : SigIs σ o Q c g) (k : Up Q σ σ') : SigIs σ' o Q c g := by
  obtain ⟨u, d, f, h1, h2, h3, h4⟩ := h
  exact ⟨u, d, f, h1, h2.up k, h3.up k, h4.up k⟩
end Go.Proofs.YtfgghbikbaopjaaGreatDoorEng

namespace Go.Proofs.YtfgghbikbaopjaaGreatDoorEng
open Go
set_option maxRecDepth 100000
set_option linter.unusedSimpArgs false

theorem e_boxA (ty : Nat) (c : List V) : kBox ty (some (.agg c)) = some (.ptr, .cells ty c 0 0 (some 0) []) := rfl
theorem e_box1 (ty : Nat) {v : V} (h : v.cells = [v]) : kBox ty (some v) = some (.ptr, .cells ty [v] 0 0 (some 0) []) := by simp [kBox, h]
def kBsn (ty n : Nat) : Option V → Option (AK × Blk)
  | some v => if v.cells.length = n then some (.sl 1 1, .cells ty v.cells 0 0 (some 0) []) else none
  | none => none
theorem e_bsn (τ : Tr V) (ty n : Nat) (zs : List V) (a : Arg) (h : zs.length = n) : AOp.ev τ (.bslice ty 1 zs [(0, n, a)]) = kBsn ty n (a.ev τ) := by
  simp only [AOp.ev, evParts]
  cases a.ev τ with
  | none => rfl
  | some v =>
    simp only [fillL, kBsn]
    by_cases hv : v.cells.length = n
    · have : List.drop n zs = [] := List.drop_eq_nil_of_le (by omega)
      simp [hv, h, this]
    · simp [hv]
theorem kBsn_agg {ty n : Nat} {c : List V} (h : c.length = n) : kBsn ty n (some (.agg c)) = some (.sl 1 1, .cells ty c 0 0 (some 0) []) := by
  simp [kBsn, V.cells, h]
theorem kBs1_one {ty : Nat} {v : V} (h : v.cells = [v]) : kBs1 ty (some v) = some (.sl 1 1, .cells ty [v] 0 0 (some 0) []) := by
  simp [kBs1, h]
theorem cells_agg (c : List V) : (V.agg c).cells = c := rfl
theorem cells_str (s : List Nat) : (V.str s).cells = [V.str s] := rfl
theorem cells_int (k : IntKind) (n : Int) : (V.int k n).cells = [V.int k n] := rfl
theorem cells_map (x : Pos) : (V.map x).cells = [V.map x] := rfl
/- structs that are put together -/
def kBuild (zs : List V) : Option (List (Nat × Nat × V)) → Option V
  | some l => match fillL zs l with
    | some c => some (.agg c)
    | none => none
  | none => none
def kPc (o s : Nat) : Option V → Option (List (Nat × Nat × V)) → Option (List (Nat × Nat × V))
  | some v, some l => some ((o, s, v) :: l)
  | _, _ => none
theorem e_buildP (τ : Tr V) (zs : List V) (p : Nat × Nat × Arg) (l : List (Nat × Nat × Arg)) : POp.ev τ (.build zs (p :: l)) = kBuild zs (evParts τ (p :: l)) := by
  simp only [POp.ev]; rfl
theorem e_partN (τ : Tr V) : evParts τ [] = some [] := rfl
theorem e_partC (τ : Tr V) (o s : Nat) (a : Arg) (r : List (Nat × Nat × Arg)) : evParts τ ((o, s, a) :: r) = kPc o s (a.ev τ) (evParts τ r) := by
  simp only [evParts]
  cases a.ev τ with
  | none => rfl
  | some v => cases evParts τ r <;> rfl
theorem e_pc (o s : Nat) (v : V) (l : List (Nat × Nat × V)) : kPc o s (some v) (some l) = some ((o, s, v) :: l) := rfl
def nilckV : V → Option V
  | .ptr x v o => some (.ptr x v o)
  | .rop c o => some (.rop c o)
  | .fn f x y => some (.fn f x y)
  | .iface t v => some (.iface t v)
  | _ => none
theorem e_nilck (τ : Tr V) (a : Arg) : POp.ev τ (.nilck a) = kBind nilckV (a.ev τ) := by
  simp only [POp.ev]
  cases a.ev τ with
  | none => rfl
  | some v => cases v <;> rfl
theorem e_nilp (x : Pos) (v o : Nat) : nilckV (.ptr x v o) = some (.ptr x v o) := rfl
theorem ldk {σ : H} {x : Pos} {ty ver minv : Nat} {c : List V} {fz : Option Nat} {ex : List Nat} {k : Nat} {v : V} (h : σ.get x = some (.cells ty c ver minv fz ex)) (hk : c[k]? = some v) : ldv σ (.ptr x ver k) = some v := by
  simp only [ldv, blkCells, h, visib, if_true]; exact hk
theorem st_one {σ : H} {x : Pos} {ty ver minv o : Nat} {c : List V} {ex : List Nat} {v : V} (hx : σ.get x = some (.cells ty c ver minv (some 0) ex)) (ho : o < c.length) (hv : v.cells = [v]) (h1 : v.one = true) :
    stV σ 1 (.ptr x ver o) v = .ok undefV (σ.put x (.cells ty (c.set o v) ver ver (some 0) ex)) := by
  simp only [stV, hv, List.length_singleton, if_true, putCells, hx]
  rw [if_pos ⟨trivial, Nat.zero_le _, by omega, by simp [h1]⟩]
  simp only [List.append_assoc, List.singleton_append]
  rw [List.set_eq_take_append_cons_drop, if_pos ho]
/-- a result that lies in a variable -/
theorem call_rcn {T : Tab} {f n : Nat} {c : CFun} {p : Pos} {lf m : Nat} {args : List V} {σ : H} {Post : List V → H → Prop} (hi : T.intr f = none) (hc : T.code f = some c) (hl : args.length ≤ c.n) (hr : c.res = [.cell p (some n)])
    (h : ∀ cf, cf = call T lf m → Rt (exec cf lf c.n c.body (bindArgs args .h .lf) σ []) fun τ σ' => ∃ x l, τ.get p = some (.ptr x 0 0) ∧ blkCells σ' x 0 = some l ∧ l.length = n ∧ Post l σ') :
    ∃ l σ', call T lf (m + 1) f args σ = .ret (.agg l) σ' ∧ Post l σ' := by
  obtain ⟨τ, σ', h1, x, l, h2, h3, h4, h5⟩ := (h _ rfl).elim
  refine ⟨l, σ', ?_, h5⟩
  rw [call_def hi hc lf m args σ hl, h1, fin_rt, hr]
  subst h4
  simp [retOf, resV, resAll, resOne, h2, h3, pick1, cut]
theorem blk_get {σ : H} {x : Pos} {ty minv : Nat} {c : List V} {fz : Option Nat} {ex : List Nat} (h : σ.get x = some (.cells ty c 0 minv fz ex)) : blkCells σ x 0 = some c := by
  simp only [blkCells, h, visib, if_true]

def BB : Nat := 4294967296
theorem c63_at : T1.code 63 = some c63 := by kernel_rfl
theorem QY : type_of% (And.intro (@e_boxA) <| And.intro (@e_alloc) <| And.intro (@e_faddr) <| And.intro (@e_fadp) <| And.intro (@e_lg) <| And.intro (@e_bsn) <| And.intro (@e_buildP) <| And.intro (@e_partN) <| And.intro (@e_partC) <| And.intro (@e_pc) <| And.intro (@lg.eq_1) <| And.intro (@e_nilck) <| (@e_nilp)) := And.intro (@e_boxA) <| And.intro (@e_alloc) <| And.intro (@e_faddr) <| And.intro (@e_fadp) <| And.intro (@e_lg) <| And.intro (@e_bsn) <| And.intro (@e_buildP) <| And.intro (@e_partN) <| And.intro (@e_partC) <| And.intro (@e_pc) <| And.intro (@lg.eq_1) <| And.intro (@e_nilck) <| (@e_nilp)
/-- copySort -/
theorem copySort_call : ∀ (n : Nat) (s : S), s.sz ≤ n → ∀ {lf m : Nat} {σ : H} {o : Bool} {Q : Nat → Prop} {c : List V}, WfH σ → SortIs σ o Q c s → s.sz < lf → s.sz < BB → n ≤ m →
    ∃ c' σ', call T1 lf (m + 1) 63 [.agg c] σ = .ret (.agg c') σ' ∧ Keep σ σ' ∧ SortIs σ' true (fun z => σ.nx.toNat ≤ z) c' s := by
  intro n
  induction n with
  | zero => intro s hs; cases s with | mk => simp [S.sz] at hs
  | succ n ih =>
    intro s hs lf m σ o Q c hw hS hlf hBB hm
    obtain ⟨m, rfl⟩ : ∃ m', m = m' + 1 := ⟨m - 1, by omega⟩
    obtain ⟨k, w, nm, a, args, rfl, rfl, hA⟩ := hS.inv
    simp only [S.sz] at hs hlf hBB
    have hlen := S.szL_len args
    refine call_rcn (p := pk 2) (n := 4) rfl c63_at (by simp [c63]) rfl fun cf hcf => ?_
    generalize hτ : bindArgs [.agg [.int .i64 k, .int .i64 w, .str nm, a]] .h .lf = τ0
    have h0 : τ0.get (pk 0) = some (.agg [.int .i64 k, .int .i64 w, .str nm, a]) := by rw [← hτ]; rfl
    clear hτ
    have hKa := Keep.new σ (.cells 40 [.int .i64 k, .int .i64 w, .str nm, a] 0 0 (some 0) [])
    have ga := (Keep.refl (σ.new (.cells 40 [.int .i64 k, .int .i64 w, .str nm, a] 0 0 (some 0) []))).at
    have x1 : σ.nx.toNat < (σ.new (.cells 40 [.int .i64 k, .int .i64 w, .str nm, a] 0 0 (some 0) [])).nx.toNat := by rw [nx_new]; omega
    have hw1 := hKa.2.2 hw
    generalize hσ1 : σ.new (.cells 40 [.int .i64 k, .int .i64 w, .str nm, a] 0 0 (some 0) []) = σ1 at *
    have hKb := Keep.new σ1 (.cells 40 [.int .i64 0, .int .i64 0, .str [], .nils] 0 0 (some 0) [])
    have gb := (Keep.refl (σ1.new (.cells 40 [.int .i64 0, .int .i64 0, .str [], .nils] 0 0 (some 0) []))).at
    have x2 : σ1.nx.toNat < (σ1.new (.cells 40 [.int .i64 0, .int .i64 0, .str [], .nils] 0 0 (some 0) [])).nx.toNat := by rw [nx_new]; omega
    have hw2 := hKb.2.2 hw1
    generalize hσ2 : σ1.new (.cells 40 [.int .i64 0, .int .i64 0, .str [], .nils] 0 0 (some 0) []) = σ2 at *
    have ga2 := hKb.get_some hw1 ga
    have hA2 := (hA.keep hKa).keep hKb
    have l3 : ldv σ2 (.ptr σ.nx 0 3) = some a := ldk ga2 rfl
    have hal := hA2.len
    simp only [c63, QA, Nat.reduceAdd, Nat.reduceLeDiff, Nat.reduceEqDiff, QY, e_box, h0, hσ1, hσ2, l3, hal]
    refine Rt_seqNR (range_rule (l := 10) (i := 9) (nn := 8) (k := 18) (id := 0) (id' := 1) (B := y63_1) (N := args.length)
      (fun j τ σ' => Keep σ2 σ' ∧ τ.get (pk 1) = some (.ptr σ.nx 0 0) ∧ τ.get (pk 2) = some (.ptr σ1.nx 0 0) ∧ τ.get (pk 7) = some a ∧ ∃ v, τ.get (pk 3) = some v ∧ GL Eso 40 σ' (fun z => σ2.nx.toNat ≤ z) v (args.take j))
      (fun τ σ' => Keep σ2 σ' ∧ τ.get (pk 1) = some (.ptr σ.nx 0 0) ∧ τ.get (pk 2) = some (.ptr σ1.nx 0 0) ∧ ∃ v, τ.get (pk 3) = some v ∧ GL Eso 40 σ' (fun z => σ2.nx.toNat ≤ z) v args)
      _ (by decide) (by decide) (by decide) (by decide) (by decide) (by decide) (by decide) (by omega) (by unfold BB at hBB; omega) ?_ ?_ ?_ ?_ ?_) ?_
    · rintro j τ σ' hj ⟨hK, g1, g2, g7, v, g3, hG⟩ g9 g8
      obtain ⟨s', hs'⟩ : ∃ s', args[j]? = some s' := ⟨_, List.getElem?_eq_getElem hj⟩
      have hsz := S.szL_mem hs'
      obtain ⟨q, ce, q1, q2, q3⟩ := (hA2.keep hK).elem hs'
      have q3 : SortIs σ' o Q ce s' := q3
      have lq := q2.ldg q3.len
      have hw' := hK.2.2 hw2
      obtain ⟨σ3, k1, k2, k3⟩ := var_new σ' 40 4 (zs := [.int .i64 0, .int .i64 0, .str [], .nils]) rfl q3.len q3.one
      have l5 := (At.var k3).ldg q3.len
      have hw3 := k2.2.2 hw'
      obtain ⟨c', σ4, k4, k5, k6⟩ := ih s' (by omega) (lf := lf) (m := m) hw3 (q3.up (k2.up _)) (by omega) (by omega) (by omega)
      have bs := kBsn_agg (ty := 40) k6.len
      obtain ⟨v', σ5, k7, k8, k9⟩ := GL.app' (E := Eso) (σ := σ4) (y := s') (eb := 56) hw2 (by decide) hG hK (k2.trans k5) (k6.low fun z hz => Nat.le_trans k2.1 hz) (by simp [mostBytes]; unfold BB at hBB; omega) (by simp [mostBytes]; unfold BB at hBB; omega)
      rw [← hcf] at k4
      have ht : args.take (j + 1) = args.take j ++ [s'] := by rw [List.take_add_one, hs']; rfl
      simp only [y63_1, QA, Nat.reduceAdd, Nat.reduceLeDiff, Nat.reduceEqDiff, QY, g3, g7, g8, g9, q1, lq, k1, l5, k4, bs, k7, List.length_cons, List.length_nil]
      exact ⟨k9, g1, g2, ht ▸ k8⟩
    · rintro τ σ' ⟨hK, g1, g2, g7, v, g3, hG⟩
      rw [List.take_of_length_le (Nat.le_refl _)] at hG
      exact ⟨hK, by simp only [QA, Nat.reduceEqDiff, g1], by simp only [QA, Nat.reduceEqDiff, g2], v, by simp only [QA, Nat.reduceEqDiff, g3], hG⟩
    · exact ⟨Keep.refl _, by simp only [QA, Nat.reduceEqDiff], by simp only [QA, Nat.reduceEqDiff], by simp only [QA, Nat.reduceEqDiff], .nils, by simp only [QA, Nat.reduceEqDiff], .nils⟩
    · simp only [QA, Nat.reduceEqDiff]
    · simp only [QA, Nat.reduceEqDiff]
    · rintro τ σ' ⟨hK, g1, g2, v, g3, hG⟩
      have ga' := hK.get_some hw2 ga2
      have gb' := hK.get_some hw2 gb
      have s1 := st_one (o := 3) ga' (by simp) hG.sp.cells hG.one
      have hne : σ1.nx ≠ σ.nx := by intro e; rw [e] at x1; omega
      have gx : (σ'.put σ.nx (.cells 40 ([.int .i64 k, .int .i64 w, .str nm, a].set 3 v) 0 0 (some 0) [])).get σ.nx = some (.cells 40 ([.int .i64 k, .int .i64 w, .str nm, a].set 3 v) 0 0 (some 0) []) := by rw [H.get_put, if_pos rfl]
      have lx := (At.var gx).ldg (n := 4) rfl
      have gy : (σ'.put σ.nx (.cells 40 ([.int .i64 k, .int .i64 w, .str nm, a].set 3 v) 0 0 (some 0) [])).get σ1.nx = some (.cells 40 [.int .i64 0, .int .i64 0, .str [], .nils] 0 0 (some 0) []) := by rw [H.get_put, if_neg hne]; exact gb'
      have s2 := var_put (n := 4) (c := [.int .i64 k, .int .i64 w, .str nm, a].set 3 v) gy rfl rfl (by have h1 := hG.one; simp only [List.set_cons_succ, List.set_cons_zero, List.all_cons, List.all_nil, h1]; rfl)
      simp only [QA, Nat.reduceAdd, Nat.reduceLeDiff, Nat.reduceEqDiff, QY, g1, g2, g3, s1, lx, s2]
      refine ⟨_, _, rfl, blk_get (by rw [H.get_put, if_pos rfl]), rfl, ?_, ?_⟩
      · have hK' := ((hKa.trans hKb).trans hK)
        exact (hK'.put (Nat.le_refl _) (by have := hKb.1; have := hK.1; omega) _).put (Nat.le_of_lt x1) (by rw [nx_put]; have := hK.1; omega) _
      · have u : Up (fun z => σ2.nx.toNat ≤ z) σ' ((σ'.put σ.nx (.cells 40 ([.int .i64 k, .int .i64 w, .str nm, a].set 3 v) 0 0 (some 0) [])).put σ1.nx (.cells 40 ([.int .i64 k, .int .i64 w, .str nm, a].set 3 v) 0 0 (some 0) [])) :=
          (Up.put _ (by omega) _).trans (Up.put _ (by omega) _)
        have := SortIs.of k w nm ((hG.sp.up u).low (Q' := fun z => σ.nx.toNat ≤ z) fun z hz => by have := hKb.1; omega)
        exact this
end Go.Proofs.YtfgghbikbaopjaaGreatDoorEng

namespace Go.Proofs.YtfgghbikbaopjaaGreatDoorEng
open Go
set_option maxRecDepth 100000
set_option linter.unusedSimpArgs false

/-- slices.Clone -/
def cloneF (ty n eb : Nat) : CFun := ⟨8, [(.t p2)], (.seq (.reg [(oP p2 (.mv (.k .nils)))]) (.seq (.seq (.reg [(oP p3 (.mv t0)), (oP p4 (.bin .eql (.sc .slice) t3 (.k .nils)))]) (.cond t4 (.seq (.reg [(oP p2 (.mv (.k .nils)))]) .ret) .skip)) (.seq (.reg [(oA p5 (.bslice ty 0 [] [])), (oP p6 (.mv t0)), (oH p7 (.app ty n eb t5 t6)), (oP p2 (.mv t7))]) .ret)))⟩
theorem clone_call {α : Type} {f ty n eb lf m : Nat} {E : EK α n} {σ : H} {Q : Nat → Prop} {a : V} {L : List α} (hi : T1.intr f = none) (hc : T1.code f = some (cloneF ty n eb)) (_hw : WfH σ) (h : SP E ty true σ Q a L) (hn : 0 < n) (hb : L.length * eb ≤ mostBytes) (hb2 : L.length ≤ mostBytes) :
    ∃ a' σ', call T1 lf (m + 1) f [a] σ = .ret a' σ' ∧ Keep σ σ' ∧ GL E ty σ' (fun z => Q z ∨ σ.nx.toNat ≤ z) a' L ∧ ∀ (x : Pos) ver o l c k, a' = .sl x ver o l c k → σ.nx.toNat ≤ x.toNat := by
  refine call_rt1 (p := pk 2) hi hc (by simp [cloneF]) rfl fun cf hcf => ?_
  clear hcf
  generalize hτ : bindArgs [a] .h .lf = τ0
  have h0 : τ0.get (pk 0) = some a := by rw [← hτ]; rfl
  clear hτ
  obtain ⟨C, hK, hl, he⟩ := h
  cases hK with
  | nils =>
    have hL : L = [] := List.eq_nil_of_length_eq_zero hl.symm
    subst hL
    have e1 : kBin .eql (.sc .slice) (some .nils) (some .nils) = some (.bool true) := rfl
    simp only [cloneF, QA, reduceCtorEq, Nat.reduceAdd, Nat.reduceLeDiff, Nat.reduceEqDiff, h0, e1]
    exact ⟨Keep.refl _, .nils, fun _ _ _ _ _ _ h => by cases h⟩
  | own x ver minv ex C hne hC h1 hg hb' hx =>
    have e1 : kBin .eql (.sc .slice) (some (.sl x ver 0 C.length none n)) (some .nils) = some (.bool false) := rfl
    have hk := Keep.new σ (.cells ty [] 0 0 (some 0) [])
    have hg1 : (σ.new (.cells ty [] 0 0 (some 0) [])).get x = some (.cells ty C.flatten ver minv (some 0) ex) := by rw [hk.get hx]; exact hg
    have hgn : (σ.new (.cells ty [] 0 0 (some 0) [])).get σ.nx = some (.cells ty [] 0 0 (some 0) []) := (Keep.refl _).at
    have hfl := flat_len hC
    have hz : C.length ≠ 0 := fun e => hne (List.eq_nil_of_length_eq_zero e)
    have ap : appV (σ.new (.cells ty [] 0 0 (some 0) [])) ty n eb (.sl σ.nx 0 0 0 (some 0) 0) (.sl x ver 0 C.length none n) = .ok (.sl (σ.new (.cells ty [] 0 0 (some 0) [])).nx 0 0 C.length none n) ((σ.new (.cells ty [] 0 0 (some 0) [])).new (.cells ty C.flatten 0 0 (some 0) [])) := by
      unfold appV
      rw [if_pos (show strOne n (V.sl x ver 0 C.length none n) = true from rfl)]
      have hcut : cut C.flatten 0 (C.length * n) = some C.flatten := by
        unfold cut; rw [if_pos (by omega), List.drop_zero, List.take_of_length_le (by omega)]
      simp only [slLen, slCells, blkCells, hg1, hgn, visib, if_true, hcut, vapp, if_neg hz]
      rw [if_neg (by omega)]
      simp only [cut, Nat.zero_mul, Nat.add_zero, Nat.zero_le, if_true, List.take_zero, List.nil_append, Nat.zero_add, vgrow, List.drop_zero, List.length_nil]
      rw [if_pos ⟨hl ▸ hb, hl ▸ hb2, hn⟩]
      rfl
    simp only [cloneF, QA, reduceCtorEq, Nat.reduceAdd, Nat.reduceLeDiff, Nat.reduceEqDiff, h0, e1, ap]
    have kk := hk.trans (Keep.new _ (.cells ty C.flatten 0 0 (some 0) []))
    refine ⟨kk, ?_, fun x' ver' o' l' c' k' h => by cases h; rw [nx_new]; omega⟩
    rw [hl]
    refine .own _ 0 0 [] C L (by rw [H.get_new, if_pos rfl]) (.inr (by rw [nx_new]; omega)) (by simp only [nx_new]; omega) (fun e => hne (List.eq_nil_of_length_eq_zero (by rw [hl, e]; rfl))) hl fun i c y e1 e2 => ?_
    have := E.low (E.bd (he i c y e1 e2)) (Q' := fun z => (Q z ∨ σ.nx.toNat ≤ z) ∧ z ≠ (σ.new (.cells ty [] 0 0 (some 0) [])).nx.toNat) fun z hz => ⟨.inl hz.1, by have := hz.2; rw [nx_new]; omega⟩
    exact E.up this (kk.up _)
  | ros c off cap C ho => cases ho
  | box x c ho => cases ho

/-- slices.Index of plain things -/
def indexF (q : EqT) : CFun := ⟨19, [(.t p4)], (.seq (.reg [(oP p4 (.mv (ki 0)))]) (.seq (.seq (.reg [(oP p6 (.mv t0)), (oP p7 (.lens t6)), (oP p8 (.mv (ki 0)))]) (.blk 0 (.loop (rngB 9 8 7 18 0 1 (.seq (.reg [(oP p10 (.mv t8)), (oP p5 (.mv t10))]) (.seq (.reg [(oP p11 (.mv t1)), (oP p12 (.mv t0)), (oP p13 (.mv t5)), (oP p14 (.iaddr 1 t12 t13)), (oR p15 (ld t14)), (oP p16 (.bin .eql q t11 t15))]) (.cond t16 (.seq (.reg [(oP p17 (.mv t5)), (oP p4 (.mv t17))]) .ret) .skip))))))) (.seq (.reg [(oP p4 (.mv (ki (-1))))]) .ret)))⟩
theorem index_call {f lf m N : Nat} {q : EqT} {σ : H} {a v : V} (hi : T1.intr f = none) (hc : T1.code f = some (indexF q)) (hlen : lenV a = some (.int .i64 N))
    (he : ∀ i : Nat, i < N → ∃ p u b, elemAt 1 a i = some p ∧ ldv σ p = some u ∧ kBin .eql q (some v) (some u) = some (.bool b)) (hlf : N < lf) (hN : N < 4611686018427387904) :
    ∃ r σ', call T1 lf (m + 1) f [a, v] σ = .ret r σ' ∧ σ' = σ ∧ ∃ i : Int, r = .int .i64 i := by
  refine call_rt1 (p := pk 4) hi hc (by simp [indexF]) rfl fun cf hcf => ?_
  clear hcf
  generalize hτ : bindArgs [a, v] .h .lf = τ0
  have h0 : τ0.get (pk 0) = some a := by rw [← hτ]; rfl
  have h1 : τ0.get (pk 1) = some v := by rw [← hτ]; rfl
  clear hτ
  simp only [indexF, QA, reduceCtorEq, Nat.reduceAdd, Nat.reduceLeDiff, Nat.reduceEqDiff, Int.reduceNeg, h0, hlen]
  refine Rt_seqNR (range_rule (l := 9) (i := 8) (nn := 7) (k := 18) (id := 0) (id' := 1) (N := N)
    (fun j τ σ' => σ' = σ ∧ τ.get (pk 0) = some a ∧ τ.get (pk 1) = some v) (fun τ σ' => σ' = σ) (fun τ σ' => ∃ r, τ.get (pk 4) = some r ∧ σ' = σ ∧ ∃ i : Int, r = .int .i64 i)
    (by decide) (by decide) (by decide) (by decide) (by decide) (by decide) (by decide) hlf hN ?_ ?_ ?_ ?_ ?_) ?_
  · rintro j τ σ' hj ⟨rfl, g0, g1⟩ g8 g7
    obtain ⟨p, u, b, k1, k2, k3⟩ := he j hj
    cases b with
    | true =>
      simp only [QA, reduceCtorEq, Nat.reduceAdd, Nat.reduceLeDiff, Nat.reduceEqDiff, g0, g1, g8, k1, k2, k3]
      exact ⟨_, rfl⟩
    | false =>
      simp only [QA, reduceCtorEq, Nat.reduceAdd, Nat.reduceLeDiff, Nat.reduceEqDiff, g0, g1, g8, g7, k1, k2, k3]
  · rintro τ σ' ⟨rfl, g0, g1⟩
    rfl
  · exact ⟨rfl, by simp only [QA, reduceCtorEq, h0], by simp only [QA, Nat.reduceEqDiff, h1]⟩
  · simp only [QA, Nat.reduceEqDiff]
  · simp only [QA, Nat.reduceEqDiff]
  · rintro τ σ' rfl
    simp only [QA, Nat.reduceAdd, Nat.reduceLeDiff, Int.reduceNeg]
    exact ⟨_, rfl⟩

/-- slices.Contains -/
def containsF (g : Nat) : CFun := ⟨9, [(.t p4)], (.seq (.reg [(oP p4 (.mv kf))]) (.seq (.reg [(oP p5 (.mv t0)), (oP p6 (.mv t1)), (oH p7 (.call g [t5, t6])), (oP p8 (bi .geq t7 (ki 0))), (oP p4 (.mv t8))]) .ret))⟩
theorem contains_call {f g lf m : Nat} {σ : H} {a v : V} {Post : H → Prop} (hi : T1.intr f = none) (hc : T1.code f = some (containsF g)) (h : ∃ r σ', call T1 lf m g [a, v] σ = .ret r σ' ∧ Post σ' ∧ ∃ i : Int, r = .int .i64 i) :
    ∃ r σ', call T1 lf (m + 1) f [a, v] σ = .ret r σ' ∧ Post σ' ∧ ∃ b, r = .bool b := by
  refine call_rt1 (p := pk 4) hi hc (by simp [containsF]) rfl fun cf hcf => ?_
  generalize hτ : bindArgs [a, v] .h .lf = τ0
  have h0 : τ0.get (pk 0) = some a := by rw [← hτ]; rfl
  have h1 : τ0.get (pk 1) = some v := by rw [← hτ]; rfl
  clear hτ
  obtain ⟨r, σ', k1, k2, i, rfl⟩ := h
  rw [← hcf] at k1
  simp only [containsF, QA, reduceCtorEq, Nat.reduceAdd, Nat.reduceLeDiff, Nat.reduceEqDiff, h0, h1, k1]
  exact ⟨k2, _, rfl⟩

/-- slices.IndexFunc -/
def indexFF (ld' : Nat → ROp) (n : Nat) : CFun := ⟨19, [(.t p4)], (.seq (.reg [(oP p4 (.mv (ki 0)))]) (.seq (.seq (.reg [(oP p6 (.mv t0)), (oP p7 (.lens t6)), (oP p8 (.mv (ki 0)))]) (.blk 0 (.loop (rngB 9 8 7 18 0 1 (.seq (.reg [(oP p10 (.mv t8)), (oP p5 (.mv t10))]) (.seq (.reg [(oP p11 (.mv t1)), (oP p12 (.mv t0)), (oP p13 (.mv t5)), (oP p14 (.iaddr n t12 t13)), (oR p15 (ld' n)), (oH p16 (.calld t11 [t15]))]) (.cond t16 (.seq (.reg [(oP p17 (.mv t5)), (oP p4 (.mv t17))]) .ret) .skip))))))) (.seq (.reg [(oP p4 (.mv (ki (-1))))]) .ret)))⟩
def kCd : Option V → Option (List V) → HR
  | some (.fn g a b), some l => .call g (a ++ l ++ b)
  | _, _ => .bad
theorem e_calld (τ : Tr V) (σ : H) (f : Arg) (l : List Arg) : HOp.ev τ σ (.calld f l) = kCd (f.ev τ) (evL τ l) := by
  simp only [HOp.ev]
  cases f.ev τ with
  | none => rfl
  | some v => cases v <;> first | rfl | (cases evL τ l <;> rfl)
theorem e_cdk (g : Nat) (a b l : List V) : kCd (some (.fn g a b)) (some l) = .call g (a ++ l ++ b) := rfl
/-- .. where what is asked of each element leaves the old memory as it was -/
theorem indexf_call {f lf m N n g : Nat} {ld' : Nat → ROp} {σ : H} {a : V} {A B : List V} (hi : T1.intr f = none) (hc : T1.code f = some (indexFF ld' n)) (hlen : lenV a = some (.int .i64 N))
    (he : ∀ (σ' : H) (i : Nat), Keep σ σ' → i < N → ∃ p u b σ'', elemAt n a i = some p ∧ (∀ τ : Tr V, τ.get (pk 14) = some p → ROp.ev τ σ' (ld' n) = some u) ∧ call T1 lf m g (A ++ [u] ++ B) σ' = .ret (.bool b) σ'' ∧ Keep σ σ'') (hlf : N < lf) (hN : N < 4611686018427387904) :
    ∃ r σ', call T1 lf (m + 1) f [a, .fn g A B] σ = .ret r σ' ∧ Keep σ σ' ∧ ∃ i : Int, r = .int .i64 i := by
  refine call_rt1 (p := pk 4) hi hc (by simp [indexFF]) rfl fun cf hcf => ?_
  generalize hτ : bindArgs [a, .fn g A B] .h .lf = τ0
  have h0 : τ0.get (pk 0) = some a := by rw [← hτ]; rfl
  have h1 : τ0.get (pk 1) = some (.fn g A B) := by rw [← hτ]; rfl
  clear hτ
  simp only [indexFF, QA, reduceCtorEq, Nat.reduceAdd, Nat.reduceLeDiff, Nat.reduceEqDiff, Int.reduceNeg, h0, hlen]
  refine Rt_seqNR (range_rule (l := 9) (i := 8) (nn := 7) (k := 18) (id := 0) (id' := 1) (N := N)
    (fun j τ σ' => Keep σ σ' ∧ τ.get (pk 0) = some a ∧ τ.get (pk 1) = some (.fn g A B)) (fun τ σ' => Keep σ σ') (fun τ σ' => ∃ r, τ.get (pk 4) = some r ∧ Keep σ σ' ∧ ∃ i : Int, r = .int .i64 i)
    (by decide) (by decide) (by decide) (by decide) (by decide) (by decide) (by decide) hlf hN ?_ ?_ ?_ ?_ ?_) ?_
  · rintro j τ σ' hj ⟨hK, g0, g1⟩ g8 g7
    obtain ⟨p, u, b, σ'', k1, k2, k3, k4⟩ := he σ' j hK hj
    rw [← hcf] at k3
    have k2' := fun τ h => k2 τ h
    cases b with
    | true =>
      simp only [QA, reduceCtorEq, Nat.reduceAdd, Nat.reduceLeDiff, Nat.reduceEqDiff, g0, g1, g8, k1, k2', e_calld, e_cdk, k3]
      exact ⟨k4, _, rfl⟩
    | false =>
      simp only [QA, reduceCtorEq, Nat.reduceAdd, Nat.reduceLeDiff, Nat.reduceEqDiff, g0, g1, g8, g7, k1, k2', e_calld, e_cdk, k3]
      exact k4
  · rintro τ σ' ⟨hK, g0, g1⟩
    exact hK
  · exact ⟨Keep.refl _, by simp only [QA, reduceCtorEq, h0], by simp only [QA, Nat.reduceEqDiff, h1]⟩
  · simp only [QA, Nat.reduceEqDiff]
  · simp only [QA, Nat.reduceEqDiff]
  · rintro τ σ' hK
    simp only [QA, Nat.reduceAdd, Nat.reduceLeDiff, Int.reduceNeg]
    exact ⟨hK, _, rfl⟩
end Go.Proofs.YtfgghbikbaopjaaGreatDoorEng

namespace Go.Proofs.YtfgghbikbaopjaaGreatDoorEng
open Go
set_option maxRecDepth 100000
set_option linter.unusedSimpArgs false

/-- what was read where nothing that was there turned -/
theorem owe_at {σ : H} {lo hi : Nat} {os : List Owe} {q : V} {c : List V} {es : List H} (hq : At σ q c) (hw : WfH σ) (he : ∀ σ' ∈ (es.drop lo).take (hi + 1 - lo), Keep σ σ') : (owe1 σ lo hi os q).all (oweOk es) = os.all (oweOk es) := by
  cases hq with
  | rop => rfl
  | ptr x v off c C0 h hc =>
    simp only [blkCells] at h
    cases hg : σ.get x with
    | none => rw [hg] at h; simp at h
    | some b => exact owe_keepR hg hw he

/-- sizes -/
def seSz (x : Se) : Nat := x.2.sz + x.1.length + 1
def sum {α : Type} (f : α → Nat) : List α → Nat
  | [] => 0
  | x :: r => f x + sum f r + 1
theorem sum_len {α : Type} (f : α → Nat) : ∀ l : List α, l.length ≤ sum f l
  | [] => Nat.le_refl _
  | x :: r => by have := sum_len f r; simp only [List.length_cons, sum]; omega
theorem sum_mem {α : Type} {f : α → Nat} : ∀ {l : List α} {i : Nat} {s : α}, l[i]? = some s → f s < sum f l
  | [], i, s, h => by simp at h
  | t :: r, 0, s, h => by simp at h; subst h; simp only [sum]; omega
  | t :: r, i + 1, s, h => by have := sum_mem (f := f) (l := r) (i := i) (by simpa using h); simp only [sum]; omega
def coSz (x : Co) : Nat := sum seSz x.2 + x.1.length + 1
def daSz (x : Da) : Nat := sum coSz x.2 + x.1.length + 1
def fuSz (x : Fu) : Nat := S.szL x.2.1 + x.2.2.sz + x.1.length + 1

theorem c31_at : T1.code 31 = some c31 := by kernel_rfl
theorem take_snoc {α : Type} {l : List α} {j : Nat} {x : α} (h : l[j]? = some x) : l.take (j + 1) = l.take j ++ [x] := by
  rw [List.take_add_one, h]; rfl
/-- copyFun -/
theorem copyFun_call {x : Fu} {lf m : Nat} {σ : H} {o : Bool} {Q : Nat → Prop} {c : List V} (hw : WfH σ) (hS : Efu.P o σ Q c x) (hlf : fuSz x < lf) (hBB : fuSz x < BB) (hm : fuSz x ≤ m) :
    ∃ c' σ', call T1 lf (m + 2) 31 [.agg c] σ = .ret (.agg c') σ' ∧ Keep σ σ' ∧ Efu.P true σ' (fun z => σ.nx.toNat ≤ z) c' x := by
  obtain ⟨nm, args, rt⟩ := x
  obtain ⟨a, d, rfl, hA, hR⟩ := hS
  simp only at hA hR
  have hdl := hR.len
  obtain ⟨d0, d1, d2, d3, rfl⟩ : ∃ d0 d1 d2 d3, d = [d0, d1, d2, d3] := by
    match d, hdl with
    | [d0, d1, d2, d3], _ => exact ⟨_, _, _, _, rfl⟩
  simp only [fuSz] at hlf hBB hm
  have hlen := S.szL_len args
  refine call_rcn (p := pk 2) (n := 6) rfl c31_at (by simp [c31]) rfl fun cf hcf => ?_
  generalize hτ : bindArgs [.agg [.str nm, a, d0, d1, d2, d3]] .h .lf = τ0
  have h0 : τ0.get (pk 0) = some (.agg [.str nm, a, d0, d1, d2, d3]) := by rw [← hτ]; rfl
  clear hτ
  have hKa := Keep.new σ (.cells 44 [.str nm, a, d0, d1, d2, d3] 0 0 (some 0) [])
  have ga := (Keep.refl (σ.new (.cells 44 [.str nm, a, d0, d1, d2, d3] 0 0 (some 0) []))).at
  have x1 : σ.nx.toNat < (σ.new (.cells 44 [.str nm, a, d0, d1, d2, d3] 0 0 (some 0) [])).nx.toNat := by rw [nx_new]; omega
  have hw1 := hKa.2.2 hw
  generalize hσ1 : σ.new (.cells 44 [.str nm, a, d0, d1, d2, d3] 0 0 (some 0) []) = σ1 at *
  have hKb := Keep.new σ1 (.cells 44 [.str [], .nils, .int .i64 0, .int .i64 0, .str [], .nils] 0 0 (some 0) [])
  have gb := (Keep.refl (σ1.new (.cells 44 [.str [], .nils, .int .i64 0, .int .i64 0, .str [], .nils] 0 0 (some 0) []))).at
  have x2 : σ1.nx.toNat < (σ1.new (.cells 44 [.str [], .nils, .int .i64 0, .int .i64 0, .str [], .nils] 0 0 (some 0) [])).nx.toNat := by rw [nx_new]; omega
  have hw2 := hKb.2.2 hw1
  generalize hσ2 : σ1.new (.cells 44 [.str [], .nils, .int .i64 0, .int .i64 0, .str [], .nils] 0 0 (some 0) []) = σ2 at *
  have ga2 := hKb.get_some hw1 ga
  have hK02 := hKa.trans hKb
  have hA2 := hA.keep hK02
  have l1 : ldv σ2 (.ptr σ.nx 0 1) = some a := ldk ga2 rfl
  have hal := hA2.len
  simp only [c31, QA, Nat.reduceAdd, Nat.reduceLeDiff, Nat.reduceEqDiff, QY, e_box, h0, hσ1, hσ2, l1, hal]
  refine Rt_seqNR (range_rule (l := 10) (i := 9) (nn := 8) (k := 18) (id := 0) (id' := 1) (B := y31_1) (N := args.length)
    (fun j τ σ' => Keep σ2 σ' ∧ τ.get (pk 1) = some (.ptr σ.nx 0 0) ∧ τ.get (pk 2) = some (.ptr σ1.nx 0 0) ∧ τ.get (pk 7) = some a ∧ ∃ v, τ.get (pk 3) = some v ∧ GL Eso 40 σ' (fun z => σ2.nx.toNat ≤ z) v (args.take j))
    (fun τ σ' => Keep σ2 σ' ∧ τ.get (pk 1) = some (.ptr σ.nx 0 0) ∧ τ.get (pk 2) = some (.ptr σ1.nx 0 0) ∧ ∃ v, τ.get (pk 3) = some v ∧ GL Eso 40 σ' (fun z => σ2.nx.toNat ≤ z) v args)
    _ (by decide) (by decide) (by decide) (by decide) (by decide) (by decide) (by decide) (by omega) (by unfold BB at hBB; omega) ?_ ?_ ?_ ?_ ?_) ?_
  · rintro j τ σ' hj ⟨hK, g1, g2, g7, v, g3, hG⟩ g9 g8
    obtain ⟨s', hs'⟩ : ∃ s', args[j]? = some s' := ⟨_, List.getElem?_eq_getElem hj⟩
    have hsz := S.szL_mem hs'
    obtain ⟨q, ce, q1, q2, q3⟩ := (hA2.keep hK).elem hs'
    have q3 : SortIs σ' o Q ce s' := q3
    have lq := q2.ldg q3.len
    have hw' := hK.2.2 hw2
    obtain ⟨σ3, k1, k2, k3⟩ := var_new σ' 40 4 (zs := [.int .i64 0, .int .i64 0, .str [], .nils]) rfl q3.len q3.one
    have l5 := (At.var k3).ldg q3.len
    have hw3 := k2.2.2 hw'
    obtain ⟨c', σ4, k4, k5, k6⟩ := copySort_call s'.sz s' (Nat.le_refl _) (lf := lf) (m := m) hw3 (q3.up (k2.up _)) (by omega) (by omega) (by omega)
    have bs := kBsn_agg (ty := 40) k6.len
    obtain ⟨v', σ5, k7, k8, k9⟩ := GL.app' (E := Eso) (σ := σ4) (y := s') (eb := 56) hw2 (by decide) hG hK (k2.trans k5) (k6.low fun z hz => Nat.le_trans k2.1 hz) (by simp [mostBytes]; unfold BB at hBB; omega) (by simp [mostBytes]; unfold BB at hBB; omega)
    rw [← hcf] at k4
    simp only [y31_1, QA, Nat.reduceAdd, Nat.reduceLeDiff, Nat.reduceEqDiff, QY, g3, g7, g8, g9, q1, lq, k1, l5, k4, bs, k7, List.length_cons, List.length_nil]
    exact ⟨k9, g1, g2, take_snoc hs' ▸ k8⟩
  · rintro τ σ' ⟨hK, g1, g2, g7, v, g3, hG⟩
    rw [List.take_of_length_le (Nat.le_refl _)] at hG
    exact ⟨hK, by simp only [QA, Nat.reduceEqDiff, g1], by simp only [QA, Nat.reduceEqDiff, g2], v, by simp only [QA, Nat.reduceEqDiff, g3], hG⟩
  · exact ⟨Keep.refl _, by simp only [QA, Nat.reduceEqDiff], by simp only [QA, Nat.reduceEqDiff], by simp only [QA, Nat.reduceEqDiff], .nils, by simp only [QA, Nat.reduceEqDiff], .nils⟩
  · simp only [QA, Nat.reduceEqDiff]
  · simp only [QA, Nat.reduceEqDiff]
  · rintro τ σ' ⟨hK, g1, g2, v, g3, hG⟩
    have hw' := hK.2.2 hw2
    have ga' := hK.get_some hw2 ga2
    have gb' := hK.get_some hw2 gb
    have t0 : ldv σ' (.ptr σ.nx 0 0) = some (.str nm) := ldk ga' rfl
    obtain ⟨q', e2, hq'⟩ := (At.var ga').fad (c := [.str nm, a]) (d := [d0, d1, d2, d3]) (j := 2) rfl
    have e2' : q' = .ptr σ.nx 0 2 := by simpa [fadV] using e2.symm
    subst e2'
    have t2 := hq'.ldg (n := 4) rfl
    obtain ⟨c', σ4, k4, k5, k6⟩ := copySort_call rt.sz rt (Nat.le_refl _) (lf := lf) (m := m) hw' ((hR.up (hK02.up _)).up (hK.up _)) (by omega) (by omega) (by omega)
    have hc4 := k6.len
    obtain ⟨z0, z1, z2, z3, rfl⟩ : ∃ d0 d1 d2 d3, c' = [d0, d1, d2, d3] := by
      match c', hc4 with
      | [d0, d1, d2, d3], _ => exact ⟨_, _, _, _, rfl⟩
    have hvo := hG.one
    have hvc := hG.sp.cells
    have hzo := k6.one
    have bd : kBuild [.str [], .nils, .int .i64 0, .int .i64 0, .str [], .nils] (some [(0, 1, .str nm), (1, 1, v), (2, 4, .agg [z0, z1, z2, z3])]) = some (.agg [.str nm, v, z0, z1, z2, z3]) := by
      simp [kBuild, fillL, cells_agg, cells_str, hvc]
    have gb4 := k5.get_some hw' gb'
    have s2 := var_put (n := 6) (c := [.str nm, v, z0, z1, z2, z3]) gb4 rfl rfl (by rw [List.all_cons, List.all_cons, hvo, hzo]; rfl)
    rw [← hcf] at k4
    simp only [QA, Nat.reduceAdd, Nat.reduceLeDiff, Nat.reduceEqDiff, QD, QY, w_1l, g1, g2, g3, t0, t2, k4, bd, s2, ne_eq, not_false_eq_true, Nat.zero_ne_one]
    rw [if_pos]
    · simp only [QA, Nat.reduceEqDiff, g2]
      refine ⟨_, _, rfl, blk_get (by rw [H.get_put, if_pos rfl]), rfl, ?_, ?_⟩
      · exact (((hK02.trans hK).trans k5).put (Nat.le_of_lt x1) (by have := hK.1; have := k5.1; omega) _)
      · have u : Up (fun z => σ2.nx.toNat ≤ z) σ4 (σ4.put σ1.nx (.cells 44 [.str nm, v, z0, z1, z2, z3] 0 0 (some 0) [])) := Up.put _ (by omega) _
        exact ⟨_, _, rfl, ((hG.sp.keep k5).up u).low fun z hz => by have := hK02.1; omega,
          (k6.up (u.low fun z hz => Nat.le_trans hK.1 hz)).low fun z hz => by have := hK02.1; have := hK.1; omega⟩
    · rw [owe_at (At.var ga') hw']
      · rfl
      · intro s h
        simp only [List.reverse_cons, List.reverse_nil, List.nil_append, List.cons_append, List.drop_zero, List.take_succ_cons, List.take_zero, List.mem_cons, List.not_mem_nil, or_false] at h
        rcases h with rfl | rfl
        · exact Keep.refl _
        · exact k5
end Go.Proofs.YtfgghbikbaopjaaGreatDoorEng

namespace Go.Proofs.YtfgghbikbaopjaaGreatDoorEng
open Go
set_option maxRecDepth 100000
set_option linter.unusedSimpArgs false

theorem c30_at : T1.code 30 = some c30 := by kernel_rfl
/-- the loop over a constructor's selectors -/
theorem copySels_loop {lf m : Nat} {cf : CallF} (hcf : cf = call T1 lf (m + 1)) {σ : H} {o : Bool} {Q : Nat → Prop} {a : V} {L : List Se} (hw : WfH σ) (hA : SP Ese 42 o σ Q a L) (hlf : sum seSz L < lf) (hBB : sum seSz L < BB) (hm : sum seSz L ≤ m)
    {T : Tr V → H → Prop} {τ : Tr V} {v1 v2 v3 v5 v10 v11 v12 : V} (f1 : τ.get (pk 1) = some v1) (f2 : τ.get (pk 2) = some v2) (f3 : τ.get (pk 3) = some v3) (f5 : τ.get (pk 5) = some v5) (f10 : τ.get (pk 10) = some v10) (f11 : τ.get (pk 11) = some v11) (f12 : τ.get (pk 12) = some v12)
    (f17 : τ.get (pk 17) = some a) (f18 : τ.get (pk 18) = some (.int .i64 L.length)) (f19 : τ.get (pk 19) = some (.int .i64 0)) (f6 : τ.get (pk 6) = some .nils) :
    NR (kBlk 2 (exec cf lf 45 (.loop b30_1) τ σ [])) (fun τ' σ' => Keep σ σ' ∧ τ'.get (pk 1) = some v1 ∧ τ'.get (pk 2) = some v2 ∧ τ'.get (pk 3) = some v3 ∧ τ'.get (pk 5) = some v5 ∧ τ'.get (pk 10) = some v10 ∧ τ'.get (pk 11) = some v11 ∧ τ'.get (pk 12) = some v12 ∧
      ∃ v, τ'.get (pk 6) = some v ∧ GL Ese 42 σ' (fun z => σ.nx.toNat ≤ z) v L) T := by
  have hlen := sum_len seSz L
  refine range_rule (l := 20) (i := 19) (nn := 18) (k := 32) (id := 2) (id' := 3) (B := y30_1) (N := L.length)
    (fun j τ' σ' => Keep σ σ' ∧ τ'.get (pk 1) = some v1 ∧ τ'.get (pk 2) = some v2 ∧ τ'.get (pk 3) = some v3 ∧ τ'.get (pk 5) = some v5 ∧ τ'.get (pk 10) = some v10 ∧ τ'.get (pk 11) = some v11 ∧ τ'.get (pk 12) = some v12 ∧ τ'.get (pk 17) = some a ∧
      ∃ v, τ'.get (pk 6) = some v ∧ GL Ese 42 σ' (fun z => σ.nx.toNat ≤ z) v (L.take j)) _ _
    (by decide) (by decide) (by decide) (by decide) (by decide) (by decide) (by decide) (by omega) (by unfold BB at hBB; omega) ?_ ?_ ?_ f19 f18
  · rintro j τ σ' hj ⟨hK, g1, g2, g3, g5, g10, g11, g12, g17, v, g6, hG⟩ g19 g18
    obtain ⟨⟨nm, s'⟩, hs'⟩ : ∃ s', L[j]? = some s' := ⟨_, List.getElem?_eq_getElem hj⟩
    have hsz := sum_mem (f := seSz) hs'
    simp only [seSz] at hsz
    obtain ⟨q, ce, q1, q2, q3⟩ := (hA.keep hK).elem hs'
    have ql := Ese.len q3
    have qo := Ese.one q3
    have lq := q2.ldg ql
    have hw' := hK.2.2 hw
    obtain ⟨σ3, k1, k2, k3⟩ := var_new σ' 42 5 (zs := [.str [], .int .i64 0, .int .i64 0, .str [], .nils]) rfl ql qo
    obtain ⟨d, rfl, q4⟩ := q3
    have hd4 := q4.len
    have l0 := (At.var k3).ldv
    obtain ⟨q', e1, hq'⟩ := (At.var k3).fad (c := [.str nm]) (d := d) (j := 1) rfl
    have e1' : q' = .ptr σ'.nx 0 1 := by simpa [fadV] using e1.symm
    subst e1'
    have l1 := hq'.ldg hd4
    have hw3 := k2.2.2 hw'
    obtain ⟨c', σ4, k4, k5, k6⟩ := copySort_call s'.sz s' (Nat.le_refl _) (lf := lf) (m := m) hw3 (q4.up (k2.up _)) (by omega) (by omega) (by omega)
    have bd : kBuild [.str [], .int .i64 0, .int .i64 0, .str [], .nils] (some [(0, 1, .str nm), (1, 4, .agg c')]) = some (.agg (.str nm :: c')) := by
      have := k6.len
      simp [kBuild, fillL, cells_agg, cells_str, this]
    have bs := kBsn_agg (ty := 42) (n := 5) (c := .str nm :: c') (by simp [k6.len])
    have hP : Ese.P true σ4 (fun z => σ'.nx.toNat ≤ z) (.str nm :: c') (nm, s') := ⟨c', rfl, k6.low fun z hz => Nat.le_trans k2.1 hz⟩
    obtain ⟨v', σ5, k7, k8, k9⟩ := GL.app' (E := Ese) (σ := σ4) (y := (nm, s')) (eb := 72) hw (by decide) hG hK (k2.trans k5) hP (by simp [mostBytes]; unfold BB at hBB; omega) (by simp [mostBytes]; unfold BB at hBB; omega)
    rw [← hcf] at k4
    simp only [y30_1, QA, Nat.reduceAdd, Nat.reduceLeDiff, Nat.reduceEqDiff, QD, QY, w_1l, g6, g17, g19, q1, lq, k1, l0, l1, k4, bd, bs, k7, List.length_cons, List.length_nil, ne_eq, not_false_eq_true, Nat.zero_ne_one]
    rw [if_pos]
    · exact ⟨rfl, by simp only [QA, Nat.reduceEqDiff, g19], by simp only [QA, Nat.reduceEqDiff, g18], k9, by simp only [QA, Nat.reduceEqDiff, g1], by simp only [QA, Nat.reduceEqDiff, g2], by simp only [QA, Nat.reduceEqDiff, g3], by simp only [QA, Nat.reduceEqDiff, g5], by simp only [QA, Nat.reduceEqDiff, g10], by simp only [QA, Nat.reduceEqDiff, g11], by simp only [QA, Nat.reduceEqDiff, g12], by simp only [QA, Nat.reduceEqDiff, g17], v', by simp only [QA, Nat.reduceEqDiff], take_snoc hs' ▸ k8⟩
    · rw [owe_at (At.var k3) hw3]
      · rfl
      · intro s h
        simp only [List.reverse_cons, List.reverse_nil, List.nil_append, List.cons_append, List.drop_zero, List.take_succ_cons, List.take_zero, List.mem_cons, List.not_mem_nil, or_false] at h
        rcases h with rfl | rfl
        · exact Keep.refl _
        · exact k5.trans (Keep.new _ _)
  · rintro τ σ' ⟨hK, g1, g2, g3, g5, g10, g11, g12, g17, v, g6, hG⟩
    rw [List.take_of_length_le (Nat.le_refl _)] at hG
    exact ⟨hK, by simp only [QA, Nat.reduceEqDiff, g1], by simp only [QA, Nat.reduceEqDiff, g2], by simp only [QA, Nat.reduceEqDiff, g3], by simp only [QA, Nat.reduceEqDiff, g5], by simp only [QA, Nat.reduceEqDiff, g10], by simp only [QA, Nat.reduceEqDiff, g11], by simp only [QA, Nat.reduceEqDiff, g12], v, by simp only [QA, Nat.reduceEqDiff, g6], hG⟩
  · exact ⟨Keep.refl _, f1, f2, f3, f5, f10, f11, f12, f17, .nils, f6, .nils⟩

/-- copyData -/
theorem copyData_call {x : Da} {lf m : Nat} {σ : H} {o : Bool} {Q : Nat → Prop} {c : List V} (hw : WfH σ) (hS : Eda.P o σ Q c x) (hlf : daSz x < lf) (hBB : daSz x < BB) (hm : daSz x ≤ m) :
    ∃ c' σ', call T1 lf (m + 2) 30 [.agg c] σ = .ret (.agg c') σ' ∧ Keep σ σ' ∧ Eda.P true σ' (fun z => σ.nx.toNat ≤ z) c' x := by
  obtain ⟨nm, cons⟩ := x
  obtain ⟨a, rfl, hA⟩ := hS
  simp only at hA
  simp only [daSz] at hlf hBB hm
  have hlen := sum_len coSz cons
  refine call_rcn (p := pk 2) (n := 2) rfl c30_at (by simp [c30]) rfl fun cf hcf => ?_
  generalize hτ : bindArgs [.agg [.str nm, a]] .h .lf = τ0
  have h0 : τ0.get (pk 0) = some (.agg [.str nm, a]) := by rw [← hτ]; rfl
  clear hτ
  have hKa := Keep.new σ (.cells 33 [.str nm, a] 0 0 (some 0) [])
  have ga := (Keep.refl (σ.new (.cells 33 [.str nm, a] 0 0 (some 0) []))).at
  have x1 : σ.nx.toNat < (σ.new (.cells 33 [.str nm, a] 0 0 (some 0) [])).nx.toNat := by rw [nx_new]; omega
  have hw1 := hKa.2.2 hw
  generalize hσ1 : σ.new (.cells 33 [.str nm, a] 0 0 (some 0) []) = σ1 at *
  have hKb := Keep.new σ1 (.cells 33 [.str [], .nils] 0 0 (some 0) [])
  have gb := (Keep.refl (σ1.new (.cells 33 [.str [], .nils] 0 0 (some 0) []))).at
  have x2 : σ1.nx.toNat < (σ1.new (.cells 33 [.str [], .nils] 0 0 (some 0) [])).nx.toNat := by rw [nx_new]; omega
  have hw2 := hKb.2.2 hw1
  generalize hσ2 : σ1.new (.cells 33 [.str [], .nils] 0 0 (some 0) []) = σ2 at *
  have ga2 := hKb.get_some hw1 ga
  have hK02 := hKa.trans hKb
  have hA2 := hA.keep hK02
  have l1 : ldv σ2 (.ptr σ.nx 0 1) = some a := ldk ga2 rfl
  have hal := hA2.len
  simp only [c30, QA, Nat.reduceAdd, Nat.reduceLeDiff, Nat.reduceEqDiff, QY, e_box, h0, hσ1, hσ2, l1, hal]
  refine Rt_seqNR (range_rule (l := 13) (i := 12) (nn := 11) (k := 40) (id := 0) (id' := 1) (B := y30_3) (N := cons.length)
    (fun j τ σ' => Keep σ2 σ' ∧ τ.get (pk 1) = some (.ptr σ.nx 0 0) ∧ τ.get (pk 2) = some (.ptr σ1.nx 0 0) ∧ τ.get (pk 10) = some a ∧ ∃ v, τ.get (pk 3) = some v ∧ GL Eco 36 σ' (fun z => σ2.nx.toNat ≤ z) v (cons.take j))
    (fun τ σ' => Keep σ2 σ' ∧ τ.get (pk 1) = some (.ptr σ.nx 0 0) ∧ τ.get (pk 2) = some (.ptr σ1.nx 0 0) ∧ ∃ v, τ.get (pk 3) = some v ∧ GL Eco 36 σ' (fun z => σ2.nx.toNat ≤ z) v cons)
    _ (by decide) (by decide) (by decide) (by decide) (by decide) (by decide) (by decide) (by omega) (by unfold BB at hBB; omega) ?_ ?_ ?_ ?_ ?_) ?_
  · rintro j τ σ' hj ⟨hK, g1, g2, g10, v, g3, hG⟩ g12 g11
    obtain ⟨⟨nm', sels⟩, hs'⟩ : ∃ s', cons[j]? = some s' := ⟨_, List.getElem?_eq_getElem hj⟩
    have hsz := sum_mem (f := coSz) hs'
    simp only [coSz] at hsz
    obtain ⟨q, ce, q1, q2, q3⟩ := (hA2.keep hK).elem hs'
    have ql := Eco.len q3
    have qo := Eco.one q3
    have lq := q2.ldg ql
    have hw' := hK.2.2 hw2
    obtain ⟨σ3, k1, k2, k3⟩ := var_new σ' 36 2 (zs := [.str [], .nils]) rfl ql qo
    obtain ⟨a', rfl, q4⟩ := q3
    simp only at q4
    have lb : ldv σ3 (.ptr σ'.nx 0 1) = some a' := ldk k3 rfl
    have hw3 := k2.2.2 hw'
    have q5 := q4.keep k2
    simp only [y30_3, QA, Nat.reduceAdd, Nat.reduceLeDiff, Nat.reduceEqDiff, QY, g10, g12, q1, lq, k1, lb, q5.len]
    refine NR_in (copySels_loop (m := m) hcf (v1 := .ptr σ.nx 0 0) (v2 := .ptr σ1.nx 0 0) (v3 := v) (v5 := .ptr σ'.nx 0 0) (v10 := a) (v11 := .int .i64 cons.length) (v12 := .int .i64 j) hw3 q5 (by omega) (by omega) (by omega)
      (by simp only [QA, Nat.reduceEqDiff, g1]) (by simp only [QA, Nat.reduceEqDiff, g2]) (by simp only [QA, Nat.reduceEqDiff, g3]) (by simp only [QA, Nat.reduceEqDiff]) (by simp only [QA, Nat.reduceEqDiff, g10]) (by simp only [QA, Nat.reduceEqDiff, g11]) (by simp only [QA, Nat.reduceEqDiff, g12]) (by simp only [QA, Nat.reduceEqDiff]) (by simp only [QA, Nat.reduceEqDiff]) (by simp only [QA, Nat.reduceEqDiff]) (by simp only [QA, Nat.reduceEqDiff])) ?_
    rintro τ' σ4 ⟨hK4, r1, r2, r3, r5, r10, r11, r12, v6, r6, hG6⟩
    have k34 := hK4.get_some hw3 k3
    have lc : ldv σ4 (.ptr σ'.nx 0 0) = some (.str nm') := ldk k34 rfl
    have vc := hG6.sp.cells
    have bd : kBuild [.str [], .nils] (some [(0, 1, .str nm'), (1, 1, v6)]) = some (.agg [.str nm', v6]) := by
      simp [kBuild, fillL, cells_str, vc]
    have bs := kBsn_agg (ty := 36) (n := 2) (c := [.str nm', v6]) rfl
    have hP : Eco.P true σ4 (fun z => σ'.nx.toNat ≤ z) [.str nm', v6] (nm', sels) := ⟨v6, rfl, hG6.sp.low fun z hz => Nat.le_trans k2.1 hz⟩
    obtain ⟨v', σ5, k7, k8, k9⟩ := GL.app' (E := Eco) (σ := σ4) (y := (nm', sels)) (eb := 40) hw2 (by decide) hG hK (k2.trans hK4) hP (by simp [mostBytes]; unfold BB at hBB; omega) (by simp [mostBytes]; unfold BB at hBB; omega)
    simp only [QA, Nat.reduceAdd, Nat.reduceLeDiff, Nat.reduceEqDiff, QY, r1, r2, r3, r5, r6, r10, r11, r12, lc, bd, bs, k7, List.length_cons, List.length_nil]
    exact ⟨k9, take_snoc hs' ▸ k8⟩
  · rintro τ σ' ⟨hK, g1, g2, g10, v, g3, hG⟩
    rw [List.take_of_length_le (Nat.le_refl _)] at hG
    exact ⟨hK, by simp only [QA, Nat.reduceEqDiff, g1], by simp only [QA, Nat.reduceEqDiff, g2], v, by simp only [QA, Nat.reduceEqDiff, g3], hG⟩
  · exact ⟨Keep.refl _, by simp only [QA, Nat.reduceEqDiff], by simp only [QA, Nat.reduceEqDiff], by simp only [QA, Nat.reduceEqDiff], .nils, by simp only [QA, Nat.reduceEqDiff], .nils⟩
  · simp only [QA, Nat.reduceEqDiff]
  · simp only [QA, Nat.reduceEqDiff]
  · rintro τ σ' ⟨hK, g1, g2, v, g3, hG⟩
    have ga' := hK.get_some hw2 ga2
    have gb' := hK.get_some hw2 gb
    have t0 : ldv σ' (.ptr σ.nx 0 0) = some (.str nm) := ldk ga' rfl
    have hvo := hG.one
    have hvc := hG.sp.cells
    have bd : kBuild [.str [], .nils] (some [(0, 1, .str nm), (1, 1, v)]) = some (.agg [.str nm, v]) := by
      simp [kBuild, fillL, cells_str, hvc]
    have s2 := var_put (n := 2) (c := [.str nm, v]) gb' rfl rfl (by simp only [List.all_cons, List.all_nil, hvo]; rfl)
    simp only [QA, Nat.reduceAdd, Nat.reduceLeDiff, Nat.reduceEqDiff, QY, g1, g2, g3, t0, bd, s2]
    refine ⟨_, _, rfl, blk_get (by rw [H.get_put, if_pos rfl]), rfl, ?_, ?_⟩
    · exact (hK02.trans hK).put (Nat.le_of_lt x1) (by have := hK.1; omega) _
    · have u : Up (fun z => σ2.nx.toNat ≤ z) σ' (σ'.put σ1.nx (.cells 33 [.str nm, v] 0 0 (some 0) [])) := Up.put _ (by omega) _
      exact ⟨_, rfl, (hG.sp.up u).low fun z hz => by have := hK02.1; omega⟩
end Go.Proofs.YtfgghbikbaopjaaGreatDoorEng

