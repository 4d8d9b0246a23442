/- Symbolic runs: regions whose order is open. -/
import Derived.Test.YtplaefbblpiehaaN10
namespace Go.Proofs.YtplaefbblpiehaaEng
open Go
set_option linter.unusedSimpArgs false

theorem w_drw (cf : CallF) (lf n : Nat) (ops : List DO) (τ : Tr V) (σ : H) (d : List Df) : exec cf lf n (.drw ops) τ σ d = runDrw cf n ops τ σ d [] [] := rfl
theorem w_nil (cf : CallF) (n : Nat) (τ : Tr V) (σ : H) (d : List Df) (es : List H) (os : List Owe) : runDrw cf n [] τ σ d es os = if os.all (oweOk (σ :: es).reverse) then .nx τ σ d else .bad := rfl
def kD0 (cf : CallF) (n : Nat) (r : List DO) (d : List Df) (es : List H) (os : List Owe) : R → R
  | .nx τ' σ' _ => runDrw cf n r τ' σ' d es os
  | _ => .bad
theorem w_0 (cf : CallF) (n : Nat) (co : CO) (k lo hi : Nat) (tl : Bool) (r : List DO) (τ : Tr V) (σ : H) (d : List Df) (es : List H) (os : List Owe) :
    runDrw cf n (⟨co, k, 0, lo, hi, tl⟩ :: r) τ σ d es os = kD0 cf n r d es os (stepOp cf n co τ σ d) := by
  simp only [runDrw]; cases stepOp cf n co τ σ d <;> rfl
theorem w_3 (cf : CallF) (n : Nat) (co : CO) (k lo hi : Nat) (tl : Bool) (r : List DO) (τ : Tr V) (σ : H) (d : List Df) (es : List H) (os : List Owe) :
    runDrw cf n (⟨co, k, 3, lo, hi, tl⟩ :: r) τ σ d es os = kD0 cf n r d es os (stepOp cf n co τ σ d) := by
  simp only [runDrw]; cases stepOp cf n co τ σ d <;> rfl
theorem w_0nx (cf : CallF) (n : Nat) (r : List DO) (d d' : List Df) (es : List H) (os : List Owe) (τ : Tr V) (σ : H) : kD0 cf n r d es os (.nx τ σ d') = runDrw cf n r τ σ d es os := rfl
def kD1 (cf : CallF) (n : Nat) (r : List DO) (σ : H) (d : List Df) (es : List H) (os : List Owe) : R → R
  | .nx τ' _ _ => runDrw cf n r τ' σ d es os
  | _ => .bad
theorem w_1s (cf : CallF) (n : Nat) (co : CO) (k lo : Nat) (tl : Bool) (r : List DO) (τ : Tr V) (σ : H) (d : List Df) (es : List H) (os : List Owe) :
    runDrw cf n (⟨co, k, 1, lo, lo, tl⟩ :: r) τ σ d es os = kD1 cf n r σ d es os (stepOp cf n co τ σ d) := by
  simp only [runDrw, if_true]; cases stepOp cf n co τ σ d <;> rfl
theorem w_1nx (cf : CallF) (n : Nat) (r : List DO) (σ σ' : H) (d d' : List Df) (es : List H) (os : List Owe) (τ : Tr V) : kD1 cf n r σ d es os (.nx τ σ' d') = runDrw cf n r τ σ d es os := rfl
def owe1 (σ : H) (lo hi : Nat) (os : List Owe) : V → List Owe
  | .ptr x _ _ => ⟨x, lo, hi, σ.stamp x⟩ :: os
  | _ => os
def kDl (cf : CallF) (n : Nat) (r : List DO) (p : Pos) (τ : Tr V) (σ : H) (d : List Df) (es : List H) (os : List Owe) (lo hi : Nat) (q : V) : Option V → R
  | some v => kD1 cf n r σ d es (owe1 σ lo hi os q) (kPut n p τ σ d (some v))
  | none => .bad
def kDL (cf : CallF) (n : Nat) (r : List DO) (p : Pos) (τ : Tr V) (σ : H) (d : List Df) (es : List H) (os : List Owe) (lo hi : Nat) : Option V → R
  | some q => kDl cf n r p τ σ d es os lo hi q (ldv σ q)
  | none => .bad
theorem w_1l (cf : CallF) (n : Nat) (p : Pos) (a : Arg) (k lo hi : Nat) (hl : lo ≠ hi) (tl : Bool) (r : List DO) (τ : Tr V) (σ : H) (d : List Df) (es : List H) (os : List Owe) :
    runDrw cf n (⟨⟨some p, .r (.load none a), none⟩, k, 1, lo, hi, tl⟩ :: r) τ σ d es os = kDL cf n r p τ σ d es os lo hi (a.ev τ) := by
  simp only [runDrw, s_R, e_ld, guardV, if_neg hl, ROp.foot]
  cases ha : a.ev τ with
  | none => rfl
  | some q =>
    simp only [k_bind, kDL, kDl]
    cases q with
    | ptr x v o =>
      cases ldv σ (.ptr x v o) with
      | none => rfl
      | some u => simp only []; cases kPut n p τ σ d (some u) <;> rfl
    | rop c o =>
      cases ldv σ (.rop c o) with
      | none => rfl
      | some u => simp only []; cases kPut n p τ σ d (some u) <;> rfl
    | _ => rfl
theorem w_1lk (cf : CallF) (n : Nat) (r : List DO) (p : Pos) (τ : Tr V) (σ : H) (d : List Df) (es : List H) (os : List Owe) (lo hi : Nat) (q : V) : kDL cf n r p τ σ d es os lo hi (some q) = kDl cf n r p τ σ d es os lo hi q (ldv σ q) := rfl
theorem w_1ls (cf : CallF) (n : Nat) (r : List DO) (p : Pos) (τ : Tr V) (σ : H) (d : List Df) (es : List H) (os : List Owe) (lo hi : Nat) (q v : V) : kDl cf n r p τ σ d es os lo hi q (some v) = kD1 cf n r σ d es (owe1 σ lo hi os q) (kPut n p τ σ d (some v)) := rfl
def kD2 (cf : CallF) (n : Nat) (r : List DO) (σ : H) (es : List H) (os : List Owe) (tl : Bool) : R → R
  | .nx τ' σ' d' => runDrw cf n r τ' σ' d' (σ :: es) os
  | .pn v _ σ' d' => if tl && os.all (oweOk (σ :: es).reverse) then .pn v .lf σ' d' else .bad
  | _ => .bad
theorem w_2 (cf : CallF) (n : Nat) (co : CO) (k lo hi : Nat) (tl : Bool) (r : List DO) (τ : Tr V) (σ : H) (d : List Df) (es : List H) (os : List Owe) :
    runDrw cf n (⟨co, k, 2, lo, hi, tl⟩ :: r) τ σ d es os = kD2 cf n r σ es os tl (stepOp cf n co τ σ d) := by
  simp only [runDrw]; cases stepOp cf n co τ σ d <;> rfl
theorem w_2nx (cf : CallF) (n : Nat) (r : List DO) (σ σ' : H) (es : List H) (os : List Owe) (tl : Bool) (τ : Tr V) (d : List Df) : kD2 cf n r σ es os tl (.nx τ σ' d) = runDrw cf n r τ σ' d (σ :: es) os := rfl
/-- what was read where nothing turned -/
theorem owe_ok {σ : H} {lo hi : Nat} {os : List Owe} {q v : V} (h : ldv σ q = some v) {es : List H} (he : ∀ σ' ∈ es, σ' = σ) : (owe1 σ lo hi os q).all (oweOk es) = os.all (oweOk es) := by
  cases q with
  | ptr x ver o =>
    simp only [owe1, List.all_cons]
    have : oweOk es ⟨x, lo, hi, σ.stamp x⟩ = true := by
      simp only [oweOk, List.all_eq_true]
      intro σ' h'
      rw [he σ' (List.mem_of_mem_drop (List.mem_of_mem_take h'))]
      have : ∃ n, σ.stamp x = some n := by
        simp only [ldv, blkCells] at h
        split at h
        · rename_i c hc
          split at hc
          · rename_i hg
            obtain ⟨n, hn⟩ := get_some_m hg
            exact ⟨n, by simp [H.stamp, hn]⟩
          · cases hc
        · cases h
      obtain ⟨n, hn⟩ := this
      simp [hn]
    rw [this, Bool.true_and]
  | _ => rfl
end Go.Proofs.YtplaefbblpiehaaEng
