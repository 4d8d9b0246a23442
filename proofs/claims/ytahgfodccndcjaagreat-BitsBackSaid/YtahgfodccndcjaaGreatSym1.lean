/- Symbolic runs: sets and gets, loops, calls, slices of words. -/
import Derived.Test.YtahgfodccndcjaaGreatEng30
namespace Go.Proofs.YtahgfodccndcjaaGreatEng
open Go

/-- A run of a loop: k falls at each round that goes on. -/
theorem loop_ind {body : Tr V → H → List Df → R} (I : Nat → Tr V → H → Prop) (Q : R → Prop)
    (step : ∀ k τ σ, I k τ σ → match body τ σ [] with
      | .nx τ' σ' d' => d' = [] ∧ ∃ k', k' < k ∧ I k' τ' σ'
      | r => Q r) : ∀ (m k : Nat) (τ : Tr V) (σ : H), k < m → I k τ σ → Q (loopN body m τ σ [])
  | 0, k, τ, σ, hk, _ => absurd hk (Nat.not_lt_zero _)
  | m + 1, k, τ, σ, hk, hI => by
    have h := step k τ σ hI
    simp only [loopN]
    cases hb : body τ σ [] with
    | nx τ' σ' d' =>
      rw [hb] at h
      obtain ⟨rfl, k', hk', hI'⟩ := h
      exact loop_ind I Q step m k' τ' σ' (by omega) hI'
    | bad => rw [hb] at h; exact h
    | ex => rw [hb] at h; exact h
    | rt => rw [hb] at h; exact h
    | pn => rw [hb] at h; exact h

theorem exec_loop (cf : CallF) (lf n : Nat) (c : CC) (τ : Tr V) (σ : H) (d : List Df) : exec cf lf n (.loop c) τ σ d = loopN (exec cf lf n c) lf τ σ d := rfl

theorem call_def {T : Tab} {f : Nat} {c : CFun} (hi : T.intr f = none) (hc : T.code f = some c) (lf m : Nat) (args : List V) (σ : H) (hl : args.length ≤ c.n) :
    call T lf (m + 1) f args σ = finish (call T lf m) lf T.code c.res (exec (call T lf m) lf c.n c.body (bindArgs args .h .lf) σ []) := by
  simp only [call, hi, hc, hl, if_true]
theorem call_intr {T : Tab} {f : Nat} {g : List V → H → CR} (hi : T.intr f = some g) (lf m : Nat) (args : List V) (σ : H) : call T lf (m + 1) f args σ = g args σ := by
  simp only [call, hi]

/- ---- words ---- -/

def okSl : V → Prop
  | .nils => True
  | .sl _ _ _ len (some c) _ => len ≤ c
  | .sl _ _ _ _ none es => es = 1
  | .ros _ _ len c => len ≤ c
  | _ => False
def wd (n : Nat) : V := .int .u64 n
/-- The slice's elements. -/
def UG (f : Nat → V) (σ : H) (a : V) (L : List Nat) : Prop := okSl a ∧ slLen a = some L.length ∧ slCells σ 1 L.length a = some (L.map f)
/-- .. words. -/
abbrev U := UG wd

def ldv (σ : H) : V → Option V
  | .ptr x v o => match blkCells σ x v with
    | some c => c[o]?
    | none => none
  | .rop c o => c[o]?
  | _ => none
theorem load_ldv (τ : Tr V) (σ : H) (a : Arg) : ROp.ev τ σ (.load none a) = (a.ev τ).bind (ldv σ) := by
  simp only [ROp.ev]
  cases a.ev τ with
  | none => rfl
  | some v => cases v <;> rfl

def lenV : V → Option V
  | .nils => some (.int .i64 0)
  | .sl _ _ _ n _ _ => some (.int .i64 n)
  | .ros _ _ n _ => some (.int .i64 n)
  | _ => none
theorem lens_lenV (τ : Tr V) (a : Arg) : POp.ev τ (.lens a) = (a.ev τ).bind lenV := by
  simp only [POp.ev]
  cases a.ev τ with
  | none => rfl
  | some v => cases v <;> rfl

theorem UG.len {f : Nat → V} {σ : H} {a : V} {L : List Nat} (h : UG f σ a L) : lenV a = some (.int .i64 L.length) := by
  obtain ⟨h1, h2, _⟩ := h
  cases a <;> simp_all [okSl, slLen, lenV] <;> omega

theorem UG.elem {f : Nat → V} {σ : H} {a : V} {L : List Nat} (h : UG f σ a L) {i : Nat} (hi : i < L.length) : ∃ q, elemAt 1 a i = some q ∧ ldv σ q = some (f (L.getD i 0)) := by
  obtain ⟨h1, h2, h3⟩ := h
  have key : ∀ {c : List V} {o : Nat}, cut c o (L.length * 1) = some (L.map f) → c[o + i]? = some (f (L.getD i 0)) := by
    intro c o hc
    obtain ⟨h4, h5⟩ := cut_some hc
    have h6 : ((c.drop o).take (L.length * 1))[i]? = (L.map f)[i]? := by rw [← h5]
    rw [List.getElem?_take, if_pos (by omega), List.getElem?_drop, List.getElem?_map, List.getElem?_eq_getElem hi] at h6
    rw [h6, List.getD, List.getElem?_eq_getElem hi]; rfl
  have hii : 0 ≤ (i : Int) := Int.natCast_nonneg i
  cases a with
  | nils => simp [slLen] at h2; omega
  | sl x v o len cap es =>
    simp [slLen] at h2
    subst h2
    simp only [slCells] at h3
    split at h3
    · rename_i c hc
      refine ⟨.ptr x v (o + i), ?_, ?_⟩
      · simp only [elemAt]; rw [if_pos ⟨hii, by omega⟩]; simp
      · simp only [ldv, hc]; exact key h3
    · cases h3
  | ros c o len cap =>
    simp [slLen] at h2
    subst h2
    simp only [slCells] at h3
    refine ⟨.rop c (o + i), ?_, ?_⟩
    · simp only [elemAt]; rw [if_pos ⟨hii, by omega⟩]; simp
    · simp only [ldv]; exact key h3
  | _ => simp [okSl] at h1

theorem vbin_int (op : BinOp) (q : EqT) (k : IntKind) (x y : Int) (h : isShift op = false) : vbin op q (.int k x) (.int k y) = ibin op k x y := by
  simp [vbin, h]

/- ---- the run, step by step ---- -/

/-- The key of slot n. -/
def pk (n : Nat) : Pos := Pos.ofNat n
theorem get_pk (τ : Tr V) (i j : Nat) (v : V) : (τ.set (pk i) v).get (pk j) = if j = i then some v else τ.get (pk j) := by
  rw [Tr.get_set]
  by_cases h : j = i
  · subst h; simp
  · rw [if_neg h, if_neg (show ¬ pk j = pk i from fun e => h (Pos.ofNat_inj e))]
theorem pk_le (i n : Nat) : ((pk i).toNat ≤ n) = (i + 1 ≤ n) := by rw [pk, Pos.toNat_ofNat]

def kOps (cf : CallF) (n : Nat) (r : List CO) : R → R
  | .nx τ σ d => runOps cf n r τ σ d
  | x => x
theorem s_ops_nil (cf : CallF) (n : Nat) (τ : Tr V) (σ : H) (d : List Df) : runOps cf n [] τ σ d = .nx τ σ d := rfl
theorem s_ops_cons (cf : CallF) (n : Nat) (o : CO) (r : List CO) (τ : Tr V) (σ : H) (d : List Df) : runOps cf n (o :: r) τ σ d = kOps cf n r (stepOp cf n o τ σ d) := by
  simp only [runOps]; cases stepOp cf n o τ σ d <;> rfl
theorem s_ops_nx (cf : CallF) (n : Nat) (r : List CO) (τ : Tr V) (σ : H) (d : List Df) : kOps cf n r (.nx τ σ d) = runOps cf n r τ σ d := rfl
theorem s_ops_pn (cf : CallF) (n : Nat) (r : List CO) (v : V) (τ : Tr V) (σ : H) (d : List Df) : kOps cf n r (.pn v τ σ d) = .pn v τ σ d := rfl

def kSeq (cf : CallF) (lf n : Nat) (b : CC) : R → R
  | .nx τ σ d => exec cf lf n b τ σ d
  | x => x
theorem s_seq (cf : CallF) (lf n : Nat) (a b : CC) (τ : Tr V) (σ : H) (d : List Df) : exec cf lf n (.seq a b) τ σ d = kSeq cf lf n b (exec cf lf n a τ σ d) := by
  simp only [exec]; cases exec cf lf n a τ σ d <;> rfl
theorem s_seq_nx (cf : CallF) (lf n : Nat) (b : CC) (τ : Tr V) (σ : H) (d : List Df) : kSeq cf lf n b (.nx τ σ d) = exec cf lf n b τ σ d := rfl
theorem s_seq_ex (cf : CallF) (lf n : Nat) (b : CC) (i : Nat) (τ : Tr V) (σ : H) (d : List Df) : kSeq cf lf n b (.ex i τ σ d) = .ex i τ σ d := rfl
theorem s_seq_rt (cf : CallF) (lf n : Nat) (b : CC) (τ : Tr V) (σ : H) (d : List Df) : kSeq cf lf n b (.rt τ σ d) = .rt τ σ d := rfl
theorem s_skip (cf : CallF) (lf n : Nat) (τ : Tr V) (σ : H) (d : List Df) : exec cf lf n .skip τ σ d = .nx τ σ d := rfl
theorem s_ret (cf : CallF) (lf n : Nat) (τ : Tr V) (σ : H) (d : List Df) : exec cf lf n .ret τ σ d = .rt τ σ d := rfl
theorem s_exit (cf : CallF) (lf n : Nat) (i : Nat) (τ : Tr V) (σ : H) (d : List Df) : exec cf lf n (.exit i) τ σ d = .ex i τ σ d := rfl
theorem s_reg (cf : CallF) (lf n : Nat) (l : List CO) (τ : Tr V) (σ : H) (d : List Df) : exec cf lf n (.reg l) τ σ d = runOps cf n l τ σ d := rfl
def kCond (cf : CallF) (lf n : Nat) (a b : CC) (τ : Tr V) (σ : H) (d : List Df) : Option V → R
  | some (.bool true) => exec cf lf n a τ σ d
  | some (.bool false) => exec cf lf n b τ σ d
  | _ => .bad
theorem s_cond (cf : CallF) (lf n : Nat) (c : Arg) (a b : CC) (τ : Tr V) (σ : H) (d : List Df) : exec cf lf n (.cond c a b) τ σ d = kCond cf lf n a b τ σ d (c.ev τ) := by
  simp only [exec]; rfl
theorem s_cond_t (cf : CallF) (lf n : Nat) (a b : CC) (τ : Tr V) (σ : H) (d : List Df) : kCond cf lf n a b τ σ d (some (.bool true)) = exec cf lf n a τ σ d := rfl
theorem s_cond_f (cf : CallF) (lf n : Nat) (a b : CC) (τ : Tr V) (σ : H) (d : List Df) : kCond cf lf n a b τ σ d (some (.bool false)) = exec cf lf n b τ σ d := rfl
def kBlk (id : Nat) : R → R
  | .ex i τ σ d => if i = id then .nx τ σ d else .ex i τ σ d
  | x => x
theorem s_blk (cf : CallF) (lf n id : Nat) (c : CC) (τ : Tr V) (σ : H) (d : List Df) : exec cf lf n (.blk id c) τ σ d = kBlk id (exec cf lf n c τ σ d) := by
  simp only [exec]; cases exec cf lf n c τ σ d <;> rfl
theorem s_blk_nx (id : Nat) (τ : Tr V) (σ : H) (d : List Df) : kBlk id (.nx τ σ d) = .nx τ σ d := rfl
theorem s_blk_rt (id : Nat) (τ : Tr V) (σ : H) (d : List Df) : kBlk id (.rt τ σ d) = .rt τ σ d := rfl
theorem s_blk_ex (id i : Nat) (τ : Tr V) (σ : H) (d : List Df) : kBlk id (.ex i τ σ d) = if i = id then .nx τ σ d else .ex i τ σ d := rfl

def kPut (n : Nat) (p : Pos) (τ : Tr V) (σ : H) (d : List Df) : Option V → R
  | some v => if p.toNat ≤ n then .nx (τ.set p v) σ d else .bad
  | none => .bad
theorem s_put (n i : Nat) (τ : Tr V) (σ : H) (d : List Df) (v : V) : kPut n (pk i) τ σ d (some v) = if i + 1 ≤ n then .nx (τ.set (pk i) v) σ d else .bad := by
  simp only [kPut, pk_le]
theorem s_P (cf : CallF) (n : Nat) (p : Pos) (o : POp) (τ : Tr V) (σ : H) (d : List Df) : stepOp cf n ⟨some p, .p o, none⟩ τ σ d = kPut n p τ σ d (o.ev τ) := by
  simp only [stepOp, guardV, putD]
  cases o.ev τ with
  | none => rfl
  | some v => simp only [kPut]; split <;> simp_all
theorem s_R (cf : CallF) (n : Nat) (p : Pos) (o : ROp) (τ : Tr V) (σ : H) (d : List Df) : stepOp cf n ⟨some p, .r o, none⟩ τ σ d = kPut n p τ σ d (o.ev τ σ) := by
  simp only [stepOp, guardV, putD]
  cases o.ev τ σ with
  | none => rfl
  | some v => simp only [kPut]; split <;> simp_all
def kA (n : Nat) (p : Pos) (τ : Tr V) (σ : H) (d : List Df) : Option (AK × Blk) → R
  | some (k, b) => kPut n p τ (σ.new b) d (some (k.val σ.nx))
  | none => .bad
theorem s_A (cf : CallF) (n : Nat) (p : Pos) (o : AOp) (τ : Tr V) (σ : H) (d : List Df) : stepOp cf n ⟨some p, .a o, none⟩ τ σ d = kA n p τ σ d (o.ev τ) := by
  simp only [stepOp, guardV, putD]
  cases o.ev τ with
  | none => rfl
  | some v => obtain ⟨k, b⟩ := v; simp only [kA, kPut]; split <;> simp_all
theorem s_A_some (n : Nat) (p : Pos) (τ : Tr V) (σ : H) (d : List Df) (k : AK) (b : Blk) : kA n p τ σ d (some (k, b)) = kPut n p τ (σ.new b) d (some (k.val σ.nx)) := rfl
def kC (n : Nat) (p : Pos) (τ : Tr V) (d : List Df) : CR → R
  | .ret v σ' => kPut n p τ σ' d (some v)
  | .pan v σ' => .pn v τ σ' d
  | .bad => .bad
theorem s_C_ret (n : Nat) (p : Pos) (τ : Tr V) (d : List Df) (v : V) (σ' : H) : kC n p τ d (.ret v σ') = kPut n p τ σ' d (some v) := rfl
theorem s_C_pan (n : Nat) (p : Pos) (τ : Tr V) (d : List Df) (v : V) (σ' : H) : kC n p τ d (.pan v σ') = .pn v τ σ' d := rfl
def kH (cf : CallF) (n : Nat) (p : Pos) (τ : Tr V) (σ : H) (d : List Df) : HR → R
  | .ok v σ' => kPut n p τ σ' d (some v)
  | .call f args => kC n p τ d (cf f args σ)
  | .pan v => .pn v τ σ d
  | .dfr x => kPut n p τ σ (x :: d) (some undefV)
  | _ => .bad
theorem s_H (cf : CallF) (n : Nat) (p : Pos) (o : HOp) (τ : Tr V) (σ : H) (d : List Df) : stepOp cf n ⟨some p, .h o, none⟩ τ σ d = kH cf n p τ σ d (o.ev τ σ) := by
  simp only [stepOp, guardV, putD]
  cases o.ev τ σ with
  | bad => rfl
  | ok v σ' => simp only [kH, kPut]; split <;> simp_all
  | call f args =>
    simp only [kH]
    cases cf f args σ with
    | bad => rfl
    | ret v σ' => simp only [kC, kPut]; split <;> simp_all
    | pan v σ' => rfl
  | dfr x => simp only [kH, kPut]; split <;> simp_all
  | pan v => rfl
  | recover => rfl
theorem s_H_ok (cf : CallF) (n : Nat) (p : Pos) (τ : Tr V) (σ : H) (d : List Df) (v : V) (σ' : H) : kH cf n p τ σ d (.ok v σ') = kPut n p τ σ' d (some v) := rfl
theorem s_H_call (cf : CallF) (n : Nat) (p : Pos) (τ : Tr V) (σ : H) (d : List Df) (f : Nat) (args : List V) : kH cf n p τ σ d (.call f args) = kC n p τ d (cf f args σ) := rfl
theorem s_H_pan (cf : CallF) (n : Nat) (p : Pos) (τ : Tr V) (σ : H) (d : List Df) (v : V) : kH cf n p τ σ d (.pan v) = .pn v τ σ d := rfl
/-- under a guard -/
def kGd (w : Bool) (n : Nat) (p : Pos) (τ : Tr V) (σ : H) (d : List Df) (x : R) : Option V → R
  | some (.bool b) => if b == w then x else kPut n p τ σ d (some undefV)
  | some (.tup []) => kPut n p τ σ d (some undefV)
  | _ => .bad
theorem s_gd (cf : CallF) (n : Nat) (p q : Pos) (w : Bool) (o : COp) (τ : Tr V) (σ : H) (d : List Df) : stepOp cf n ⟨some p, o, some (q, w)⟩ τ σ d = kGd w n p τ σ d (stepOp cf n ⟨some p, o, none⟩ τ σ d) (τ.get q) := by
  unfold stepOp
  simp only [guardV]
  cases hq : τ.get q with
  | none => rfl
  | some v =>
    cases v with
    | bool b =>
      simp only [kGd]
      cases hb : b == w with
      | true => simp
      | false => simp only [putD, kPut, Bool.false_eq_true, if_false]; split <;> simp_all
    | tup c =>
      cases c with
      | nil => simp only [kGd, putD, kPut]; split <;> simp_all
      | cons _ _ => rfl
    | _ => rfl
theorem s_gd_bool (w b : Bool) (n : Nat) (p : Pos) (τ : Tr V) (σ : H) (d : List Df) (x : R) : kGd w n p τ σ d x (some (.bool b)) = if b == w then x else kPut n p τ σ d (some undefV) := rfl
theorem s_gd_undef (w : Bool) (n : Nat) (p : Pos) (τ : Tr V) (σ : H) (d : List Df) (x : R) : kGd w n p τ σ d x (some undefV) = kPut n p τ σ d (some undefV) := rfl

/- operations without memory -/
theorem e_t (τ : Tr V) (p : Pos) : (Arg.t p).ev τ = τ.get p := rfl
theorem e_k (τ : Tr V) (v : V) : (Arg.k v).ev τ = some v := rfl
theorem e_mv (τ : Tr V) (a : Arg) : POp.ev τ (.mv a) = a.ev τ := rfl
def kPick (x y : Option V) : Option V → Option V
  | some (.bool true) => x
  | some (.bool false) => y
  | _ => none
theorem e_pick (τ : Tr V) (c a b : Arg) : POp.ev τ (.pick c a b) = kPick (a.ev τ) (b.ev τ) (c.ev τ) := by
  simp only [POp.ev]; rfl
theorem e_pick_b (x y : Option V) (b : Bool) : kPick x y (some (.bool b)) = if b = true then x else y := by cases b <;> rfl
def kBin (op : BinOp) (q : EqT) : Option V → Option V → Option V
  | some x, some y => vbin op q x y
  | _, _ => none
theorem e_bin (τ : Tr V) (op : BinOp) (q : EqT) (a b : Arg) : POp.ev τ (.bin op q a b) = kBin op q (a.ev τ) (b.ev τ) := by
  simp only [POp.ev]; cases a.ev τ <;> cases b.ev τ <;> rfl
theorem e_add (q : EqT) (k : IntKind) (x y : Int) : kBin .add q (some (.int k x)) (some (.int k y)) = some (.int k (k.wrap (x + y))) := by simp [kBin, vbin, isShift, ibin]
theorem e_sub (q : EqT) (k : IntKind) (x y : Int) : kBin .sub q (some (.int k x)) (some (.int k y)) = some (.int k (k.wrap (x - y))) := by simp [kBin, vbin, isShift, ibin]
theorem e_mul (q : EqT) (k : IntKind) (x y : Int) : kBin .mul q (some (.int k x)) (some (.int k y)) = some (.int k (k.wrap (x * y))) := by simp [kBin, vbin, isShift, ibin]
theorem e_int (op : BinOp) (q : EqT) (k : IntKind) (x y : Int) (h : isShift op = false) : kBin op q (some (.int k x)) (some (.int k y)) = ibin op k x y := by simp [kBin, vbin, h]
theorem e_add_i64 (q : EqT) (x y : Int) : kBin .add q (some (.int .i64 x)) (some (.int .i64 y)) = some (.int .i64 (IntKind.i64.wrap (x + y))) := e_add q _ x y
theorem e_add_i32 (q : EqT) (x y : Int) : kBin .add q (some (.int .i32 x)) (some (.int .i32 y)) = some (.int .i32 (IntKind.i32.wrap (x + y))) := e_add q _ x y
theorem e_sub_i64 (q : EqT) (x y : Int) : kBin .sub q (some (.int .i64 x)) (some (.int .i64 y)) = some (.int .i64 (IntKind.i64.wrap (x - y))) := e_sub q _ x y
theorem e_sub_u8 (q : EqT) (x y : Int) : kBin .sub q (some (.int .u8 x)) (some (.int .u8 y)) = some (.int .u8 (IntKind.u8.wrap (x - y))) := e_sub q _ x y
theorem e_mul_i64 (q : EqT) (x y : Int) : kBin .mul q (some (.int .i64 x)) (some (.int .i64 y)) = some (.int .i64 (IntKind.i64.wrap (x * y))) := e_mul q _ x y
theorem wrapU (n : Nat) : IntKind.u64.wrap (n : Int) = ((n % 18446744073709551616 : Nat) : Int) := by
  simp [IntKind.wrap, IntKind.bits, IntKind.signed]
theorem wrapU32 (n : Nat) : IntKind.u32.wrap (n : Int) = ((n % 4294967296 : Nat) : Int) := by
  simp [IntKind.wrap, IntKind.bits, IntKind.signed]
theorem e_addU (q : EqT) (x y : Nat) : kBin .add q (some (.int .u64 x)) (some (.int .u64 y)) = some (.int .u64 ((x + y) % 18446744073709551616 : Nat)) := by
  rw [e_add, ← wrapU]; rfl
theorem e_mulU (q : EqT) (x y : Nat) : kBin .mul q (some (.int .u64 x)) (some (.int .u64 y)) = some (.int .u64 ((x * y) % 18446744073709551616 : Nat)) := by
  rw [e_mul, ← wrapU]; rfl
theorem e_addU32 (q : EqT) (x y : Nat) : kBin .add q (some (.int .u32 x)) (some (.int .u32 y)) = some (.int .u32 ((x + y) % 4294967296 : Nat)) := by
  rw [e_add, ← wrapU32]; rfl
theorem e_mulU32 (q : EqT) (x y : Nat) : kBin .mul q (some (.int .u32 x)) (some (.int .u32 y)) = some (.int .u32 ((x * y) % 4294967296 : Nat)) := by
  rw [e_mul, ← wrapU32]; rfl
theorem e_shrU (q : EqT) (k' : IntKind) (x j : Nat) (h : j < 64) : kBin .shr q (some (.int .u64 x)) (some (.int k' j)) = some (.int .u64 (x / 2 ^ j : Nat)) := by
  simp only [kBin, vbin, isShift, if_true, ishift]
  rw [if_neg (by omega)]
  have : min (j : Int).toNat IntKind.u64.bits = j := by simp [IntKind.bits]; omega
  rw [this]
  congr 2
  rw [Int.fdiv_eq_ediv_of_nonneg _ (by exact Int.pow_nonneg (by omega))]
  simp
theorem e_shrU32 (q : EqT) (k' : IntKind) (x j : Nat) (h : j < 32) : kBin .shr q (some (.int .u32 x)) (some (.int k' j)) = some (.int .u32 (x / 2 ^ j : Nat)) := by
  simp only [kBin, vbin, isShift, if_true, ishift]
  rw [if_neg (by omega)]
  have : min (j : Int).toNat IntKind.u32.bits = j := by simp [IntKind.bits]; omega
  rw [this]
  congr 2
  rw [Int.fdiv_eq_ediv_of_nonneg _ (by exact Int.pow_nonneg (by omega))]
  simp
theorem e_andU (q : EqT) (x y : Nat) (hx : x < 18446744073709551616) (hy : y < 18446744073709551616) : kBin .and q (some (.int .u64 x)) (some (.int .u64 y)) = some (.int .u64 (x &&& y : Nat)) := by
  rw [e_int _ _ _ _ _ rfl]
  simp only [ibin]
  congr 2
  have hxy : x &&& y < 18446744073709551616 := Nat.lt_of_le_of_lt Nat.and_le_left hx
  have e : (BitVec.ofInt IntKind.u64.bits (x : Int) &&& BitVec.ofInt IntKind.u64.bits (y : Int)).toNat = x &&& y := by
    simp only [BitVec.toNat_and]
    have h1 : ∀ n : Nat, n < 18446744073709551616 → (BitVec.ofInt IntKind.u64.bits (n : Int)).toNat = n := by
      intro n hn
      simp [IntKind.bits]; omega
    rw [h1 x hx, h1 y hy]
  rw [e, wrapU, Nat.mod_eq_of_lt hxy]
theorem e_andU32 (q : EqT) (x y : Nat) (hx : x < 4294967296) (hy : y < 4294967296) : kBin .and q (some (.int .u32 x)) (some (.int .u32 y)) = some (.int .u32 (x &&& y : Nat)) := by
  rw [e_int _ _ _ _ _ rfl]
  simp only [ibin]
  congr 2
  have hxy : x &&& y < 4294967296 := Nat.lt_of_le_of_lt Nat.and_le_left hx
  have e : (BitVec.ofInt IntKind.u32.bits (x : Int) &&& BitVec.ofInt IntKind.u32.bits (y : Int)).toNat = x &&& y := by
    simp only [BitVec.toNat_and]
    have h1 : ∀ n : Nat, n < 4294967296 → (BitVec.ofInt IntKind.u32.bits (n : Int)).toNat = n := by
      intro n hn
      simp [IntKind.bits]; omega
    rw [h1 x hx, h1 y hy]
  rw [e, wrapU32, Nat.mod_eq_of_lt hxy]
theorem e_quo (q : EqT) (k : IntKind) (x y : Int) (h : y ≠ 0) : kBin .quo q (some (.int k x)) (some (.int k y)) = some (.int k (k.wrap (x.tdiv y))) := by simp [kBin, vbin, isShift, ibin, h]
theorem e_rem (q : EqT) (k : IntKind) (x y : Int) (h : y ≠ 0) : kBin .rem q (some (.int k x)) (some (.int k y)) = some (.int k (x.tmod y)) := by simp [kBin, vbin, isShift, ibin, h]
theorem e_eql (q : EqT) (k : IntKind) (x y : Int) : kBin .eql q (some (.int k x)) (some (.int k y)) = some (.bool (x == y)) := by simp [kBin, vbin, isShift, ibin]
theorem e_neq (q : EqT) (k : IntKind) (x y : Int) : kBin .neq q (some (.int k x)) (some (.int k y)) = some (.bool (x != y)) := by simp [kBin, vbin, isShift, ibin]
theorem e_lss (q : EqT) (k : IntKind) (x y : Int) : kBin .lss q (some (.int k x)) (some (.int k y)) = some (.bool (decide (x < y))) := by simp [kBin, vbin, isShift, ibin]
theorem e_leq (q : EqT) (k : IntKind) (x y : Int) : kBin .leq q (some (.int k x)) (some (.int k y)) = some (.bool (decide (x ≤ y))) := by simp [kBin, vbin, isShift, ibin]
theorem e_gtr (q : EqT) (k : IntKind) (x y : Int) : kBin .gtr q (some (.int k x)) (some (.int k y)) = some (.bool (decide (y < x))) := by simp [kBin, vbin, isShift, ibin]
theorem e_geq (q : EqT) (k : IntKind) (x y : Int) : kBin .geq q (some (.int k x)) (some (.int k y)) = some (.bool (decide (y ≤ x))) := by simp [kBin, vbin, isShift, ibin]
theorem e_shift (op : BinOp) (q : EqT) (k k' : IntKind) (x y : Int) (h : isShift op = true) : kBin op q (some (.int k x)) (some (.int k' y)) = ishift op k x y := by simp [kBin, vbin, h]
theorem e_str_eql (q : EqT) (x y : List Nat) : kBin .eql q (some (.str x)) (some (.str y)) = some (.bool (natEq x y)) := by simp [kBin, vbin, sbin]
theorem e_str_neq (q : EqT) (x y : List Nat) : kBin .neq q (some (.str x)) (some (.str y)) = some (.bool (!natEq x y)) := by simp [kBin, vbin, sbin]
def kIa (esz : Nat) : Option V → Option V → Option V
  | some s, some (.int _ n) => elemAt esz s n
  | _, _ => none
theorem e_iaddr (τ : Tr V) (esz : Nat) (a i : Arg) : POp.ev τ (.iaddr esz a i) = kIa esz (a.ev τ) (i.ev τ) := by
  simp only [POp.ev]
  cases a.ev τ with
  | none => rfl
  | some s => cases i.ev τ with
    | none => rfl
    | some v => cases v <;> rfl
theorem e_iaddr_int (esz : Nat) (s : V) (k : IntKind) (n : Int) : kIa esz (some s) (some (.int k n)) = elemAt esz s n := rfl
def kBind (f : V → Option V) : Option V → Option V
  | some v => f v
  | none => none
theorem k_bind (f : V → Option V) (v : V) : kBind f (some v) = f v := rfl
theorem e_lens (τ : Tr V) (a : Arg) : POp.ev τ (.lens a) = kBind lenV (a.ev τ) := by
  rw [lens_lenV]; cases a.ev τ <;> rfl
theorem e_ld (τ : Tr V) (σ : H) (a : Arg) : ROp.ev τ σ (.load none a) = kBind (ldv σ) (a.ev τ) := by
  rw [load_ldv]; cases a.ev τ <;> rfl
def exV (i : Nat) : V → Option V
  | .tup c => c[i]?
  | _ => none
theorem e_extract (τ : Tr V) (i : Nat) (a : Arg) : POp.ev τ (.extract i a) = kBind (exV i) (a.ev τ) := by
  simp only [POp.ev]
  cases a.ev τ with
  | none => rfl
  | some v => cases v <;> rfl
theorem e_ex0 (x : V) (l : List V) : exV 0 (.tup (x :: l)) = some x := rfl
theorem e_ex1 (x y : V) (l : List V) : exV 1 (.tup (x :: y :: l)) = some y := rfl
theorem e_ex2 (x y z : V) (l : List V) : exV 2 (.tup (x :: y :: z :: l)) = some z := rfl
def lenSV : V → Option V
  | .str s => some (.int .i64 s.length)
  | _ => none
theorem e_lenS (τ : Tr V) (a : Arg) : POp.ev τ (.lenS a) = kBind lenSV (a.ev τ) := by
  simp only [POp.ev]
  cases a.ev τ with
  | none => rfl
  | some v => cases v <;> rfl
theorem e_lenS_str (s : List Nat) : lenSV (.str s) = some (.int .i64 s.length) := rfl
def ciiV (k : IntKind) : V → Option V
  | .int _ n => some (.int k (k.wrap n))
  | _ => none
theorem e_cii (τ : Tr V) (k : IntKind) (a : Arg) : POp.ev τ (.cii k a) = kBind (ciiV k) (a.ev τ) := by
  simp only [POp.ev]
  cases a.ev τ with
  | none => rfl
  | some v => cases v <;> rfl
theorem e_cii_int (k k' : IntKind) (n : Int) : ciiV k (.int k' n) = some (.int k (k.wrap n)) := rfl
def kSl2 (esz : Nat) : Option V → Option V → Option V → Option V
  | some s, some h, some m => vslsl esz s none (some h) (some m)
  | _, _, _ => none
theorem e_slsl_hm (τ : Tr V) (esz : Nat) (a h m : Arg) : POp.ev τ (.slsl esz a none (some h) (some m)) = kSl2 esz (a.ev τ) (h.ev τ) (m.ev τ) := by
  simp only [POp.ev, ofOpt]
  cases a.ev τ <;> cases h.ev τ <;> cases m.ev τ <;> rfl
theorem e_sl2 (esz : Nat) (s h m : V) : kSl2 esz (some s) (some h) (some m) = vslsl esz s none (some h) (some m) := rfl
def kSl1 (esz : Nat) : Option V → Option V → Option V
  | some s, some h => vslsl esz s none (some h) none
  | _, _ => none
theorem e_slsl_h (τ : Tr V) (esz : Nat) (a h : Arg) : POp.ev τ (.slsl esz a none (some h) none) = kSl1 esz (a.ev τ) (h.ev τ) := by
  simp only [POp.ev, ofOpt]
  cases a.ev τ <;> cases h.ev τ <;> rfl
theorem e_sl1 (esz : Nat) (s h : V) : kSl1 esz (some s) (some h) = vslsl esz s none (some h) none := rfl
def kSlis : Option V → Option V → Option V
  | some (.str s), some h => match bnd (some h) s.length s.length with
    | some h => some (.str (s.take h))
    | none => none
  | _, _ => none
theorem e_slis (τ : Tr V) (a h : Arg) : POp.ev τ (.slis a none (some h)) = kSlis (a.ev τ) (h.ev τ) := by
  simp only [POp.ev, ofOpt]
  cases a.ev τ with
  | none => rfl
  | some v =>
    cases h.ev τ with
    | none => cases v <;> rfl
    | some x =>
      cases v with
      | str s =>
        simp only [kSlis]
        cases bnd (some x) s.length s.length <;> simp [bnd]
      | _ => rfl
def kCons : Option V → Option (List V) → Option (List V)
  | some v, some l => some (v :: l)
  | _, _ => none
theorem e_evL_nil (τ : Tr V) : evL τ [] = some [] := rfl
theorem e_evL_cons (τ : Tr V) (a : Arg) (l : List Arg) : evL τ (a :: l) = kCons (a.ev τ) (evL τ l) := by
  simp only [evL]; cases a.ev τ <;> cases evL τ l <;> rfl
theorem e_cons (v : V) (l : List V) : kCons (some v) (some l) = some (v :: l) := rfl
def kCall (f : Nat) : Option (List V) → HR
  | some l => .call f l
  | none => .bad
theorem e_call (τ : Tr V) (σ : H) (f : Nat) (l : List Arg) : HOp.ev τ σ (.call f l) = kCall f (evL τ l) := by
  simp only [HOp.ev]; cases evL τ l <;> rfl
theorem e_callk (f : Nat) (l : List V) : kCall f (some l) = .call f l := rfl
def appV (σ : H) (ty esz eb : Nat) (x y : V) : HR :=
  if strOne esz y then match slLen y with
    | some k => match slCells σ esz k y with
      | some c => .of (vapp σ ty esz eb k x c)
      | none => .bad
    | none => .bad
  else .bad
def kApp (σ : H) (ty esz eb : Nat) : Option V → Option V → HR
  | some x, some y => appV σ ty esz eb x y
  | _, _ => .bad
theorem e_app (τ : Tr V) (σ : H) (ty esz eb : Nat) (a b : Arg) : HOp.ev τ σ (.app ty esz eb a b) = kApp σ ty esz eb (a.ev τ) (b.ev τ) := by
  simp only [HOp.ev]; cases a.ev τ <;> cases b.ev τ <;> rfl
theorem e_appk (σ : H) (ty esz eb : Nat) (x y : V) : kApp σ ty esz eb (some x) (some y) = appV σ ty esz eb x y := rfl
def stV (σ : H) (n : Nat) : V → V → HR
  | .ptr x ver o, v => if v.cells.length = n then
      match putCells σ x ver o v.cells with
      | some σ' => .ok undefV σ'
      | none => .bad
    else .bad
  | _, _ => .bad
def kSt (σ : H) (n : Nat) : Option V → Option V → HR
  | some p, some v => stV σ n p v
  | _, _ => .bad
theorem e_store (τ : Tr V) (σ : H) (n : Nat) (a v : Arg) : HOp.ev τ σ (.store n a v) = kSt σ n (a.ev τ) (v.ev τ) := by
  simp only [HOp.ev]
  cases a.ev τ with
  | none => rfl
  | some p => cases v.ev τ with
    | none => cases p <;> rfl
    | some u => cases p <;> rfl
theorem e_stk (σ : H) (n : Nat) (p v : V) : kSt σ n (some p) (some v) = stV σ n p v := rfl
def nextV (σ : H) : V → HR
  | .it x => match σ.get x with
    | some (.sit s p) =>
      if p < s.length then
        match dec s p with
        | (c, w) => .ok (.tup [.bool true, .int .i64 p, .int .i32 c]) (σ.put x (.sit s (p + w)))
      else .ok (.tup [.bool false]) σ
    | _ => .bad
  | _ => .bad
def kNext (σ : H) : Option V → HR
  | some v => nextV σ v
  | none => .bad
theorem e_next (τ : Tr V) (σ : H) (a : Arg) : HOp.ev τ σ (.next a) = kNext σ (a.ev τ) := by
  simp only [HOp.ev]
  cases a.ev τ with
  | none => rfl
  | some v => cases v <;> rfl
theorem e_nextk (σ : H) (v : V) : kNext σ (some v) = nextV σ v := rfl
def kRange : Option V → Option (AK × Blk)
  | some (.str s) => some (.it, .sit s 0)
  | _ => none
theorem e_range (τ : Tr V) (a : Arg) : AOp.ev τ (.range a) = kRange (a.ev τ) := by
  simp only [AOp.ev]; rfl
theorem e_rangek (s : List Nat) : kRange (some (.str s)) = some (.it, .sit s 0) := rfl
/-- a slice of one new element -/
def kBs1 (ty : Nat) : Option V → Option (AK × Blk)
  | some v => if v.cells.length = 1 then some (.sl 1 1, .cells ty v.cells 0 0 (some 0) []) else none
  | none => none
theorem e_bs1 (τ : Tr V) (ty : Nat) (z : V) (a : Arg) : AOp.ev τ (.bslice ty 1 [z] [(0, 1, a)]) = kBs1 ty (a.ev τ) := by
  simp only [AOp.ev, evParts]
  cases a.ev τ with
  | none => rfl
  | some v =>
    simp only [fillL, kBs1]
    by_cases h : v.cells.length = 1
    · simp [h]
    · simp [h]
theorem e_bs1i (ty : Nat) (k : IntKind) (n : Int) : kBs1 ty (some (.int k n)) = some (.sl 1 1, .cells ty [.int k n] 0 0 (some 0) []) := rfl
theorem e_bs0 (τ : Tr V) (ty : Nat) : AOp.ev τ (.bslice ty 0 [] []) = some (.sl 0 0, .cells ty [] 0 0 (some 0) []) := rfl
def mkV (ty eb : Nat) (zs : List V) : V → V → Option (AK × Blk)
  | .int .i64 l, .int .i64 c => if 0 ≤ l ∧ l ≤ c ∧ c.toNat * eb ≤ mostBytes ∧ c < 140737488420864 then some (.sl l.toNat c.toNat, .cells ty (repl zs c.toNat) 0 0 (some 0) []) else none
  | _, _ => none
def kMk (ty eb : Nat) (zs : List V) : Option V → Option V → Option (AK × Blk)
  | some l, some c => mkV ty eb zs l c
  | _, _ => none
theorem e_mksl (τ : Tr V) (ty eb : Nat) (zs : List V) (l c : Arg) : AOp.ev τ (.mksl ty eb zs l c) = kMk ty eb zs (l.ev τ) (c.ev τ) := by
  simp only [AOp.ev]
  cases l.ev τ with
  | none => rfl
  | some x =>
    cases c.ev τ with
    | none => cases x <;> try rfl
              rename_i k n; cases k <;> rfl
    | some y =>
      cases x <;> try rfl
      rename_i k n
      cases k <;> try rfl
      cases y <;> try rfl
      rename_i k' n'
      cases k' <;> rfl
theorem e_mkslk (ty eb : Nat) (zs : List V) (l c : V) : kMk ty eb zs (some l) (some c) = mkV ty eb zs l c := rfl
theorem e_AK_sl (n c : Nat) (x : Pos) : (AK.sl n c).val x = .sl x 0 0 n (some c) 0 := rfl
theorem e_AK_it (x : Pos) : AK.it.val x = .it x := rfl
theorem e_AK_ptr (x : Pos) : AK.ptr.val x = .ptr x 0 0 := rfl
theorem e_not (τ : Tr V) (a : Arg) : POp.ev τ (.un .not a) = kBind (fun v => vun .not v) (a.ev τ) := by
  simp only [POp.ev]; cases a.ev τ <;> rfl
theorem e_notb (b : Bool) : vun .not (.bool b) = some (.bool !b) := rfl
theorem e_xori (τ : Tr V) (a : Arg) : POp.ev τ (.un .xor a) = kBind (fun v => vun .xor v) (a.ev τ) := by
  simp only [POp.ev]; cases a.ev τ <;> rfl
def kIx : Option V → Option V → Option V
  | some (.str s), some (.int _ n) => if 0 ≤ n then
      match s[n.toNat]? with
      | some b => some (.int .u8 b)
      | none => none
    else none
  | _, _ => none
theorem e_idxs (τ : Tr V) (a i : Arg) : POp.ev τ (.idxs a i) = kIx (a.ev τ) (i.ev τ) := by
  simp only [POp.ev]
  cases a.ev τ with
  | none => rfl
  | some v =>
    cases v with
    | str s => cases i.ev τ with
      | none => rfl
      | some u => cases u <;> rfl
    | _ => cases i.ev τ <;> rfl
/-- without a place for the result -/
def kHn (cf : CallF) (τ : Tr V) (σ : H) (d : List Df) : HR → R
  | .ok _ σ' => .nx τ σ' d
  | .call f args => match cf f args σ with
    | .ret _ σ' => .nx τ σ' d
    | .pan v σ' => .pn v τ σ' d
    | .bad => .bad
  | .dfr x => .nx τ σ (x :: d)
  | .pan v => .pn v τ σ d
  | _ => .bad
theorem s_Hn (cf : CallF) (n : Nat) (o : HOp) (τ : Tr V) (σ : H) (d : List Df) : stepOp cf n ⟨none, .h o, none⟩ τ σ d = kHn cf τ σ d (o.ev τ σ) := by
  simp only [stepOp, guardV, putD]
  cases o.ev τ σ with
  | call f args => simp only [kHn]; cases cf f args σ <;> rfl
  | _ => rfl
theorem s_Hnk (cf : CallF) (τ : Tr V) (σ : H) (d : List Df) (v : V) (σ' : H) : kHn cf τ σ d (.ok v σ') = .nx τ σ' d := rfl

/-- What a run that goes on leaves. -/
def Nx (r : R) (K : Tr V → H → Prop) : Prop := match r with
  | .nx τ σ d => d = [] ∧ K τ σ
  | _ => False
theorem s_Nx (τ : Tr V) (σ : H) (d : List Df) (K : Tr V → H → Prop) : Nx (.nx τ σ d) K = (d = [] ∧ K τ σ) := rfl
/-- .. of one that returns. -/
def Rt (r : R) (K : Tr V → H → Prop) : Prop := match r with
  | .rt τ σ d => d = [] ∧ K τ σ
  | _ => False
theorem s_Rt (τ : Tr V) (σ : H) (d : List Df) (K : Tr V → H → Prop) : Rt (.rt τ σ d) K = (d = [] ∧ K τ σ) := rfl
/-- .. of one that goes on or returns. -/
def NR (r : R) (N T : Tr V → H → Prop) : Prop := match r with
  | .nx τ σ d => d = [] ∧ N τ σ
  | .rt τ σ d => d = [] ∧ T τ σ
  | _ => False
theorem s_NR_nx (τ : Tr V) (σ : H) (d : List Df) (N T : Tr V → H → Prop) : NR (.nx τ σ d) N T = (d = [] ∧ N τ σ) := rfl
theorem s_NR_rt (τ : Tr V) (σ : H) (d : List Df) (N T : Tr V → H → Prop) : NR (.rt τ σ d) N T = (d = [] ∧ T τ σ) := rfl
/-- .. of a loop's body: it goes on (N), leaves by the exit (X), returns (T). -/
def NXT (id : Nat) (r : R) (N X T : Tr V → H → Prop) : Prop := match r with
  | .nx τ σ d => d = [] ∧ N τ σ
  | .ex i τ σ d => i = id ∧ d = [] ∧ X τ σ
  | .rt τ σ d => d = [] ∧ T τ σ
  | _ => False
theorem s_NXT_nx (id : Nat) (τ : Tr V) (σ : H) (d : List Df) (N X T : Tr V → H → Prop) : NXT id (.nx τ σ d) N X T = (d = [] ∧ N τ σ) := rfl
theorem s_NXT_ex (id i : Nat) (τ : Tr V) (σ : H) (d : List Df) (N X T : Tr V → H → Prop) : NXT id (.ex i τ σ d) N X T = (i = id ∧ d = [] ∧ X τ σ) := rfl
theorem s_NXT_rt (id : Nat) (τ : Tr V) (σ : H) (d : List Df) (N X T : Tr V → H → Prop) : NXT id (.rt τ σ d) N X T = (d = [] ∧ T τ σ) := rfl

/-- A loop in its block: what holds in each round (k falls), how it is left. -/
theorem loop_rule {cf : CallF} {lf n id : Nat} {c : CC} (I : Nat → Tr V → H → Prop) (X T : Tr V → H → Prop)
    (step : ∀ k τ σ, I k τ σ → NXT id (exec cf lf n c τ σ []) (fun τ' σ' => ∃ k', k' < k ∧ I k' τ' σ') X T)
    {k : Nat} {τ : Tr V} {σ : H} (hk : k < lf) (h : I k τ σ) : NR (kBlk id (exec cf lf n (.loop c) τ σ [])) X T := by
  rw [exec_loop]
  refine loop_ind (body := exec cf lf n c) I (fun r => NR (kBlk id r) X T) (fun k τ σ hI => ?_) lf k τ σ hk h
  have hs := step k τ σ hI
  cases hb : exec cf lf n c τ σ [] with
  | nx τ' σ' d' => rw [hb] at hs; exact hs
  | ex i τ' σ' d' =>
    rw [hb] at hs
    obtain ⟨rfl, rfl, hX⟩ := hs
    simp only [kBlk, if_true]
    exact ⟨rfl, hX⟩
  | rt τ' σ' d' => rw [hb] at hs; exact hs
  | bad => rw [hb] at hs; exact hs.elim
  | pn => rw [hb] at hs; exact hs.elim
/-- .. one that is left by its exit alone -/
theorem loop_rule_x {cf : CallF} {lf n id : Nat} {c : CC} (I : Nat → Tr V → H → Prop) (X : Tr V → H → Prop)
    (step : ∀ k τ σ, I k τ σ → NXT id (exec cf lf n c τ σ []) (fun τ' σ' => ∃ k', k' < k ∧ I k' τ' σ') X (fun _ _ => False))
    {k : Nat} {τ : Tr V} {σ : H} (hk : k < lf) (h : I k τ σ) : Nx (kBlk id (exec cf lf n (.loop c) τ σ [])) X := by
  have := loop_rule I X (fun _ _ => False) step hk h
  cases hb : kBlk id (exec cf lf n (.loop c) τ σ []) with
  | nx => rw [hb] at this; exact this
  | rt => rw [hb] at this; exact this.2.elim
  | bad => rw [hb] at this; exact this.elim
  | ex => rw [hb] at this; exact this.elim
  | pn => rw [hb] at this; exact this.elim
theorem Nx.elim {r : R} {K : Tr V → H → Prop} (h : Nx r K) : ∃ τ σ, r = .nx τ σ [] ∧ K τ σ := by
  cases r with
  | nx τ σ d => obtain ⟨rfl, h⟩ := h; exact ⟨τ, σ, rfl, h⟩
  | bad => exact False.elim h
  | ex => exact False.elim h
  | rt => exact False.elim h
  | pn => exact False.elim h
theorem NR.elim {r : R} {N T : Tr V → H → Prop} (h : NR r N T) : (∃ τ σ, r = .nx τ σ [] ∧ N τ σ) ∨ ∃ τ σ, r = .rt τ σ [] ∧ T τ σ := by
  cases r with
  | nx τ σ d => obtain ⟨rfl, h⟩ := h; exact .inl ⟨τ, σ, rfl, h⟩
  | rt τ σ d => obtain ⟨rfl, h⟩ := h; exact .inr ⟨τ, σ, rfl, h⟩
  | bad => exact False.elim h
  | ex => exact False.elim h
  | pn => exact False.elim h

theorem e_lenV_sl (x : Pos) (v o n : Nat) (cap : Option Nat) (es : Nat) : lenV (.sl x v o n cap es) = some (.int .i64 n) := rfl
theorem e_lenV_nils : lenV .nils = some (.int .i64 0) := rfl

def kFin (cf : CallF) (lf : Nat) (code : Nat → Option CFun) (res : List CRes) (r : R) : CR := finish cf lf code res r
theorem fin_rt (cf : CallF) (lf : Nat) (code : Nat → Option CFun) (res : List CRes) (τ : Tr V) (σ : H) : finish cf lf code res (.rt τ σ []) = retOf τ σ res := rfl
theorem ret1 (τ : Tr V) (σ : H) (p : Pos) {v : V} (h : τ.get p = some v) : retOf τ σ [.t p] = .ret v σ := by simp [retOf, resV, resAll, resOne, h]
theorem ret2 (τ : Tr V) (σ : H) (p q : Pos) {v u : V} (h : τ.get p = some v) (h2 : τ.get q = some u) : retOf τ σ [.t p, .t q] = .ret (.tup [v, u]) σ := by simp [retOf, resV, resAll, resOne, h, h2]

theorem kSeq_nx {Q : R → Prop} {cf : CallF} {lf n : Nat} {b : CC} {r : R} {N : Tr V → H → Prop} (h : Nx r N) (k : ∀ τ σ, N τ σ → Q (exec cf lf n b τ σ [])) : Q (kSeq cf lf n b r) := by
  obtain ⟨τ, σ, rfl, hN⟩ := h.elim
  exact k τ σ hN
theorem Rt_seq {cf : CallF} {lf n : Nat} {b : CC} {r : R} {N T : Tr V → H → Prop} (h : Nx r N) (k : ∀ τ σ, N τ σ → Rt (exec cf lf n b τ σ []) T) : Rt (kSeq cf lf n b r) T :=
  kSeq_nx (Q := fun r => Rt r T) h k
theorem Rt_seqNR {cf : CallF} {lf n : Nat} {b : CC} {r : R} {N T : Tr V → H → Prop} (h : NR r N T) (k : ∀ τ σ, N τ σ → Rt (exec cf lf n b τ σ []) T) : Rt (kSeq cf lf n b r) T := by
  rcases h.elim with ⟨τ, σ, rfl, hN⟩ | ⟨τ, σ, rfl, hT⟩
  · exact k τ σ hN
  · exact ⟨rfl, hT⟩
theorem Rt.elim {r : R} {K : Tr V → H → Prop} (h : Rt r K) : ∃ τ σ, r = .rt τ σ [] ∧ K τ σ := by
  cases r with
  | rt τ σ d => obtain ⟨rfl, h⟩ := h; exact ⟨τ, σ, rfl, h⟩
  | bad => exact False.elim h
  | ex => exact False.elim h
  | nx => exact False.elim h
  | pn => exact False.elim h

theorem call_rt1 {T : Tab} {f : Nat} {c : CFun} {p : Pos} {lf m : Nat} {args : List V} {σ : H} {Post : V → H → Prop} (hi : T.intr f = none) (hc : T.code f = some c) (hl : args.length ≤ c.n) (hr : c.res = [.t p])
    (h : ∀ cf, cf = call T lf m → Rt (exec cf lf c.n c.body (bindArgs args .h .lf) σ []) fun τ σ' => ∃ v, τ.get p = some v ∧ Post v σ') : ∃ v σ', call T lf (m + 1) f args σ = .ret v σ' ∧ Post v σ' := by
  obtain ⟨τ, σ', h1, v, h2, h3⟩ := (h _ rfl).elim
  refine ⟨v, σ', ?_, h3⟩
  rw [call_def hi hc lf m args σ hl, h1, fin_rt, hr]
  exact ret1 τ σ' p h2
theorem call_rt2 {T : Tab} {f : Nat} {c : CFun} {p q : Pos} {lf m : Nat} {args : List V} {σ : H} {Post : V → V → H → Prop} (hi : T.intr f = none) (hc : T.code f = some c) (hl : args.length ≤ c.n) (hr : c.res = [.t p, .t q])
    (h : ∀ cf, cf = call T lf m → Rt (exec cf lf c.n c.body (bindArgs args .h .lf) σ []) fun τ σ' => ∃ v u, τ.get p = some v ∧ τ.get q = some u ∧ Post v u σ') : ∃ v u σ', call T lf (m + 1) f args σ = .ret (.tup [v, u]) σ' ∧ Post v u σ' := by
  obtain ⟨τ, σ', h1, v, u, h2, h2', h3⟩ := (h _ rfl).elim
  refine ⟨v, u, σ', ?_, h3⟩
  rw [call_def hi hc lf m args σ hl, h1, fin_rt, hr]
  exact ret2 τ σ' p q h2 h2'
end Go.Proofs.YtahgfodccndcjaaGreatEng
