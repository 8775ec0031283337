/-
  Steps over code as read: equations for simp, and rules.
-/
import Derived.Test.YthkoheaklmgonaaDoorDrWp
namespace Go.Dr

/-- an equation that simp keeps as one -/
theorem nr {α : Sort _} {a b : α} (h : a = b) : a = b := h

section
variable {P : Program} {S : Sums} {Q : Post} {σ : Sg} {ds : List ADef} {h : AH}

/-! ### pieces of code -/

@[simp] theorem wpC_skip : wpC P S .skip Q σ ds h = Q .normal σ ds h := nr rfl
@[simp] theorem wpC_ops (l : List CEnt) : wpC P S (.ops l) Q σ ds h = wpOps P S l Q σ ds h := nr rfl
@[simp] theorem wpC_seq (x y : CC) : wpC P S (.seq x y) Q σ ds h = wpC P S x (Kseq P S y Q) σ ds h := nr rfl
@[simp] theorem wpC_block (id : Nat) (c : CC) : wpC P S (.block id c) Q σ ds h = wpC P S c (Kblk id Q) σ ds h := nr rfl
@[simp] theorem wpC_exit (id : Nat) : wpC P S (.exit id) Q σ ds h = Q (.exit id) σ ds h := nr rfl
@[simp] theorem wpC_ret : wpC P S .ret Q σ ds h = Q .ret σ ds h := nr rfl

variable (P S) in
def wpB (v : AV) (x y : CC) (Q : Post) (σ : Sg) (ds : List ADef) (h : AH) : Prop := wpG v true (wpC P S x Q σ ds h) (wpC P S y Q σ ds h)
@[simp] theorem wpC_cond (c : CO) (x y : CC) : wpC P S (.cond c x y) Q σ ds h = wpB P S (c.evS σ) x y Q σ ds h := nr rfl
@[simp] theorem wpB_true (x y : CC) : wpB P S (.bool true) x y Q σ ds h = wpC P S x Q σ ds h := nr rfl
@[simp] theorem wpB_false (x y : CC) : wpB P S (.bool false) x y Q σ ds h = wpC P S y Q σ ds h := nr rfl
theorem wpB_dec {p : Prop} [Decidable p] {x y : CC} (hx : p → wpC P S x Q σ ds h) (hy : ¬ p → wpC P S y Q σ ds h) : wpB P S (.bool (decide p)) x y Q σ ds h := by
  by_cases hp : p
  · simp only [hp, decide_true, wpB_true]; exact hx hp
  · simp only [hp, decide_false, wpB_false]; exact hy hp
theorem wpB_bool {b : Bool} {x y : CC} (hx : b = true → wpC P S x Q σ ds h) (hy : b = false → wpC P S y Q σ ds h) : wpB P S (.bool b) x y Q σ ds h := by
  cases b
  · exact hy rfl
  · exact hx rfl

@[simp] theorem Kseq_normal (y : CC) : Kseq P S y Q .normal σ ds h = wpC P S y Q σ ds h := nr rfl
@[simp] theorem Kseq_exit (y : CC) (i : Nat) : Kseq P S y Q (.exit i) σ ds h = Q (.exit i) σ ds h := nr rfl
@[simp] theorem Kseq_ret (y : CC) : Kseq P S y Q .ret σ ds h = Q .ret σ ds h := nr rfl
@[simp] theorem Kblk_normal (id : Nat) : Kblk id Q .normal σ ds h = Q .normal σ ds h := nr rfl
@[simp] theorem Kblk_exit (id i : Nat) : Kblk id Q (.exit i) σ ds h = if i = id then Q .normal σ ds h else Q (.exit i) σ ds h := nr rfl
@[simp] theorem Kblk_ret (id : Nat) : Kblk id Q .ret σ ds h = Q .ret σ ds h := nr rfl
theorem Kloop_normal (I : Inv) (k : Nat) : Kloop I k Q .normal σ ds h = ∃ k', k' < k ∧ I k' σ ds h := nr rfl
@[simp] theorem Kloop_exit (I : Inv) (k i : Nat) : Kloop I k Q (.exit i) σ ds h = Q (.exit i) σ ds h := nr rfl
@[simp] theorem Kloop_ret (I : Inv) (k : Nat) : Kloop I k Q .ret σ ds h = Q .ret σ ds h := nr rfl

theorem w_loop {c : CC} (I : Inv) (k : Nat) (h0 : I k σ ds h) (hI : ∀ k σ ds h, I k σ ds h → wpC P S c (Kloop I k Q) σ ds h) : wpC P S (.loop c) Q σ ds h := ⟨I, k, h0, hI⟩

/-! ### consequence -/

theorem wpR_mono {r : RN} {K K' : AV → AH → Prop} {D D' : ADef → AH → Prop} (hw : wpR P S r K D) (hk : ∀ v h, K v h → K' v h) (hd : ∀ d h, D d h → D' d h) : wpR P S r K' D' := by
  unfold wpR at hw ⊢
  split at hw
  · split at hw
    · exact hk _ _ hw
    · exact hk _ _ hw
    · exact hw.mono hk
    · exact hw.mono hk
    · exact hd _ _ hw
  · exact hw

theorem wpG_mono {v : AV} {w : Bool} {x y x' y' : Prop} (hw : wpG v w x y) (hx : x → x') (hy : y → y') : wpG v w x' y' := by
  unfold wpG at hw ⊢
  split at hw
  · split at hw
    · rename_i e; rw [if_pos e]; exact hx hw
    · rename_i e; rw [if_neg e]; exact hy hw
  · exact hw

theorem wpGu_mono {v : AV} {w : Bool} {x y x' y' : Prop} (hw : wpGu v w x y) (hx : x → x') (hy : y → y') : wpGu v w x' y' := by
  unfold wpGu at hw ⊢
  split at hw
  · split at hw
    · rename_i e; rw [if_pos e]; exact hx hw
    · rename_i e; rw [if_neg e]; exact hy hw
  · exact hw
  · exact hy hw

theorem wpOps_mono {Q Q' : Post} (hq : ∀ σ ds h, Q .normal σ ds h → Q' .normal σ ds h) : ∀ (l : List CEnt) {σ : Sg} {ds : List ADef} {h : AH}, wpOps P S l Q σ ds h → wpOps P S l Q' σ ds h
  | [], _, _, _, hw => hq _ _ _ hw
  | .stage re :: l, _, _, _, hw => ⟨hw.1, wpOps_mono hq l hw.2⟩
  | .row r :: l, σ, ds, h, hw => by
    simp only [wpOps] at hw ⊢
    cases hg : r.g with
    | none => rw [hg] at hw; exact wpR_mono hw (fun v h => wpOps_mono hq l) (fun d h => wpOps_mono hq l)
    | some p => rw [hg] at hw; exact wpGu_mono hw (fun hw => wpR_mono hw (fun v h => wpOps_mono hq l) (fun d h => wpOps_mono hq l)) (wpOps_mono hq l)

theorem w_mono : ∀ {c : CC} {Q Q' : Post} {σ : Sg} {ds : List ADef} {h : AH}, wpC P S c Q σ ds h → (∀ x σ ds h, Q x σ ds h → Q' x σ ds h) → wpC P S c Q' σ ds h
  | .skip, _, _, _, _, _, hw, hq => hq _ _ _ _ hw
  | .ops l, _, _, _, _, _, hw, hq => wpOps_mono (fun _ _ _ => hq _ _ _ _) l hw
  | .seq x y, Q, Q', _, _, _, hw, hq => w_mono (c := x) hw fun r σ ds h k => by
    cases r with
    | normal => exact w_mono (c := y) k hq
    | exit i => exact hq _ _ _ _ k
    | ret => exact hq _ _ _ _ k
  | .cond c x y, _, _, _, _, _, hw, hq => wpG_mono hw (fun k => w_mono (c := x) k hq) (fun k => w_mono (c := y) k hq)
  | .block id c, Q, Q', _, _, _, hw, hq => w_mono (c := c) hw fun r σ ds h k => by
    cases r with
    | normal => exact hq _ _ _ _ k
    | ret => exact hq _ _ _ _ k
    | exit i =>
      simp only [Kblk] at k ⊢
      by_cases hi : i = id
      · rw [if_pos hi] at k ⊢; exact hq _ _ _ _ k
      · rw [if_neg hi] at k ⊢; exact hq _ _ _ _ k
  | .loop c, Q, Q', _, _, _, ⟨I, k, h0, hI⟩, hq => ⟨I, k, h0, fun k σ ds h hi => w_mono (c := c) (hI k σ ds h hi) fun r σ ds h q => by
    cases r with
    | normal => exact q
    | exit i => exact hq _ _ _ _ q
    | ret => exact hq _ _ _ _ q⟩
  | .exit id, _, _, _, _, _, hw, hq => hq _ _ _ _ hw
  | .ret, _, _, _, _, _, hw, hq => hq _ _ _ _ hw
  | .go n f params assign body, Q, Q', σ, ds, h, hw, hq => by
    simp only [wpC, wpGo] at hw ⊢
    split at hw
    · intro tmps ht
      refine (hw tmps ht).mono fun v h' => ?_
      rintro ⟨r, h1, h2, h3⟩
      refine ⟨r, h1, h2, ?_⟩
      split at h3
      · exact hq _ _ _ _ h3
      · exact hq _ _ _ _ h3
      · exact hq _ _ _ _ h3
      · exact h3
    · exact hw


/-! ### rows -/

variable (P S) in
def wpN (r : RN) (d : Option Nat) (l : List CEnt) (Q : Post) (σ : Sg) (ds : List ADef) : Prop :=
  wpR P S r (fun v h => wpOps P S l Q (upd σ d v) ds h) (fun df h => wpOps P S l Q (upd σ d aundef) (df :: ds) h)
variable (P S) in
def wpGd (v : AV) (w : Bool) (c : COp) (d : Option Nat) (l : List CEnt) (Q : Post) (σ : Sg) (ds : List ADef) (h : AH) : Prop :=
  wpGu v w (wpN P S (evS P c σ h) d l Q σ ds) (wpOps P S l Q (upd σ d aundef) ds h)
variable (P S) in
def Kcall (d : Option Nat) (l : List CEnt) (Q : Post) (σ : Sg) (ds : List ADef) (v : AV) (h : AH) : Prop := wpOps P S l Q (upd σ d v) ds h

@[simp] theorem wpOps_nil : wpOps P S [] Q σ ds h = Q .normal σ ds h := nr rfl
@[simp] theorem wpOps_row (d : Option Nat) (c : COp) (l : List CEnt) : wpOps P S (.row ⟨d, none, c⟩ :: l) Q σ ds h = wpN P S (evS P c σ h) d l Q σ ds := nr rfl
@[simp] theorem wpOps_guard (d : Option Nat) (t : Nat) (w : Bool) (c : COp) (l : List CEnt) : wpOps P S (.row ⟨d, some (t, w), c⟩ :: l) Q σ ds h = wpGd P S (σ t) w c d l Q σ ds h := nr rfl
@[simp] theorem wpOps_stage (re : List CRow) (l : List CEnt) : wpOps P S (.stage re :: l) Q σ ds h = (wpAgain P re σ h ∧ wpOps P S l Q σ ds h) := nr rfl

@[simp] theorem wpN_value (d : Option Nat) (l : List CEnt) (v : AV) : wpN P S (.ok (.value v, h)) d l Q σ ds = wpOps P S l Q (upd σ d v) ds h := nr rfl
@[simp] theorem wpN_okV (d : Option Nat) (l : List CEnt) (v : AV) : wpN P S (okV v h) d l Q σ ds = wpOps P S l Q (upd σ d v) ds h := nr rfl
@[simp] theorem wpN_keep (d : Option Nat) (l : List CEnt) (v : AV) : wpN P S (keepH h (.ok v)) d l Q σ ds = wpOps P S l Q (upd σ d v) ds h := nr rfl
@[simp] theorem wpN_skip (d : Option Nat) (l : List CEnt) : wpN P S (skipH (.ok h)) d l Q σ ds = wpOps P S l Q (upd σ d aundef) ds h := nr rfl
@[simp] theorem wpN_enter (d : Option Nat) (l : List CEnt) (f : FuncId) (args : List AV) : wpN P S (.ok (.enter f args, h)) d l Q σ ds = Ev P S (.fn f) args h (Kcall P S d l Q σ ds) := nr rfl
@[simp] theorem wpN_yield (d : Option Nat) (l : List CEnt) (f : Nat) (args : List AV) : wpN P S (.ok (.yield f args, h)) d l Q σ ds = Ev P S (.yield f) args h (Kcall P S d l Q σ ds) := nr rfl
@[simp] theorem Kcall_app (d : Option Nat) (l : List CEnt) (v : AV) : Kcall P S d l Q σ ds v h = wpOps P S l Q (upd σ d v) ds h := nr rfl

@[simp] theorem wpGd_tt (c : COp) (d : Option Nat) (l : List CEnt) : wpGd P S (.bool true) true c d l Q σ ds h = wpN P S (evS P c σ h) d l Q σ ds := nr rfl
@[simp] theorem wpGd_ff (c : COp) (d : Option Nat) (l : List CEnt) : wpGd P S (.bool false) false c d l Q σ ds h = wpN P S (evS P c σ h) d l Q σ ds := nr rfl
@[simp] theorem wpGd_tf (c : COp) (d : Option Nat) (l : List CEnt) : wpGd P S (.bool true) false c d l Q σ ds h = wpOps P S l Q (upd σ d aundef) ds h := nr rfl
@[simp] theorem wpGd_un (w : Bool) (c : COp) (d : Option Nat) (l : List CEnt) : wpGd P S aundef w c d l Q σ ds h = wpOps P S l Q (upd σ d aundef) ds h := nr rfl
@[simp] theorem wpGd_ft (c : COp) (d : Option Nat) (l : List CEnt) : wpGd P S (.bool false) true c d l Q σ ds h = wpOps P S l Q (upd σ d aundef) ds h := nr rfl

/-- by cases on a truth that a guard or a branch hangs on -/
theorem by_dec {G : AV → Prop} {p : Prop} [Decidable p] (hx : p → G (.bool true)) (hy : ¬ p → G (.bool false)) : G (.bool (decide p)) := by
  by_cases hp : p
  · simp only [hp, decide_true]; exact hx hp
  · simp only [hp, decide_false]; exact hy hp

variable (P S) in
def resK (r : R (List AV)) (K : AV → AH → Prop) (h : AH) : Prop :=
  match r with
  | .ok l => K (oneOf l) h
  | .error _ => False

@[simp] theorem resK_ok (l : List AV) (K : AV → AH → Prop) : resK (.ok l) K h = K (oneOf l) h := nr rfl

theorem resK_eq (r : R (List AV)) (K : AV → AH → Prop) : (∃ l, r = .ok l ∧ K (oneOf l) h) = resK r K h := by
  cases r with
  | error e => simp [resK]
  | ok l => simp [resK]

@[simp] theorem Kfin_normal (res : List CRes) (K : AV → AH → Prop) : Kfin P S res K .normal σ [] h = resK (resS h σ res) K h := resK_eq _ _
@[simp] theorem Kfin_ret (res : List CRes) (K : AV → AH → Prop) : Kfin P S res K .ret σ [] h = resK (resS h σ res) K h := resK_eq _ _
@[simp] theorem resS_nil : resS h σ [] = .ok [] := nr rfl
@[simp] theorem resS_tmp (t : Nat) (l : List CRes) : resS h σ (.tmp t :: l) = match resS h σ l with | .ok r => .ok (σ t :: r) | .error e => .error e := nr rfl
@[simp] theorem oneOf_one (v : AV) : oneOf [v] = v := nr rfl
@[simp] theorem oneOf_nil : oneOf [] = .tuple [] := nr rfl
@[simp] theorem oneOf_two (v u : AV) (l : List AV) : oneOf (v :: u :: l) = .tuple (v :: u :: l) := nr rfl

/-! ### operations -/

@[simp] theorem evS_move (x : _) : evS P (.move x) σ h = okV (x.evS σ) h := nr rfl
@[simp] theorem evS_pick (c : _) (x : _) (y : _) : evS P (.pick c x y) σ h = keepH h (opPick (c.evS σ) (x.evS σ) (y.evS σ)) := nr rfl
@[simp] theorem evS_new (z : _) : evS P (.new z) σ h = opNew z h := nr rfl
@[simp] theorem evS_box (x : _) : evS P (.box x) σ h = opNew (x.evS σ).cells h := nr rfl
@[simp] theorem evS_build (z : _) (pl : _) : evS P (.build z pl) σ h = keepH h (opBuildS z pl σ) := nr rfl
@[simp] theorem evS_buildSlice (len : _) (es : _) (z : _) (pl : _) : evS P (.buildSlice len es z pl) σ h = opBuildSliceS len es z pl σ h := nr rfl
@[simp] theorem evS_load1 (x : _) : evS P (.load1 x) σ h = opLoad1 (x.evS σ) h := nr rfl
@[simp] theorem evS_loadN (n : _) (x : _) : evS P (.loadN n x) σ h = opLoadN n (x.evS σ) h := nr rfl
@[simp] theorem evS_store (n : _) (x : _) (y : _) : evS P (.store n x y) σ h = opStore n (x.evS σ) (y.evS σ) h := nr rfl
@[simp] theorem evS_nilCheck (x : _) : evS P (.nilCheck x) σ h = opNilCheck (x.evS σ) h := nr rfl
@[simp] theorem evS_bin (op : _) (t : _) (lit : _) (x : _) (y : _) : evS P (.bin op t lit x y) σ h = keepH h (opBin P op t lit (x.evS σ) (y.evS σ)) := nr rfl
@[simp] theorem evS_un (op : _) (x : _) : evS P (.un op x) σ h = keepH h (opUn op (x.evS σ)) := nr rfl
@[simp] theorem evS_conv (c : _) (x : _) : evS P (.conv c x) σ h = opConv c (x.evS σ) h := nr rfl
@[simp] theorem evS_mkI (t : _) (x : _) : evS P (.mkI t x) σ h = okV (.iface t (x.evS σ)) h := nr rfl
@[simp] theorem evS_mkF (f : _) (first : _) (captured : _) : evS P (.mkF f first captured) σ h = okV (.func (.func f) (evLS σ first) (evLS σ captured)) h := nr rfl
@[simp] theorem evS_mkM (r : _) : evS P (.mkM r) σ h = opMkM (evOS σ r) h := nr rfl
@[simp] theorem evS_mkS (es : _) (bytes : _) (z : _) (l : _) (c : _) : evS P (.mkS es bytes z l c) σ h = opMkS es bytes z (l.evS σ) (c.evS σ) h := nr rfl
@[simp] theorem evS_sliceS (x : _) (lo : _) (hi : _) : evS P (.sliceS x lo hi) σ h = keepH h (opSliceS (x.evS σ) (evOS σ lo) (evOS σ hi)) := nr rfl
@[simp] theorem evS_sliceV (es : _) (x : _) (lo : _) (hi : _) (mx : _) : evS P (.sliceV es x lo hi mx) σ h = keepH h (opSliceV es (x.evS σ) (evOS σ lo) (evOS σ hi) (evOS σ mx)) := nr rfl
@[simp] theorem evS_sliceA (n : _) (es : _) (x : _) (lo : _) (hi : _) (mx : _) : evS P (.sliceA n es x lo hi mx) σ h = keepH h (opSliceA n es h (x.evS σ) (evOS σ lo) (evOS σ hi) (evOS σ mx)) := nr rfl
@[simp] theorem evS_fieldAddr (off : _) (x : _) : evS P (.fieldAddr off x) σ h = keepH h (opFieldAddr off (x.evS σ)) := nr rfl
@[simp] theorem evS_field1 (off : _) (x : _) : evS P (.field1 off x) σ h = keepH h (aggOne (x.evS σ) off) := nr rfl
@[simp] theorem evS_fieldN (off : _) (n : _) (x : _) : evS P (.fieldN off n x) σ h = keepH h (aggPart (x.evS σ) off n) := nr rfl
@[simp] theorem evS_idxA (len : _) (es : _) (x : _) (i : _) : evS P (.idxA len es x i) σ h = keepH h (opIdxA len es (x.evS σ) (i.evS σ)) := nr rfl
@[simp] theorem evS_idxV (es : _) (x : _) (i : _) : evS P (.idxV es x i) σ h = keepH h (opIdxV es (x.evS σ) (i.evS σ)) := nr rfl
@[simp] theorem evS_index1 (len : _) (es : _) (x : _) (i : _) : evS P (.index1 len es x i) σ h = keepH h (opIndex true len es (x.evS σ) (i.evS σ)) := nr rfl
@[simp] theorem evS_indexN (len : _) (es : _) (x : _) (i : _) : evS P (.indexN len es x i) σ h = keepH h (opIndex false len es (x.evS σ) (i.evS σ)) := nr rfl
@[simp] theorem evS_indexS (x : _) (i : _) : evS P (.indexS x i) σ h = keepH h (opIndexS (x.evS σ) (i.evS σ)) := nr rfl
@[simp] theorem evS_lookup (kt : _) (z : _) (ok : _) (x : _) (k : _) : evS P (.lookup kt z ok x k) σ h = keepH h (opLookup P kt z ok h (x.evS σ) (k.evS σ)) := nr rfl
@[simp] theorem evS_upd (kt : _) (m : _) (k : _) (v : _) : evS P (.upd kt m k v) σ h = skipH (opUpd P kt h (m.evS σ) (k.evS σ) (v.evS σ)) := nr rfl
@[simp] theorem evS_mapEntry (kt : _) (z : _) (m : _) (k : _) : evS P (.mapEntry kt z m k) σ h = opMapEntry P kt z h (m.evS σ) (k.evS σ) := nr rfl
@[simp] theorem evS_entryStore (m : _) (t : _) (v : _) : evS P (.entryStore m t v) σ h = skipH (opEntryStore h (m.evS σ) (t.evS σ) (v.evS σ)) := nr rfl
@[simp] theorem evS_rangeS (x : _) : evS P (.rangeS x) σ h = opRangeS h (x.evS σ) := nr rfl
@[simp] theorem evS_rangeM (x : _) : evS P (.rangeM x) σ h = opRangeM h (x.evS σ) := nr rfl
@[simp] theorem evS_next (it : _) (b : _) : evS P (.next it b) σ h = opNext h (it.evS σ) b := nr rfl
@[simp] theorem evS_entry (it : _) : evS P (.entry it) σ h = keepH h (opEntry h (it.evS σ)) := nr rfl
@[simp] theorem evS_tassert (x : _) (t : _) (ok : _) : evS P (.tassert x t ok) σ h = keepH h (opTypeAssert P (x.evS σ) t ok) := nr rfl
@[simp] theorem evS_extract (x : _) (i : _) : evS P (.extract x i) σ h = keepH h (opExtract (x.evS σ) i) := nr rfl
@[simp] theorem evS_app (es : _) (bytes : _) (x : _) (y : _) : evS P (.app es bytes x y) σ h = opApp es bytes (x.evS σ) (y.evS σ) h := nr rfl
@[simp] theorem evS_appZ (es : _) (bytes : _) (z : _) (x : _) (y : _) : evS P (.appZ es bytes z x y) σ h = opAppZ es bytes z (x.evS σ) (y.evS σ) h := nr rfl
@[simp] theorem evS_lenK (n : _) : evS P (.lenK n) σ h = okV (.int .i64 (.ofNat n)) h := nr rfl
@[simp] theorem evS_lenS (x : _) : evS P (.lenS x) σ h = keepH h (opLenS (x.evS σ)) := nr rfl
@[simp] theorem evS_lenV (x : _) : evS P (.lenV x) σ h = keepH h (opLenV (x.evS σ)) := nr rfl
@[simp] theorem evS_lenM (x : _) : evS P (.lenM x) σ h = keepH h (opLenM h (x.evS σ)) := nr rfl
@[simp] theorem evS_capV (x : _) : evS P (.capV x) σ h = keepH h (opCapV (x.evS σ)) := nr rfl
@[simp] theorem evS_copy (es : _) (d : _) (x : _) : evS P (.copy es d x) σ h = opCopy es (d.evS σ) (x.evS σ) h := nr rfl
@[simp] theorem evS_clear (es : Nat) (z : List AV) (x : _) : evS P (.clear es z x) σ h = opClear es z (x.evS σ) h := nr rfl
@[simp] theorem evS_delete (kt : _) (m : _) (k : _) : evS P (.delete kt m k) σ h = opDelete P kt (m.evS σ) (k.evS σ) h := nr rfl
@[simp] theorem evS_mm (isMax : _) (x : _) (l : _) : evS P (.mm isMax x l) σ h = keepH h (foldMM isMax (x.evS σ) (evLS σ l)) := nr rfl
@[simp] theorem evS_callV (f : _) (args : _) : evS P (.callV f args) σ h = callVal (f.evS σ) (evLS σ args) h := nr rfl
@[simp] theorem evS_callM (r : _) (name : _) (args : _) : evS P (.callM r name args) σ h = callMeth P (r.evS σ) name (evLS σ args) h := nr rfl
@[simp] theorem evS_defer (f : _) (args : _) : evS P (.defer f args) σ h = opDefer (f.evS σ) (evLS σ args) h := nr rfl
@[simp] theorem opPick_true (a b : AV) : opPick (.bool true) a b = .ok a := nr rfl
@[simp] theorem opPick_false (a b : AV) : opPick (.bool false) a b = .ok b := nr rfl
@[simp] theorem opExtract_zero (a : AV) (l : List AV) : opExtract (.tuple (a :: l)) 0 = .ok a := nr rfl
@[simp] theorem opExtract_one (a b : AV) (l : List AV) : opExtract (.tuple (a :: b :: l)) 1 = .ok b := nr rfl
@[simp] theorem opExtract_two (a b c : AV) (l : List AV) : opExtract (.tuple (a :: b :: c :: l)) 2 = .ok c := nr rfl
@[simp] theorem opExtract_three (a b c d : AV) (l : List AV) : opExtract (.tuple (a :: b :: c :: d :: l)) 3 = .ok d := nr rfl
@[simp] theorem opFieldAddr_ptr (off id o : Nat) : opFieldAddr off (.ptr id o) = .ok (.ptr id (o + off)) := nr rfl

@[simp] theorem opNew_eq (z : List AV) : opNew z h = okV (.ptr h.next 0) (h.push (.cells z false)) := nr rfl
@[simp] theorem opLoad1_ptr (id off : Nat) : opLoad1 (.ptr id off) h = keepH h (load1 h id off) := nr rfl
@[simp] theorem opNilCheck_ptr (id off : Nat) : opNilCheck (.ptr id off) h = okV (.ptr id off) h := nr rfl
@[simp] theorem opNilCheck_map (id : Nat) : opNilCheck (.map id) h = okV (.map id) h := nr rfl
@[simp] theorem opLenV_nils : opLenV .nils = .ok (.int .i64 0) := nr rfl
@[simp] theorem opLenV_slice (id off n cap : Nat) (x : Bool) (es : Nat) : opLenV (.slice id off n cap x es) = .ok (.int .i64 (n : Int)) := nr rfl
@[simp] theorem opLenS_str (s : List UInt8) : opLenS (.str s) = .ok (.int .i64 (s.length : Int)) := nr rfl
@[simp] theorem opIdxV_slice (es id off len cap : Nat) (x : Bool) (k : IntKind) (i : Int) (hi : 0 ≤ i ∧ i < len) :
    opIdxV es (.slice id off len cap x es) (.int k i) = .ok (.ptr id (off + i.toNat * es)) := by simp [opIdxV, hi]
@[simp] theorem opIdxA_ptr (len es id off : Nat) (k : IntKind) (i : Int) (hi : 0 ≤ i ∧ i < len) : opIdxA len es (.ptr id off) (.int k i) = .ok (.ptr id (off + i.toNat * es)) := by simp [opIdxA, hi]

@[simp] theorem bin_add (t : TypeId) (lit : Bool) (k : IntKind) (a b : Int) : opBin P .add t lit (.int k a) (.int k b) = .ok (.int k (wrapF k (a + b))) := by simp [opBin, isShift, intOp]
@[simp] theorem bin_sub (t : TypeId) (lit : Bool) (k : IntKind) (a b : Int) : opBin P .sub t lit (.int k a) (.int k b) = .ok (.int k (wrapF k (a - b))) := by simp [opBin, isShift, intOp]
@[simp] theorem bin_mul (t : TypeId) (lit : Bool) (k : IntKind) (a b : Int) : opBin P .mul t lit (.int k a) (.int k b) = .ok (.int k (wrapF k (a * b))) := by simp [opBin, isShift, intOp]
@[simp] theorem bin_quo (t : TypeId) (lit : Bool) (k : IntKind) (a b : Int) (hb : b ≠ 0) : opBin P .quo t lit (.int k a) (.int k b) = .ok (.int k (wrapF k (a.tdiv b))) := by simp [opBin, isShift, intOp, hb]
@[simp] theorem bin_rem (t : TypeId) (lit : Bool) (k : IntKind) (a b : Int) (hb : b ≠ 0) : opBin P .rem t lit (.int k a) (.int k b) = .ok (.int k (a.tmod b)) := by simp [opBin, isShift, intOp, hb]
theorem bin_and (t : TypeId) (lit : Bool) (k : IntKind) (a b : Int) : opBin P .and t lit (.int k a) (.int k b) = .ok (.int k (wrapF k (BitVec.ofInt k.bits a &&& BitVec.ofInt k.bits b).toNat)) := by simp [opBin, isShift, intOp]
theorem bin_or (t : TypeId) (lit : Bool) (k : IntKind) (a b : Int) : opBin P .or t lit (.int k a) (.int k b) = .ok (.int k (wrapF k (BitVec.ofInt k.bits a ||| BitVec.ofInt k.bits b).toNat)) := by simp [opBin, isShift, intOp]
theorem bin_xor (t : TypeId) (lit : Bool) (k : IntKind) (a b : Int) : opBin P .xor t lit (.int k a) (.int k b) = .ok (.int k (wrapF k (BitVec.ofInt k.bits a ^^^ BitVec.ofInt k.bits b).toNat)) := by simp [opBin, isShift, intOp]
@[simp] theorem bin_eql (t : TypeId) (lit : Bool) (k : IntKind) (a b : Int) : opBin P .eql t lit (.int k a) (.int k b) = .ok (.bool (decide (a = b))) := by
  simp only [opBin, isShift, intOp, cmpOp]
  by_cases h : a = b <;> simp [h]
@[simp] theorem bin_neq (t : TypeId) (lit : Bool) (k : IntKind) (a b : Int) : opBin P .neq t lit (.int k a) (.int k b) = .ok (.bool (decide (¬ a = b))) := by
  simp only [opBin, isShift, intOp, cmpOp]
  by_cases h : a = b <;> simp [h]
@[simp] theorem bin_lss (t : TypeId) (lit : Bool) (k : IntKind) (a b : Int) : opBin P .lss t lit (.int k a) (.int k b) = .ok (.bool (decide (a < b))) := by simp [opBin, isShift, intOp, cmpOp]
@[simp] theorem bin_leq (t : TypeId) (lit : Bool) (k : IntKind) (a b : Int) : opBin P .leq t lit (.int k a) (.int k b) = .ok (.bool (decide (a ≤ b))) := by simp [opBin, isShift, intOp, cmpOp]
@[simp] theorem bin_gtr (t : TypeId) (lit : Bool) (k : IntKind) (a b : Int) : opBin P .gtr t lit (.int k a) (.int k b) = .ok (.bool (decide (b < a))) := by simp [opBin, isShift, intOp, cmpOp]
@[simp] theorem bin_geq (t : TypeId) (lit : Bool) (k : IntKind) (a b : Int) : opBin P .geq t lit (.int k a) (.int k b) = .ok (.bool (decide (b ≤ a))) := by simp [opBin, isShift, intOp, cmpOp]
theorem bin_shl (t : TypeId) (lit : Bool) (k k' : IntKind) (a b : Int) (hb : 0 ≤ b) : opBin P .shl t lit (.int k a) (.int k' b) = .ok (.int k (wrapF k (a * 2 ^ min b.toNat k.bits))) := by
  have : ¬ b < 0 := by omega
  simp [opBin, isShift, shiftOp, this]
theorem bin_shr (t : TypeId) (lit : Bool) (k k' : IntKind) (a b : Int) (hb : 0 ≤ b) : opBin P .shr t lit (.int k a) (.int k' b) = .ok (.int k (a.fdiv (2 ^ min b.toNat k.bits))) := by
  have : ¬ b < 0 := by omega
  simp [opBin, isShift, shiftOp, this]
@[simp] theorem bin_and_u8 (t : TypeId) (lit : Bool) (a b : Int) : opBin P .and t lit (.int .u8 a) (.int .u8 b) = .ok (.int .u8 (wrapF .u8 (BitVec.ofInt 8 a &&& BitVec.ofInt 8 b).toNat)) := bin_and t lit .u8 a b
@[simp] theorem bin_and_u16 (t : TypeId) (lit : Bool) (a b : Int) : opBin P .and t lit (.int .u16 a) (.int .u16 b) = .ok (.int .u16 (wrapF .u16 (BitVec.ofInt 16 a &&& BitVec.ofInt 16 b).toNat)) := bin_and t lit .u16 a b
@[simp] theorem bin_and_u32 (t : TypeId) (lit : Bool) (a b : Int) : opBin P .and t lit (.int .u32 a) (.int .u32 b) = .ok (.int .u32 (wrapF .u32 (BitVec.ofInt 32 a &&& BitVec.ofInt 32 b).toNat)) := bin_and t lit .u32 a b
@[simp] theorem bin_and_u64 (t : TypeId) (lit : Bool) (a b : Int) : opBin P .and t lit (.int .u64 a) (.int .u64 b) = .ok (.int .u64 (wrapF .u64 (BitVec.ofInt 64 a &&& BitVec.ofInt 64 b).toNat)) := bin_and t lit .u64 a b
@[simp] theorem bin_and_i64 (t : TypeId) (lit : Bool) (a b : Int) : opBin P .and t lit (.int .i64 a) (.int .i64 b) = .ok (.int .i64 (wrapF .i64 (BitVec.ofInt 64 a &&& BitVec.ofInt 64 b).toNat)) := bin_and t lit .i64 a b
@[simp] theorem bin_and_i32 (t : TypeId) (lit : Bool) (a b : Int) : opBin P .and t lit (.int .i32 a) (.int .i32 b) = .ok (.int .i32 (wrapF .i32 (BitVec.ofInt 32 a &&& BitVec.ofInt 32 b).toNat)) := bin_and t lit .i32 a b
@[simp] theorem bin_or_u8 (t : TypeId) (lit : Bool) (a b : Int) : opBin P .or t lit (.int .u8 a) (.int .u8 b) = .ok (.int .u8 (wrapF .u8 (BitVec.ofInt 8 a ||| BitVec.ofInt 8 b).toNat)) := bin_or t lit .u8 a b
@[simp] theorem bin_or_u16 (t : TypeId) (lit : Bool) (a b : Int) : opBin P .or t lit (.int .u16 a) (.int .u16 b) = .ok (.int .u16 (wrapF .u16 (BitVec.ofInt 16 a ||| BitVec.ofInt 16 b).toNat)) := bin_or t lit .u16 a b
@[simp] theorem bin_or_u32 (t : TypeId) (lit : Bool) (a b : Int) : opBin P .or t lit (.int .u32 a) (.int .u32 b) = .ok (.int .u32 (wrapF .u32 (BitVec.ofInt 32 a ||| BitVec.ofInt 32 b).toNat)) := bin_or t lit .u32 a b
@[simp] theorem bin_or_u64 (t : TypeId) (lit : Bool) (a b : Int) : opBin P .or t lit (.int .u64 a) (.int .u64 b) = .ok (.int .u64 (wrapF .u64 (BitVec.ofInt 64 a ||| BitVec.ofInt 64 b).toNat)) := bin_or t lit .u64 a b
@[simp] theorem bin_or_i64 (t : TypeId) (lit : Bool) (a b : Int) : opBin P .or t lit (.int .i64 a) (.int .i64 b) = .ok (.int .i64 (wrapF .i64 (BitVec.ofInt 64 a ||| BitVec.ofInt 64 b).toNat)) := bin_or t lit .i64 a b
@[simp] theorem bin_or_i32 (t : TypeId) (lit : Bool) (a b : Int) : opBin P .or t lit (.int .i32 a) (.int .i32 b) = .ok (.int .i32 (wrapF .i32 (BitVec.ofInt 32 a ||| BitVec.ofInt 32 b).toNat)) := bin_or t lit .i32 a b
@[simp] theorem bin_xor_u8 (t : TypeId) (lit : Bool) (a b : Int) : opBin P .xor t lit (.int .u8 a) (.int .u8 b) = .ok (.int .u8 (wrapF .u8 (BitVec.ofInt 8 a ^^^ BitVec.ofInt 8 b).toNat)) := bin_xor t lit .u8 a b
@[simp] theorem bin_xor_u16 (t : TypeId) (lit : Bool) (a b : Int) : opBin P .xor t lit (.int .u16 a) (.int .u16 b) = .ok (.int .u16 (wrapF .u16 (BitVec.ofInt 16 a ^^^ BitVec.ofInt 16 b).toNat)) := bin_xor t lit .u16 a b
@[simp] theorem bin_xor_u32 (t : TypeId) (lit : Bool) (a b : Int) : opBin P .xor t lit (.int .u32 a) (.int .u32 b) = .ok (.int .u32 (wrapF .u32 (BitVec.ofInt 32 a ^^^ BitVec.ofInt 32 b).toNat)) := bin_xor t lit .u32 a b
@[simp] theorem bin_xor_u64 (t : TypeId) (lit : Bool) (a b : Int) : opBin P .xor t lit (.int .u64 a) (.int .u64 b) = .ok (.int .u64 (wrapF .u64 (BitVec.ofInt 64 a ^^^ BitVec.ofInt 64 b).toNat)) := bin_xor t lit .u64 a b
@[simp] theorem bin_xor_i64 (t : TypeId) (lit : Bool) (a b : Int) : opBin P .xor t lit (.int .i64 a) (.int .i64 b) = .ok (.int .i64 (wrapF .i64 (BitVec.ofInt 64 a ^^^ BitVec.ofInt 64 b).toNat)) := bin_xor t lit .i64 a b
@[simp] theorem bin_xor_i32 (t : TypeId) (lit : Bool) (a b : Int) : opBin P .xor t lit (.int .i32 a) (.int .i32 b) = .ok (.int .i32 (wrapF .i32 (BitVec.ofInt 32 a ^^^ BitVec.ofInt 32 b).toNat)) := bin_xor t lit .i32 a b
@[simp] theorem bin_shl_u8 (t : TypeId) (lit : Bool) (k' : IntKind) (a b : Int) (hb : 0 ≤ b) : opBin P .shl t lit (.int .u8 a) (.int k' b) = .ok (.int .u8 (wrapF .u8 (a * 2 ^ min b.toNat 8))) := bin_shl t lit .u8 k' a b hb
@[simp] theorem bin_shr_u8 (t : TypeId) (lit : Bool) (k' : IntKind) (a b : Int) (hb : 0 ≤ b) : opBin P .shr t lit (.int .u8 a) (.int k' b) = .ok (.int .u8 (a.fdiv (2 ^ min b.toNat 8))) := bin_shr t lit .u8 k' a b hb
@[simp] theorem bin_shl_u16 (t : TypeId) (lit : Bool) (k' : IntKind) (a b : Int) (hb : 0 ≤ b) : opBin P .shl t lit (.int .u16 a) (.int k' b) = .ok (.int .u16 (wrapF .u16 (a * 2 ^ min b.toNat 16))) := bin_shl t lit .u16 k' a b hb
@[simp] theorem bin_shr_u16 (t : TypeId) (lit : Bool) (k' : IntKind) (a b : Int) (hb : 0 ≤ b) : opBin P .shr t lit (.int .u16 a) (.int k' b) = .ok (.int .u16 (a.fdiv (2 ^ min b.toNat 16))) := bin_shr t lit .u16 k' a b hb
@[simp] theorem bin_shl_u32 (t : TypeId) (lit : Bool) (k' : IntKind) (a b : Int) (hb : 0 ≤ b) : opBin P .shl t lit (.int .u32 a) (.int k' b) = .ok (.int .u32 (wrapF .u32 (a * 2 ^ min b.toNat 32))) := bin_shl t lit .u32 k' a b hb
@[simp] theorem bin_shr_u32 (t : TypeId) (lit : Bool) (k' : IntKind) (a b : Int) (hb : 0 ≤ b) : opBin P .shr t lit (.int .u32 a) (.int k' b) = .ok (.int .u32 (a.fdiv (2 ^ min b.toNat 32))) := bin_shr t lit .u32 k' a b hb
@[simp] theorem bin_shl_u64 (t : TypeId) (lit : Bool) (k' : IntKind) (a b : Int) (hb : 0 ≤ b) : opBin P .shl t lit (.int .u64 a) (.int k' b) = .ok (.int .u64 (wrapF .u64 (a * 2 ^ min b.toNat 64))) := bin_shl t lit .u64 k' a b hb
@[simp] theorem bin_shr_u64 (t : TypeId) (lit : Bool) (k' : IntKind) (a b : Int) (hb : 0 ≤ b) : opBin P .shr t lit (.int .u64 a) (.int k' b) = .ok (.int .u64 (a.fdiv (2 ^ min b.toNat 64))) := bin_shr t lit .u64 k' a b hb
@[simp] theorem bin_shl_i64 (t : TypeId) (lit : Bool) (k' : IntKind) (a b : Int) (hb : 0 ≤ b) : opBin P .shl t lit (.int .i64 a) (.int k' b) = .ok (.int .i64 (wrapF .i64 (a * 2 ^ min b.toNat 64))) := bin_shl t lit .i64 k' a b hb
@[simp] theorem bin_shr_i64 (t : TypeId) (lit : Bool) (k' : IntKind) (a b : Int) (hb : 0 ≤ b) : opBin P .shr t lit (.int .i64 a) (.int k' b) = .ok (.int .i64 (a.fdiv (2 ^ min b.toNat 64))) := bin_shr t lit .i64 k' a b hb
@[simp] theorem bin_shl_i32 (t : TypeId) (lit : Bool) (k' : IntKind) (a b : Int) (hb : 0 ≤ b) : opBin P .shl t lit (.int .i32 a) (.int k' b) = .ok (.int .i32 (wrapF .i32 (a * 2 ^ min b.toNat 32))) := bin_shl t lit .i32 k' a b hb
@[simp] theorem bin_shr_i32 (t : TypeId) (lit : Bool) (k' : IntKind) (a b : Int) (hb : 0 ≤ b) : opBin P .shr t lit (.int .i32 a) (.int k' b) = .ok (.int .i32 (a.fdiv (2 ^ min b.toNat 32))) := bin_shr t lit .i32 k' a b hb
@[simp] theorem un_not (b : Bool) : opUn .not (.bool b) = .ok (.bool !b) := nr rfl
@[simp] theorem un_neg (k : IntKind) (n : Int) : opUn .neg (.int k n) = .ok (.int k (wrapF k (0 - n))) := nr rfl
@[simp] theorem conv_int (k k' : IntKind) (n : Int) : opConv (.int k) (.int k' n) h = okV (.int k (wrapF k n)) h := nr rfl
@[simp] theorem mm_min (k k' : IntKind) (a b : Int) : foldMM false (.int k a) [.int k' b] = .ok (.int k (min a b)) := by
  simp only [foldMM, mm2]
  congr 2
  by_cases h : b < a
  · rw [if_pos h, Int.min_def, if_neg (by omega)]
  · rw [if_neg h, Int.min_def, if_pos (by omega)]
@[simp] theorem mm_max (k k' : IntKind) (a b : Int) : foldMM true (.int k a) [.int k' b] = .ok (.int k (max a b)) := by
  simp only [foldMM, mm2]
  congr 2
  by_cases h : b > a
  · rw [if_pos h, Int.max_def, if_pos (by omega)]
  · rw [if_neg h, Int.max_def]
    by_cases h' : a ≤ b
    · rw [if_pos h']; omega
    · rw [if_neg h']

@[simp] theorem callVal_fn (f : FuncId) (first captured args : List AV) : callVal (.func (.func f) first captured) args h = .ok (.enter f ((first ++ args) ++ captured), h) := nr rfl
@[simp] theorem callVal_yield (l : Nat) (args : List AV) : callVal (.func (.yield l) [] []) args h = .ok (.yield l args, h) := nr rfl

theorem wrap_i64 {n : Int} (h1 : -9223372036854775808 ≤ n) (h2 : n < 9223372036854775808) : wrapF .i64 n = n := by rw [wrapF_eq]; exact IntWalk.i64_in n ⟨h1, by omega⟩
theorem wrap_i32 {n : Int} (h1 : -2147483648 ≤ n) (h2 : n < 2147483648) : wrapF .i32 n = n := by rw [wrapF_eq]; exact IntWalk.i32_in n ⟨h1, by omega⟩
theorem wrap_u8 {n : Int} (h1 : 0 ≤ n) (h2 : n < 256) : wrapF .u8 n = n := by rw [wrapF_eq]; exact IntWalk.u8_in n ⟨h1, by omega⟩
theorem wrap_u16 {n : Int} (h1 : 0 ≤ n) (h2 : n < 65536) : wrapF .u16 n = n := by rw [wrapF_eq]; exact IntWalk.u16_in n ⟨h1, by omega⟩
theorem wrap_u32 {n : Int} (h1 : 0 ≤ n) (h2 : n < 4294967296) : wrapF .u32 n = n := by rw [wrapF_eq]; exact IntWalk.u32_in n ⟨h1, by omega⟩
theorem wrap_u64 {n : Int} (h1 : 0 ≤ n) (h2 : n < 18446744073709551616) : wrapF .u64 n = n := by rw [wrapF_eq]; exact IntWalk.u64_in n ⟨h1, by omega⟩
theorem wrap8 (n : Int) : wrapF .u8 n = n % 256 := by rw [wrapF_eq, IntKind.wrap_u8]
theorem wrap32 (n : Int) : wrapF .u32 n = n % 4294967296 := by rw [wrapF_eq, IntKind.wrap_u32]
theorem wrap64 (n : Int) : wrapF .u64 n = n % 18446744073709551616 := by rw [wrapF_eq, IntKind.wrap_u64]

/-! ### the heap -/

theorem get_push_old {o : AObj} {i : Nat} (hi : i ≠ h.next) : (h.push o).get i = h.get i := by rw [AH.get_push, if_neg hi]
@[simp] theorem get_push_new (o : AObj) : (h.push o).get h.next = some o := by rw [AH.get_push, if_pos rfl]
theorem get_set_old {o : AObj} {i j : Nat} (hi : i ≠ j) : (h.set j o).get i = h.get i := by rw [AH.get_set, if_neg hi]
@[simp] theorem get_set_new (o : AObj) (j : Nat) : (h.set j o).get j = some o := by rw [AH.get_set, if_pos rfl]
theorem get_kill_old {i j : Nat} (hi : i ≠ j) : (h.kill j).get i = h.get i := by rw [AH.get_kill, if_neg hi]

/-- all that lay below stays -/
structure Fr (h h' : AH) : Prop where
  next : h.next ≤ h'.next
  get : ∀ i, i < h.next → h'.get i = h.get i

theorem Fr.refl (h : AH) : Fr h h := ⟨Nat.le_refl _, fun _ _ => rfl⟩
theorem Fr.trans {h1 h2 h3 : AH} (a : Fr h1 h2) (b : Fr h2 h3) : Fr h1 h3 :=
  ⟨Nat.le_trans a.next b.next, fun i hi => (b.get i (Nat.lt_of_lt_of_le hi a.next)).trans (a.get i hi)⟩
theorem Fr.push {h1 : AH} (a : Fr h1 h) (o : AObj) : Fr h1 (h.push o) :=
  ⟨Nat.le_succ_of_le a.next, fun i hi => by rw [get_push_old (by have := a.next; omega)]; exact a.get i hi⟩
theorem Fr.set {h1 : AH} (a : Fr h1 h) {j : Nat} (o : AObj) (hj : h1.next ≤ j) : Fr h1 (h.set j o) :=
  ⟨a.next, fun i hi => by rw [get_set_old (by omega)]; exact a.get i hi⟩
theorem Fr.kill {h1 : AH} (a : Fr h1 h) {j : Nat} (hj : h1.next ≤ j) : Fr h1 (h.kill j) :=
  ⟨a.next, fun i hi => by rw [get_kill_old (by omega)]; exact a.get i hi⟩

/-- a slice of n elements of es cells each, and its cells -/
def Sl (h : AH) (es n : Nat) (v : AV) (l : List AV) : Prop :=
  l.length = n * es ∧ ((v = .nils ∧ n = 0) ∨ ∃ id off cap x vs ro, v = .slice id off n cap x es ∧ id < h.next ∧ n ≤ cap ∧ h.get id = some (.cells vs ro) ∧ off + n * es ≤ vs.length ∧ (vs.drop off).take (n * es) = l)

theorem Sl.nil (es : Nat) : Sl h es 0 .nils [] := ⟨by simp, .inl ⟨rfl, rfl⟩⟩

theorem Sl.fr {h h' : AH} {es n : Nat} {v : AV} {l : List AV} (s : Sl h es n v l) (f : Fr h h') : Sl h' es n v l := by
  refine ⟨s.1, ?_⟩
  rcases s.2 with e | ⟨id, off, cap, x, vs, ro, e1, e2, e6, e3, e4, e5⟩
  · exact .inl e
  · exact .inr ⟨id, off, cap, x, vs, ro, e1, Nat.lt_of_lt_of_le e2 f.next, e6, by rw [f.get id e2]; exact e3, e4, e5⟩

theorem Sl.len {es n : Nat} {v : AV} {l : List AV} (s : Sl h es n v l) : opLenV v = .ok (.int .i64 (n : Int)) := by
  rcases s.2 with ⟨rfl, rfl⟩ | ⟨id, off, cap, x, vs, ro, rfl, _⟩ <;> rfl

theorem Sl.get {es n : Nat} {v : AV} {l : List AV} (s : Sl h es n v l) {k : IntKind} {i : Int} {j : Nat} (hi : i = j) (hj : j < n) :
    ∃ id o, opIdxV es v (.int k i) = .ok (.ptr id o) ∧ (∀ c, c < es → load1 h id (o + c) = ofO "load: out of the known cells" l[j * es + c]?) ∧ loadN h id o es = .ok ((l.drop (j * es)).take es) := by
  subst hi
  rcases s.2 with ⟨rfl, rfl⟩ | ⟨id, off, cap, x, vs, ro, rfl, e2, e6, e3, e4, rfl⟩
  · omega
  · have hle : j * es + es ≤ n * es := by
      have := Nat.mul_le_mul_right es (show j + 1 ≤ n from hj)
      rw [Nat.add_mul, Nat.one_mul] at this
      exact this
    refine ⟨id, off + j * es, by rw [opIdxV_slice _ _ _ _ _ _ _ _ ⟨by omega, by omega⟩, Int.toNat_natCast], fun c hc => ?_, ?_⟩
    · rw [List.getElem?_take, if_pos (by omega), List.getElem?_drop]
      unfold load1
      rw [e3]
      simp only []
      rw [show off + j * es + c = off + (j * es + c) from by omega]
      cases vs[off + (j * es + c)]? <;> rfl
    · have hb : Nat.ble (off + j * es + es) vs.length = true := Nat.ble_eq_true_of_le (by omega)
      simp only [loadN, e3, hb, cond_true]
      congr 1
      rw [List.drop_take, List.drop_drop, List.take_take, Nat.min_eq_left (by omega)]

/-- an element of one cell -/
theorem Sl.get1 {n : Nat} {v : AV} {l : List AV} (s : Sl h 1 n v l) {k : IntKind} {i : Int} {j : Nat} (hi : i = j) (hj : j < n) {x : AV} (hx : l[j]? = some x) :
    ∃ id o, opIdxV 1 v (.int k i) = .ok (.ptr id o) ∧ load1 h id o = .ok x ∧ ∀ h', Fr h h' → load1 h' id o = .ok x := by
  have key : ∀ g : AH, Sl g 1 n v l → ∃ id o, opIdxV 1 v (.int k i) = .ok (.ptr id o) ∧ load1 g id o = .ok x := by
    intro g s
    obtain ⟨id, o, e1, e2, _⟩ := s.get (k := k) hi hj
    refine ⟨id, o, e1, ?_⟩
    have := e2 0 (by omega)
    rw [Nat.add_zero, Nat.mul_one, Nat.add_zero, hx] at this
    exact this
  obtain ⟨id, o, e1, e2⟩ := key h s
  refine ⟨id, o, e1, e2, fun h' f => ?_⟩
  obtain ⟨id', o', e3, e4⟩ := key h' (s.fr f)
  rw [e1] at e3
  cases e3
  exact e4

theorem Sl.cells {es n : Nat} {v : AV} {l : List AV} (s : Sl h es n v l) : srcCells h es v = .ok (n, l) := by
  obtain ⟨hl, s⟩ := s
  rcases s with ⟨rfl, rfl⟩ | ⟨id, off, cap, x, vs, ro, rfl, e2, e6, e3, e4, rfl⟩
  · have : l = [] := by simpa using hl
    subst this; rfl
  · have hb : Nat.ble (off + n * es) vs.length = true := Nat.ble_eq_true_of_le e4
    simp [srcCells, loadN, e3, hb]

theorem Sl.slice {es n : Nat} {v : AV} {l : List AV} (s : Sl h es n v l) {lo hi : Option AV} {a b : Nat}
    (hlo : lo = none ∧ a = 0 ∨ ∃ k, lo = some (.int k (a : Int))) (hhi : hi = none ∧ b = n ∨ ∃ k, hi = some (.int k (b : Int))) (hab : a ≤ b) (hbn : b ≤ n) :
    ∃ v', opSliceV es v lo hi none = .ok v' ∧ Sl h es (b - a) v' ((l.drop (a * es)).take ((b - a) * es)) := by
  obtain ⟨hl, s⟩ := s
  have h1 : a * es ≤ b * es := Nat.mul_le_mul_right es hab
  have h2 : b * es ≤ n * es := Nat.mul_le_mul_right es hbn
  have hlen : ((l.drop (a * es)).take ((b - a) * es)).length = (b - a) * es := by
    rw [List.length_take, List.length_drop, hl, Nat.sub_mul]; omega
  rcases s with ⟨rfl, rfl⟩ | ⟨id, off, cap, x, vs, ro, rfl, e2, e6, e3, e4, rfl⟩
  · obtain rfl : b = 0 := by omega
    obtain rfl : a = 0 := by omega
    refine ⟨.nils, ?_, hlen, .inl ⟨rfl, rfl⟩⟩
    rcases hlo with ⟨rfl, _⟩ | ⟨k, rfl⟩ <;> rcases hhi with ⟨rfl, _⟩ | ⟨k', rfl⟩ <;> simp [opSliceV, boundsA, boundO, boundA]
  · have hm : boundO none cap cap = .ok cap := rfl
    have hb : boundO hi n cap = .ok b := by
      rcases hhi with ⟨rfl, rfl⟩ | ⟨k, rfl⟩
      · rfl
      · simp only [boundO, boundA]
        rw [if_pos ⟨by omega, by omega⟩, Int.toNat_natCast]
    have ha : boundO lo 0 b = .ok a := by
      rcases hlo with ⟨rfl, rfl⟩ | ⟨k, rfl⟩
      · rfl
      · simp only [boundO, boundA]
        rw [if_pos ⟨by omega, by omega⟩, Int.toNat_natCast]
    refine ⟨.slice id (off + a * es) (b - a) (cap - a) x es, ?_, hlen, .inr ⟨id, off + a * es, cap - a, x, vs, ro, rfl, e2, by omega, e3, ?_, ?_⟩⟩
    · simp [opSliceV, boundsA, hm, hb, ha]
    · rw [Nat.sub_mul]; omega
    · rw [List.drop_take, List.drop_drop, List.take_take, Nat.sub_mul, Nat.min_eq_left (by omega)]

/-- which block a slice lies in -/
def idOf : AV → Option Nat
  | .slice id _ _ _ _ _ => some id
  | _ => none

/-- a slice that is ours from block B on, with no spare place -/
def Own (B : Nat) (h : AH) (es n : Nat) (v : AV) (l : List AV) : Prop :=
  l.length = n * es ∧ ((v = .nils ∧ n = 0) ∨ ∃ id off x vs, v = .slice id off n n x es ∧ B ≤ id ∧ id < h.next ∧ h.get id = some (.cells vs false) ∧ off + n * es ≤ vs.length ∧ (vs.drop off).take (n * es) = l)

theorem Own.sl {B es n : Nat} {v : AV} {l : List AV} (s : Own B h es n v l) : Sl h es n v l := by
  refine ⟨s.1, ?_⟩
  rcases s.2 with e | ⟨id, off, x, vs, e1, e2, e3, e4, e5, e6⟩
  · exact .inl e
  · exact .inr ⟨id, off, n, x, vs, false, e1, e3, Nat.le_refl _, e4, e5, e6⟩

theorem Own.nil (B es : Nat) : Own B h es 0 .nils [] := ⟨by simp, .inl ⟨rfl, rfl⟩⟩

theorem Own.fr {B es n : Nat} {h' : AH} {v : AV} {l : List AV} (s : Own B h es n v l) (f : Fr h h') : Own B h' es n v l := by
  refine ⟨s.1, ?_⟩
  rcases s.2 with e | ⟨id, off, x, vs, e1, e2, e3, e4, e5, e6⟩
  · exact .inl e
  · exact .inr ⟨id, off, x, vs, e1, e2, Nat.lt_of_lt_of_le e3 f.next, by rw [f.get id e3]; exact e4, e5, e6⟩

theorem Own.base {B B' es n : Nat} {v : AV} {l : List AV} (s : Own B h es n v l) (hb : B' ≤ B) : Own B' h es n v l := by
  refine ⟨s.1, ?_⟩
  rcases s.2 with e | ⟨id, off, x, vs, e1, e2, e⟩
  · exact .inl e
  · exact .inr ⟨id, off, x, vs, e1, by omega, e⟩

/-- a block that was just laid -/
theorem Own.fresh {B es n : Nat} {l : List AV} (x : Bool) (hB : B ≤ h.next) (hl : l.length = n * es) : Own B (h.push (.cells l false)) es n (.slice h.next 0 n n x es) l :=
  ⟨hl, .inr ⟨h.next, 0, x, l, rfl, hB, Nat.lt_succ_self _, get_push_new _, by omega, by rw [List.drop_zero, List.take_of_length_le (by omega)]⟩⟩

/-- all below B stays -/
structure FrB (B : Nat) (h h' : AH) : Prop where
  next : h.next ≤ h'.next
  get : ∀ i, i < B → h'.get i = h.get i

theorem FrB.refl (B : Nat) (h : AH) : FrB B h h := ⟨Nat.le_refl _, fun _ _ => rfl⟩
theorem FrB.trans {B : Nat} {h1 h2 h3 : AH} (a : FrB B h1 h2) (b : FrB B h2 h3) : FrB B h1 h3 := ⟨Nat.le_trans a.next b.next, fun i hi => (b.get i hi).trans (a.get i hi)⟩
theorem Fr.b {B : Nat} {h h' : AH} (f : Fr h h') (hB : B ≤ h.next) : FrB B h h' := ⟨f.next, fun i hi => f.get i (Nat.lt_of_lt_of_le hi hB)⟩
theorem FrB.fr {h h' : AH} (f : FrB h.next h h') : Fr h h' := ⟨f.next, f.get⟩

/-- a slice that lies below B -/
theorem Sl.frB {B : Nat} {h0 h h' : AH} {es n : Nat} {v : AV} {l : List AV} (s : Sl h0 es n v l) (f0 : FrB h0.next h0 h) : Sl h es n v l := s.fr f0.fr

/-- append, to what is ours -/
theorem Own.append {B es n m bytes : Nat} {v x : AV} {l r : List AV} (s : Own B h es n v l) (t : Sl h es m x r) (hB : B ≤ h.next) (hs : allScalar r = true) (h1 : (n + m) * bytes ≤ 2 ^ 40) (h2 : n + m ≤ 2 ^ 40) :
    ∃ v' h', opApp es bytes v x h = okV v' h' ∧ Own B h' es (n + m) v' (l ++ r) ∧ FrB B h h' ∧ (∀ i, i < h.next → idOf v ≠ some i → h'.get i = h.get i) ∧ (∀ i, idOf v' = some i → idOf v = some i ∨ h.next ≤ i) := by
  have hr := t.1
  have hlr : (l ++ r).length = (n + m) * es := by rw [List.length_append, s.1, hr, Nat.add_mul]
  unfold opApp
  rw [t.cells]
  simp only []
  by_cases hm : m = 0
  · subst hm
    have hr0 : r = [] := by simpa using hr
    subst hr0
    refine ⟨v, h, ?_, by simpa using s, .refl _ _, fun _ _ _ => rfl, fun i hi => .inl hi⟩
    rcases s.2 with ⟨rfl, rfl⟩ | ⟨id, off, x', vs, rfl, e2, e3, e4, e5, e6⟩
    · simp [appTo]
    · have hb : Nat.ble n n = true := Nat.ble_eq_true_of_le (Nat.le_refl n)
      simp [appTo, forceN_eq, storeN, hb]
  · rcases s.2 with ⟨rfl, rfl⟩ | ⟨id, off, x', vs, rfl, e2, e3, e4, e5, e6⟩
    · have hl0 : l = [] := by simpa using s.1
      subst hl0
      refine ⟨.slice h.next 0 m m false es, h.push (.cells r false), ?_, ?_, (Fr.push (.refl h) _).b hB, fun i hi _ => get_push_old (by omega), fun i hi => by cases hi; exact .inr (Nat.le_refl _)⟩
      · simp only [appTo]
        rw [if_neg hm, if_pos ⟨by simpa using h1, by simpa using h2⟩]
      · rw [Nat.zero_add]
        exact Own.fresh false hB (by simpa using hr)
    · have hnb : Nat.ble (n + m) n = false := by
        cases e : Nat.ble (n + m) n with
        | false => rfl
        | true => have := Nat.le_of_ble_eq_true e; omega
      have hld : loadN h id off (n * es) = .ok l := by
        have hb : Nat.ble (off + n * es) vs.length = true := Nat.ble_eq_true_of_le e5
        simp [loadN, e4, hb, e6]
      cases x' with
      | true =>
        refine ⟨.slice h.next 0 (n + m) (n + m) false es, h.push (.cells (l ++ r) false), ?_, ?_, (Fr.push (.refl h) _).b hB, fun i hi _ => get_push_old (by omega), fun i hi => by cases hi; exact .inr (Nat.le_refl _)⟩
        · simp only [appTo, forceN_eq, hnb, cond_false, hld, hs, if_true]
          rw [if_neg (by simp), if_pos ⟨h1, h2⟩]
        · exact Own.fresh false hB hlr
      | false =>
        refine ⟨.slice h.next 0 (n + m) (n + m) false es, (h.kill id).push (.cells (l ++ r) false), ?_, ?_, ?_, fun i hi hne => ?_, fun i hi => by cases hi; exact .inr (Nat.le_refl _)⟩
        · simp only [appTo, forceN_eq, hnb, cond_false, hld, hs, if_true, e4]
          rw [if_neg (by simp), if_pos ⟨h1, h2⟩]
        · exact Own.fresh (h := h.kill id) false hB hlr
        · exact ⟨by simp, fun i hi => by rw [get_push_old (by simp; omega), get_kill_old (by omega)]⟩
        · rw [get_push_old (by simp; omega), get_kill_old (by intro e; apply hne; rw [e]; rfl)]


/-! ### reads that are made again -/

def wpA (r : RN) (u : AV) : Prop :=
  match r with
  | .ok (.value v, _) => eqAV 12 v u = true
  | _ => False

theorem wpAgain_nil : wpAgain P [] σ h = True := nr rfl
theorem wpA_eq (r : RN) (d : Nat) : (∃ v h', r = .ok (.value v, h') ∧ ∀ e, some d = some e → eqAV 12 v (σ e) = true) = wpA r (σ d) := by
  apply propext
  constructor
  · rintro ⟨v, h', rfl, e⟩
    exact e d rfl
  · intro e
    unfold wpA at e
    split at e
    · rename_i v h'
      exact ⟨v, h', rfl, fun d' hd => by cases hd; exact e⟩
    · exact e.elim
theorem wpAgain_row (d : Nat) (c : COp) (l : List CRow) : wpAgain P (⟨some d, none, c⟩ :: l) σ h = (wpA (evS P c σ h) (σ d) ∧ wpAgain P l σ h) := by
  simp only [wpAgain, wpA_eq]
theorem wpAgain_guard (d t : Nat) (w : Bool) (c : COp) (l : List CRow) : wpAgain P (⟨some d, some (t, w), c⟩ :: l) σ h = (wpGu (σ t) w (wpA (evS P c σ h) (σ d)) True ∧ wpAgain P l σ h) := by
  simp only [wpAgain, wpA_eq]
theorem wpA_keep (v u : AV) : wpA (keepH h (.ok v)) u = (eqAV 12 v u = true) := nr rfl
theorem wpA_okV (v u : AV) : wpA (okV v h) u = (eqAV 12 v u = true) := nr rfl
theorem wpG_tt (x y : Prop) : wpGu (.bool true) true x y = x := nr rfl
theorem wpG_ff (x y : Prop) : wpGu (.bool false) false x y = x := nr rfl
theorem wpG_tf (x y : Prop) : wpGu (.bool true) false x y = y := nr rfl
theorem wpG_ft (x y : Prop) : wpGu (.bool false) true x y = y := nr rfl
theorem wpG_un (w : Bool) (x y : Prop) : wpGu aundef w x y = y := nr rfl
attribute [simp] wpG_un wpAgain_nil wpAgain_row wpAgain_guard wpA_keep wpA_okV wpG_tt wpG_ff wpG_tf wpG_ft

@[simp] theorem eqAV_int (k : IntKind) (n : Int) : eqAV 12 (.int k n) (.int k n) = true := by simp [eqAV]
@[simp] theorem eqAV_slice (id off n cap : Nat) (x : Bool) (es : Nat) : eqAV 12 (.slice id off n cap x es) (.slice id off n cap x es) = true := by
  have hb : ∀ n, Nat.beq n n = true := Nat.beq_refl
  simp only [eqAV, hb, Bool.and_self, beq_self_eq_true]
@[simp] theorem eqAV_nils : eqAV 12 .nils .nils = true := nr rfl
@[simp] theorem eqAV_ptr (id off : Nat) : eqAV 12 (.ptr id off) (.ptr id off) = true := by
  have hb : ∀ n, Nat.beq n n = true := Nat.beq_refl
  simp only [eqAV, hb, Bool.and_true]
@[simp] theorem eqAV_bool (b : Bool) : eqAV 12 (.bool b) (.bool b) = true := by simp [eqAV]
@[simp] theorem eqAV_str (s : List UInt8) : eqAV 12 (.str s) (.str s) = true := by simp [eqAV]

/-! ### one outcome -/

theorem Ev.eq {t : Tgt} {args : List AV} {X : AV} {h0 : AH} (e : Ev P S t args h fun v h' => v = X ∧ h' = h0) (K : AV → AH → Prop) : Ev P S t args h K = K X h0 := by
  apply propext
  obtain ⟨N, v, h', e, rfl, rfl⟩ := e
  constructor
  · rintro ⟨M, u, g, f, k⟩
    have h1 := cl_mono (Nat.le_max_left N M) _ _ _ _ e
    have h2 := cl_mono (Nat.le_max_right N M) _ _ _ _ f
    rw [h1] at h2
    cases h2
    exact k
  · intro k
    exact ⟨N, v, h', e, k⟩

/-! ### loops over so many -/

/-- a loop that counts up -/
theorem w_count {b0 b1 tc ti tn n : Nat} {T : TypeId} {lit : Bool} {lim : CO} {body : CC} (hd : Nat.beq tc ti = false) (J : Nat → Sg → List ADef → AH → Prop) (hn : (n : Int) ≤ 9223372036854775807)
    (h0 : σ ti = .int .i64 0) (hJ : J 0 σ ds h)
    (hl : ∀ j σ ds h, J j σ ds h → lim.evS σ = .int .i64 (n : Int))
    (hb : ∀ j σ ds h, j < n → σ ti = .int .i64 (j : Int) → J j σ ds h →
      wpC P S body (Kblk b1 fun x σ' ds' h' => match x with
        | .normal => σ' ti = .int .i64 (j : Int) ∧ J (j + 1) (upd (upd σ' (some tn) (.int .i64 ((j : Int) + 1))) (some ti) (.int .i64 ((j : Int) + 1))) ds' h'
        | x => Q x σ' ds' h') (upd σ (some tc) (.bool true)) ds h)
    (he : ∀ σ ds h, J n σ ds h → Q (.exit b0) (upd σ (some tc) (.bool false)) ds h) :
    wpC P S (.loop (.seq (.ops [.row ⟨some tc, none, .bin .lss T lit (.t ti) lim⟩]) (.seq (.cond (.t tc) .skip (.exit b0))
      (.seq (.block b1 body) (.ops [.row ⟨some tn, none, .bin .add T true (.t ti) (.c (.int .i64 1))⟩, .row ⟨some ti, none, .move (.t tn)⟩]))))) Q σ ds h := by
  refine w_loop (fun k σ ds h => ∃ j, k + j = n ∧ σ ti = .int .i64 (j : Int) ∧ J j σ ds h) n ⟨0, by omega, by simpa using h0, hJ⟩ ?_
  rintro k σ ds h ⟨j, hk, hti, hJ⟩
  have hlim := hl _ _ _ _ hJ
  simp only [wpC_seq, wpC_ops, wpOps_row, evS_bin, CO.evS_t, hti, hlim, bin_lss, wpN_keep, wpOps_nil, Kseq_normal, wpC_cond, upd_some, if_true]
  by_cases hj : j < n
  · have : ((j : Int) < (n : Int)) := by omega
    simp only [this, decide_true, wpB_true, wpC_skip, Kseq_normal, wpC_seq, wpC_block]
    refine w_mono (hb j σ ds h hj hti hJ) ?_
    intro x σ' ds' h' hx
    have key : (σ' ti = .int .i64 (j : Int) ∧ J (j + 1) (upd (upd σ' (some tn) (.int .i64 ((j : Int) + 1))) (some ti) (.int .i64 ((j : Int) + 1))) ds' h') →
        wpC P S (.ops [.row ⟨some tn, none, .bin .add T true (.t ti) (.c (.int .i64 1))⟩, .row ⟨some ti, none, .move (.t tn)⟩]) (Kloop (fun k σ ds h => ∃ j, k + j = n ∧ σ ti = .int .i64 (j : Int) ∧ J j σ ds h) k Q) σ' ds' h' := by
      rintro ⟨h1, h2⟩
      simp only [wpC_ops, wpOps_row, evS_bin, evS_move, CO.evS_t, CO.evS_c, h1, bin_add, wpN_keep, wpN_okV, wpOps_nil, upd_some, if_true, wrap_i64 (show (-9223372036854775808 : Int) ≤ (j : Int) + 1 by omega) (show (j : Int) + 1 < 9223372036854775808 by omega), Kloop_normal]
      exact ⟨k - 1, by omega, j + 1, by omega, by simp, h2⟩
    cases x with
    | normal => exact key hx
    | ret => exact hx
    | exit i =>
      simp only [Kblk_exit] at hx ⊢
      by_cases hi : i = b1
      · rw [if_pos hi] at hx ⊢; exact key hx
      · rw [if_neg hi] at hx ⊢; exact hx
  · have hjn : j = n := by omega
    subst hjn
    have : ¬ ((j : Int) < (j : Int)) := by omega
    simp only [this, decide_false, wpB_false, wpC_exit, Kseq_exit, Kloop_exit]
    exact he _ _ _ hJ

end
end Go.Dr
