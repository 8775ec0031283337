/-
  More equations for steps: blocks, elements, slices that are made.
-/
import Derived.Test.YthkoheaklmgonaaDoorDrBe
namespace Go.Dr

section
variable {P : Program} {S : Sums} {Q : Post} {σ : Sg} {ds : List ADef} {h : AH}

attribute [simp] IntKind.bits

@[simp] theorem AV.cells_agg (l : List AV) : (AV.agg l).cells = l := nr rfl
@[simp] theorem AV.cells_int (k : IntKind) (n : Int) : (AV.int k n).cells = [.int k n] := nr rfl
@[simp] theorem AV.cells_nils : AV.nils.cells = [.nils] := nr rfl
@[simp] theorem AV.cells_slice (id off n cap : Nat) (x : Bool) (es : Nat) : (AV.slice id off n cap x es).cells = [.slice id off n cap x es] := nr rfl
@[simp] theorem AV.cells_bool (b : Bool) : (AV.bool b).cells = [.bool b] := nr rfl
@[simp] theorem AV.cells_str (s : List UInt8) : (AV.str s).cells = [.str s] := nr rfl
@[simp] theorem AV.scalar_int (k : IntKind) (n : Int) : (AV.int k n).scalar = true := nr rfl
@[simp] theorem AV.scalar_nils : AV.nils.scalar = true := nr rfl
@[simp] theorem AV.scalar_slice (id off n cap : Nat) (x : Bool) (es : Nat) : (AV.slice id off n cap x es).scalar = true := nr rfl
@[simp] theorem AV.scalar_bool (b : Bool) : (AV.bool b).scalar = true := nr rfl
@[simp] theorem AV.scalar_str (s : List UInt8) : (AV.str s).scalar = true := nr rfl
@[simp] theorem AV.scalar_ptr (id off : Nat) : (AV.ptr id off).scalar = true := nr rfl
@[simp] theorem allScalar_nil : allScalar [] = true := nr rfl
@[simp] theorem allScalar_cons (v : AV) (l : List AV) : allScalar (v :: l) = (v.scalar && allScalar l) := nr rfl
@[simp] theorem ofO_some {α : Type} (why : String) (a : α) : ofO why (some a) = .ok a := nr rfl

theorem load1_of {id off : Nat} {vs : List AV} {ro : Bool} (hg : h.get id = some (.cells vs ro)) : load1 h id off = ofO "load: out of the known cells" vs[off]? := by
  unfold load1
  rw [hg]
  simp only []
  cases vs[off]? <;> rfl

@[simp] theorem load1_push (off : Nat) (vs : List AV) (ro : Bool) : load1 (h.push (.cells vs ro)) h.next off = ofO "load: out of the known cells" vs[off]? := load1_of (get_push_new _)
@[simp] theorem load1_set (id off : Nat) (vs : List AV) (ro : Bool) : load1 (h.set id (.cells vs ro)) id off = ofO "load: out of the known cells" vs[off]? := load1_of (get_set_new _ _)

theorem loadN_of {id n : Nat} {vs : List AV} {ro : Bool} (hg : h.get id = some (.cells vs ro)) (hl : vs.length = n) : loadN h id 0 n = .ok vs := by
  unfold loadN
  rw [hg]
  have : Nat.ble (0 + n) vs.length = true := Nat.ble_eq_true_of_le (by omega)
  simp only [this, cond_true, List.drop_zero]
  rw [List.take_of_length_le (by omega)]

@[simp] theorem loadN_set {n : Nat} (id : Nat) (vs : List AV) (ro : Bool) (hl : vs.length = n) : loadN (h.set id (.cells vs ro)) id 0 n = .ok vs := loadN_of (get_set_new _ _) hl
@[simp] theorem loadN_push {n : Nat} (vs : List AV) (ro : Bool) (hl : vs.length = n) : loadN (h.push (.cells vs ro)) h.next 0 n = .ok vs := loadN_of (get_push_new _) hl

@[simp] theorem opLoadN_ptr (n id off : Nat) : opLoadN n (.ptr id off) h = match loadN h id off n with | .ok l => okV (.agg l) h | .error e => .error e := nr rfl

theorem PT.one_set {α : Type} (v w : Option α) : ∀ (f n : Nat), n < f → (PT.one v f n).set w n = PT.one w f n := by
  intro f
  induction f with
  | zero => intro n h; omega
  | succ f ih =>
    intro n h
    rw [PT.one_succ, PT.one_succ]
    by_cases h0 : n = 0
    · rw [if_pos h0, if_pos h0, PT.set_node, if_pos h0]
    · rw [if_neg h0, if_neg h0]
      by_cases h1 : n % 2 = 1
      · rw [if_pos h1, if_pos h1, PT.set_node, if_neg h0, if_pos h1, ih _ (by omega)]
      · rw [if_neg h1, if_neg h1, PT.set_node, if_neg h0, if_neg h1, ih _ (by omega)]

theorem PT.set_set {α : Type} (v w : Option α) : ∀ (t : PT α) (n : Nat), (t.set v n).set w n = t.set w n := by
  intro t
  induction t with
  | leaf => intro n; exact PT.one_set v w (n + 1) n (by omega)
  | node l u r ihl ihr =>
    intro n
    rw [PT.set_node, PT.set_node]
    by_cases h0 : n = 0
    · rw [if_pos h0, if_pos h0, PT.set_node, if_pos h0]
    · rw [if_neg h0, if_neg h0]
      by_cases h1 : n % 2 = 1
      · rw [if_pos h1, if_pos h1, PT.set_node, if_neg h0, if_pos h1, ihl]
      · rw [if_neg h1, if_neg h1, PT.set_node, if_neg h0, if_neg h1, ihr]

@[simp] theorem AH.set_push (o o' : AObj) : (h.push o).set h.next o' = h.push o' := by
  simp only [AH.push, AH.set, PT.set_set]
@[simp] theorem AH.set_set (i : Nat) (o o' : AObj) : (h.set i o).set i o' = h.set i o' := by
  simp only [AH.set, PT.set_set]

theorem storeN_one {id off : Nat} {vs : List AV} {v : AV} (hg : h.get id = some (.cells vs false)) (hl : off < vs.length) (hs : v.scalar = true) :
    storeN h id off [v] = .ok (h.set id (.cells (splice vs off [v]) false)) := by
  have : Nat.ble (off + 1) vs.length = true := Nat.ble_eq_true_of_le hl
  simp [storeN, hg, this, hs]

theorem storeN_all {id : Nat} {vs : List AV} {v : AV} {l : List AV} (hg : h.get id = some (.cells vs false)) (hl : vs.length = (v :: l).length) (hs : allScalar (v :: l) = true) :
    storeN h id 0 (v :: l) = .ok (h.set id (.cells (v :: l) false)) := by
  have h1 : Nat.ble (0 + (v :: l).length) vs.length = true := Nat.ble_eq_true_of_le (by omega)
  have h2 : splice vs 0 (v :: l) = v :: l := by
    simp only [splice, List.take_zero, List.nil_append, Nat.zero_add, ← hl, List.drop_length, List.append_nil]
  simp only [storeN, hg, h1, hs, Bool.and_self, cond_true, h2]

@[simp] theorem opStore_one (id off : Nat) (v : AV) (hv : v.cells = [v]) : opStore 1 (.ptr id off) v h = skipH (storeN h id off [v]) := by
  simp only [opStore, hv, List.length_singleton, Nat.beq_refl, cond_true]

theorem opStore_agg (n id off : Nat) (l : List AV) (hl : l.length = n) : opStore n (.ptr id off) (.agg l) h = skipH (storeN h id off l) := by
  subst hl
  simp only [opStore, AV.cells_agg, Nat.beq_refl, cond_true]

theorem repl_one (v : AV) : ∀ n, repl [v] n = List.replicate n v
  | 0 => rfl
  | n + 1 => by rw [repl, repl_one v n]; rfl

theorem opMkS_nat (es bytes k : Nat) (z : List AV) (a b : IntKind) (h1 : bytes * k ≤ 2 ^ 40) (h2 : k ≤ 2 ^ 40) :
    opMkS es bytes z (.int a (k : Int)) (.int b (k : Int)) h = okV (.slice h.next 0 k k true es) (h.push (.cells (repl z k) false)) := by
  simp only [opMkS, Int.toNat_natCast]
  rw [if_pos ⟨by omega, by omega, by exact_mod_cast h1, by exact_mod_cast h2⟩]

@[simp] theorem argS_0 (a : AV) (l : List AV) : argS (a :: l) 0 = a := nr rfl
@[simp] theorem argS_1 (a b : AV) (l : List AV) : argS (a :: b :: l) 1 = b := nr rfl
@[simp] theorem argS_2 (a b c : AV) (l : List AV) : argS (a :: b :: c :: l) 2 = c := nr rfl
@[simp] theorem argS_3 (a b c d : AV) (l : List AV) : argS (a :: b :: c :: d :: l) 3 = d := nr rfl
@[simp] theorem argS_4 (a b c d e : AV) (l : List AV) : argS (a :: b :: c :: d :: e :: l) 4 = e := nr rfl

theorem fillS_nil (c : List AV) : fillS σ c [] = .ok c := nr rfl
theorem fillS_cons (c : List AV) (off size : Nat) (x : CO) (rest : List (Nat × Nat × CO)) : fillS σ c ((off, size, x) :: rest) =
    if (x.evS σ).cells.length = size ∧ off + (x.evS σ).cells.length ≤ c.length then fillS σ (splice c off (x.evS σ).cells) rest else .error "fill" := by
  rw [fillS]
  by_cases h : (x.evS σ).cells.length = size ∧ off + (x.evS σ).cells.length ≤ c.length
  · rw [if_pos h]
    have h1 : Nat.beq (x.evS σ).cells.length size = true := PT.beqT h.1
    have h2 : Nat.ble (off + (x.evS σ).cells.length) c.length = true := Nat.ble_eq_true_of_le h.2
    simp only [h1, h2, Bool.and_self, cond_true]
  · rw [if_neg h]
    have : (Nat.beq (x.evS σ).cells.length size && Nat.ble (off + (x.evS σ).cells.length) c.length) = false := by
      rw [Bool.eq_false_iff]
      intro e
      rw [Bool.and_eq_true] at e
      exact h ⟨Nat.eq_of_beq_eq_true e.1, Nat.le_of_ble_eq_true e.2⟩
    simp only [this, cond_false]
theorem buildS_eq (z : List AV) (pl : List (Nat × Nat × CO)) : opBuildS z pl σ = match fillS σ z pl with | .ok l => .ok (.agg l) | .error e => .error e := nr rfl
theorem buildSliceS_eq (len es : Nat) (z : List AV) (pl : List (Nat × Nat × CO)) : opBuildSliceS len es z pl σ h = match fillS σ z pl with
  | .ok l => okV (.slice h.next 0 len len true es) (h.push (.cells l false))
  | .error e => .error e := nr rfl
theorem splice_eq (vs : List AV) (off : Nat) (l : List AV) : splice vs off l = vs.take off ++ (l ++ vs.drop (off + l.length)) := nr rfl
attribute [simp] fillS_nil fillS_cons buildS_eq buildSliceS_eq

theorem Kfin_ret_ds (res : List CRes) (K : AV → AH → Prop) : Kfin P S res K .ret σ ds h = Defers P S ds h (fun h => resK (resS h σ res) K h) := by
  simp only [Kfin, resK_eq]
@[simp] theorem Defers_nil (K : AH → Prop) : Defers P S [] h K = K h := nr rfl
theorem Defers_collected (id : Nat) (K : AH → Prop) : Defers P S (.collected id :: ds) h K = (h.get id = some (.deferred (some [])) ∧ Defers P S ds (h.set id (.deferred none)) K) := nr rfl
theorem wpC_go (n : Nat) (f : CO) (params : Array Tmp) (a b : Code) : wpC P S (.go n f params a b) Q σ ds h = wpGo P S (f.evS σ) n params a b Q σ ds h := nr rfl
theorem wpGo_func (g : FuncId) (first captured : List AV) (n : Nat) (params : Array Tmp) (a b : Code) : wpGo P S (.func (.func g) first captured) n params a b Q σ ds h =
    ∀ tmps : PT AV, (∀ i, valT tmps i = σ i) → Ev P S (.fn g) (first ++ (.func (.yield (h.next + 1)) [] [] :: captured))
      ((h.push (.deferred (some []))).push (.loop { state := .ready, pending := none, n := n, tmps := tmps, params := params, assign := a, body := b })) (Kgo Q σ ds h.next) := nr rfl

theorem Sl.slice3 {es n : Nat} {v : AV} {l : List AV} (s : Sl h es n v l) {k1 k2 k3 : IntKind} {a b : Nat} (hab : a ≤ b) (hbn : b ≤ n) :
    ∃ v', opSliceV es v (some (.int k1 (a : Int))) (some (.int k2 (b : Int))) (some (.int k3 (b : Int))) = .ok v' ∧ Sl h es (b - a) v' ((l.drop (a * es)).take ((b - a) * es)) := by
  obtain ⟨hl, s⟩ := s
  have h1 : a * es ≤ b * es := Nat.mul_le_mul_right es hab
  have h2 : b * es ≤ n * es := Nat.mul_le_mul_right es hbn
  have hlen : ((l.drop (a * es)).take ((b - a) * es)).length = (b - a) * es := by
    rw [List.length_take, List.length_drop, hl, Nat.sub_mul]; omega
  rcases s with ⟨rfl, rfl⟩ | ⟨id, off, cap, x, vs, ro, rfl, e2, e6, e3, e4, rfl⟩
  · obtain rfl : b = 0 := by omega
    obtain rfl : a = 0 := by omega
    refine ⟨.nils, ?_, hlen, .inl ⟨rfl, rfl⟩⟩
    simp [opSliceV, boundsA, boundO, boundA]
  · have hA : ∀ (k : IntKind) (c m : Nat), c ≤ m → boundA (.int k (c : Int)) m = .ok c := by
      intro k c m hc
      simp only [boundA]
      rw [if_pos ⟨by omega, by omega⟩, Int.toNat_natCast]
    refine ⟨.slice id (off + a * es) (b - a) (b - a) true es, ?_, hlen, .inr ⟨id, off + a * es, b - a, true, vs, ro, rfl, e2, Nat.le_refl _, e3, ?_, ?_⟩⟩
    · simp only [opSliceV, boundsA, boundO, hA k3 b cap (by omega), hA k2 b b (Nat.le_refl _), hA k1 a b hab, Option.isNone_some, Bool.false_and, if_true, Option.isSome_some, Bool.or_true, Bool.false_eq_true, if_false]
    · rw [Nat.sub_mul]; omega
    · rw [List.drop_take, List.drop_drop, List.take_take, Nat.sub_mul, Nat.min_eq_left (by omega)]

theorem Sl.oneCell {es n : Nat} {v : AV} {l : List AV} (s : Sl h es n v l) : v.cells = [v] ∧ v.scalar = true := by
  rcases s.2 with ⟨rfl, _⟩ | ⟨id, off, cap, x, vs, ro, rfl, _⟩ <;> exact ⟨rfl, rfl⟩

theorem Own.set {B es n j : Nat} {v : AV} {l : List AV} (s : Own B h es n v l) (o : AObj) (hj : idOf v ≠ some j) : Own B (h.set j o) es n v l := by
  refine ⟨s.1, ?_⟩
  rcases s.2 with e | ⟨id, off, x, vs, e1, e2, e3, e4, e5, e6⟩
  · exact .inl e
  · exact .inr ⟨id, off, x, vs, e1, e2, e3, by rw [get_set_old (by intro e; apply hj; rw [e1, e]; rfl)]; exact e4, e5, e6⟩

theorem Own.ne {B es n j : Nat} {v : AV} {l : List AV} (s : Own B h es n v l) (hj : j < B) : idOf v ≠ some j := by
  rcases s.2 with ⟨rfl, _⟩ | ⟨id, off, x, vs, rfl, e2, _⟩
  · intro e; cases e
  · intro e; cases e; omega

theorem Sl.same {es n : Nat} {v : AV} {l : List AV} (s : Sl h es n v l) : eqAV 12 v v = true := by
  rcases s.2 with ⟨rfl, _⟩ | ⟨id, off, cap, x, vs, ro, rfl, _⟩
  · exact eqAV_nils
  · exact eqAV_slice _ _ _ _ _ _

theorem bin_nil_nil {t e : TypeId} (ht : P.underlying t = some (.slice e)) (lit : Bool) : opBin P .eql t lit .nils .nils = .ok (.bool true) := by
  simp [opBin, binSlow, eqAt, und, ht, ofO, fitsScalar, eqScalar, eqNeq]
theorem bin_nil_slice {t e : TypeId} (ht : P.underlying t = some (.slice e)) (lit : Bool) (id off n cap : Nat) (x : Bool) (es : Nat) :
    opBin P .eql t lit (.slice id off n cap x es) .nils = .ok (.bool false) := by
  simp [opBin, binSlow, eqAt, und, ht, ofO, fitsScalar, eqScalar, eqNeq]

theorem splice_set (vs : List AV) (k : Nat) (x : AV) (hk : k < vs.length) : splice vs k [x] = vs.set k x := by
  rw [splice, List.length_singleton, List.set_eq_take_append_cons_drop, if_pos hk]
  rfl

/-- an element's cell is written -/
theorem Own.store {B es n : Nat} {v : AV} {l : List AV} (s : Own B h es n v l) {k : IntKind} {i : Int} {j c : Nat} (hi : i = j) (hj : j < n) (hc : c < es) {x : AV} (hx : x.scalar = true) :
    ∃ id o h', opIdxV es v (.int k i) = .ok (.ptr id o) ∧ storeN h id (o + c) [x] = .ok h' ∧ Own B h' es n v (l.set (j * es + c) x) ∧ FrB B h h' ∧ h'.next = h.next := by
  subst hi
  rcases s.2 with ⟨rfl, rfl⟩ | ⟨id, off, x', vs, rfl, e2, e3, e4, e5, rfl⟩
  · omega
  · have hle : j * es + es ≤ n * es := by
      have := Nat.mul_le_mul_right es (show j + 1 ≤ n from hj)
      rw [Nat.add_mul, Nat.one_mul] at this
      exact this
    refine ⟨id, off + j * es, h.set id (.cells (vs.set (off + j * es + c) x) false), by rw [opIdxV_slice _ _ _ _ _ _ _ _ ⟨by omega, by omega⟩, Int.toNat_natCast], ?_, ⟨?_, .inr ⟨id, off, x', vs.set (off + j * es + c) x, rfl, e2, e3, get_set_new _ _, by rw [List.length_set]; exact e5, ?_⟩⟩, ⟨Nat.le_refl _, fun i hi => get_set_old (by omega)⟩, rfl⟩
    · rw [storeN_one e4 (by omega) hx, splice_set _ _ _ (by omega)]
    · rw [List.length_set]; exact s.1
    · rw [List.drop_set, if_neg (by omega), List.take_set, show off + j * es + c - off = j * es + c from by omega]

end
end Go.Dr
