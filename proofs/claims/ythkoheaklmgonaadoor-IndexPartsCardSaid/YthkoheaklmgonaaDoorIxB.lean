import Derived.Test.YthkoheaklmgonaaDoorIxA
namespace Go.Proofs.YthkoheaklmgonaaDoor
open Go Go.Dr
set_option maxRecDepth 100000

/-- numbers as cells -/
def iv (l : List Int) : List AV := l.map (AV.int .i64)
@[simp] theorem iv_length (l : List Int) : (iv l).length = l.length := by simp [iv]
theorem iv_get (l : List Int) (i : Nat) : (iv l)[i]? = (l[i]?).map (AV.int .i64) := by simp [iv]
theorem iv_append (l r : List Int) : iv (l ++ r) = iv l ++ iv r := by simp [iv]
theorem iv_take (l : List Int) (n : Nat) : (iv l).take n = iv (l.take n) := by simp [iv]
theorem iv_drop (l : List Int) (n : Nat) : (iv l).drop n = iv (l.drop n) := by simp [iv]
theorem iv_set (l : List Int) (n : Nat) (x : Int) : (iv l).set n (.int .i64 x) = iv (l.set n x) := by simp [iv, List.map_set]
theorem iv_scalar : ∀ (l : List Int), allScalar (iv l) = true
  | [] => rfl
  | x :: l => by
    show (AV.scalar (.int .i64 x) && allScalar (iv l)) = true
    rw [iv_scalar l]; rfl

/-- what is told of calls: the library's sort; the closed call -/
abbrev SI : Sums := fun g => if g = 92 then some sortG else closedS 16 g

theorem ev_sum {P : Program} {S : Sums} {f : FuncId} {g : List AV → AH → R (AV × AH)} {args : List AV} {h h' : AH} {v : AV} {K : AV → AH → Prop} (hs : S f = some g) (hg : g args h = .ok (v, h')) (hk : K v h') : Ev P S (.fn f) args h K :=
  ⟨1, v, h', by simp [cl, evCall, hs, hg], hk⟩

/-- a slice of numbers that is ours from block B on; there may be spare places -/
def Wr (B : Nat) (h : AH) (n : Nat) (v : AV) (l : List AV) : Prop :=
  l.length = n ∧ ((v = .nils ∧ n = 0) ∨ ∃ id off cap x vs, v = .slice id off n cap x 1 ∧ B ≤ id ∧ id < h.next ∧ n ≤ cap ∧ h.get id = some (.cells vs false) ∧ off + n ≤ vs.length ∧ (vs.drop off).take n = l)

theorem Wr.sl {B n : Nat} {h : AH} {v : AV} {l : List AV} (s : Wr B h n v l) : Sl h 1 n v l := by
  refine ⟨by rw [s.1]; omega, ?_⟩
  rcases s.2 with e | ⟨id, off, cap, x, vs, e1, e2, e3, e4, e5, e6, e7⟩
  · exact .inl e
  · exact .inr ⟨id, off, cap, x, vs, false, e1, e3, e4, e5, by omega, by rw [Nat.mul_one]; exact e7⟩

theorem Own.wr {B n : Nat} {h : AH} {v : AV} {l : List AV} (s : Own B h 1 n v l) : Wr B h n v l := by
  refine ⟨by rw [s.1]; omega, ?_⟩
  rcases s.2 with e | ⟨id, off, x, vs, e1, e2, e3, e4, e5, e6⟩
  · exact .inl e
  · exact .inr ⟨id, off, n, x, vs, e1, e2, e3, Nat.le_refl _, e4, by omega, by rw [Nat.mul_one] at e6; exact e6⟩

theorem Wr.base {B B' n : Nat} {h : AH} {v : AV} {l : List AV} (s : Wr B h n v l) (hb : B' ≤ B) : Wr B' h n v l := by
  refine ⟨s.1, ?_⟩
  rcases s.2 with e | ⟨id, off, cap, x, vs, e1, e2, e⟩
  · exact .inl e
  · exact .inr ⟨id, off, cap, x, vs, e1, by omega, e⟩

theorem Wr.fr {B n : Nat} {h h' : AH} {v : AV} {l : List AV} (s : Wr B h n v l) (f : Fr h h') : Wr B h' n v l := by
  refine ⟨s.1, ?_⟩
  rcases s.2 with e | ⟨id, off, cap, x, vs, e1, e2, e3, e4, e5, e6⟩
  · exact .inl e
  · exact .inr ⟨id, off, cap, x, vs, e1, e2, Nat.lt_of_lt_of_le e3 f.next, e4, by rw [f.get id e3]; exact e5, e6⟩

/-- an element is written -/
theorem Wr.store {B n : Nat} {h : AH} {v : AV} {l : List AV} (s : Wr B h n v l) {j : Nat} (hj : j < n) {x : AV} (hx : x.scalar = true) :
    ∃ id o h', opIdxV 1 v (.int .i64 (j : Int)) = .ok (.ptr id o) ∧ storeN h id o [x] = .ok h' ∧ Wr B h' n v (l.set j x) ∧ FrB B h h' ∧ h'.next = h.next := by
  rcases s.2 with ⟨rfl, rfl⟩ | ⟨id, off, cap, x', vs, rfl, e2, e3, e4, e5, e6, rfl⟩
  · omega
  · refine ⟨id, off + j, h.set id (.cells (vs.set (off + j) x) false), by rw [opIdxV_slice _ _ _ _ _ _ _ _ ⟨by omega, by omega⟩, Int.toNat_natCast, Nat.mul_one], ?_, ⟨?_, .inr ⟨id, off, cap, x', vs.set (off + j) x, rfl, e2, e3, e4, get_set_new _ _, by rw [List.length_set]; exact e6, ?_⟩⟩, ⟨Nat.le_refl _, fun i hi => get_set_old (by omega)⟩, rfl⟩
    · rw [storeN_one e5 (by omega) hx, splice_set _ _ _ (by omega)]
    · rw [List.length_set]; exact s.1
    · rw [List.drop_set, if_neg (by omega), List.take_set, show off + j - off = j from by omega]

/-- the places from k on are cleared, and the rest is what is left -/
theorem Wr.cut {B n : Nat} {h : AH} {v : AV} {l : List AV} (s : Wr B h n v l) {k : Nat} (hk : k ≤ n) :
    ∃ u r h', opSliceV 1 v (some (.int .i64 (k : Int))) none none = .ok u ∧ opClear 1 [.int .i64 0] u h = okV (.tuple []) h' ∧ opSliceV 1 v none (some (.int .i64 (k : Int))) none = .ok r ∧ Wr B h' k r (l.take k) ∧ FrB B h h' := by
  rcases s.2 with ⟨rfl, rfl⟩ | ⟨id, off, cap, x, vs, rfl, e2, e3, e4, e5, e6, rfl⟩
  · obtain rfl : k = 0 := by omega
    refine ⟨.nils, .nils, h, by simp [opSliceV, boundsA, boundO, boundA], rfl, by simp [opSliceV, boundsA, boundO, boundA], ⟨by simp, .inl ⟨rfl, rfl⟩⟩, .refl _ _⟩
  · have hA : ∀ (c m : Nat), c ≤ m → boundA (.int .i64 (c : Int)) m = .ok c := by
      intro c m hc
      simp only [boundA]
      rw [if_pos ⟨by omega, by omega⟩, Int.toNat_natCast]
    have o1 : opSliceV 1 (.slice id off n cap x 1) (some (.int .i64 (k : Int))) none none = .ok (.slice id (off + k) (n - k) (cap - k) x 1) := by
      have hn : boundA (.int .i64 (k : Int)) n = .ok k := hA k n hk
      simp [opSliceV, boundsA, boundO, hn]
    have o2 : opSliceV 1 (.slice id off n cap x 1) none (some (.int .i64 (k : Int))) none = .ok (.slice id off k cap x 1) := by
      have hn : boundA (.int .i64 (k : Int)) cap = .ok k := hA k cap (by omega)
      simp [opSliceV, boundsA, boundO, hn]
    by_cases h0 : n - k = 0
    · refine ⟨_, _, h, o1, by simp [opClear, h0], o2, ⟨?_, .inr ⟨id, off, cap, x, vs, rfl, e2, e3, by omega, e5, by omega, ?_⟩⟩, .refl _ _⟩
      · rw [List.length_take, s.1]; omega
      · rw [List.take_take, Nat.min_eq_left hk]
    · obtain ⟨m, hm⟩ : ∃ m, n - k = m + 1 := ⟨n - k - 1, by omega⟩
      have hrl : (repl [AV.int .i64 0] (n - k)).length = n - k := by rw [repl_one, List.length_replicate]
      have hst : storeN h id (off + k) (repl [.int .i64 0] (n - k)) = .ok (h.set id (.cells (splice vs (off + k) (repl [.int .i64 0] (n - k))) false)) := by
        have hsc : allScalar (repl [AV.int .i64 0] (n - k)) = true := by
          rw [repl_one]
          induction (n - k) with
          | zero => rfl
          | succ m ih => rw [List.replicate_succ, allScalar_cons, ih]; rfl
        rw [hm] at hrl hsc ⊢
        have : repl [AV.int .i64 0] (m + 1) = .int .i64 0 :: repl [AV.int .i64 0] m := rfl
        rw [this] at hrl hsc ⊢
        have hb : Nat.ble (off + k + (AV.int .i64 0 :: repl [AV.int .i64 0] m).length) vs.length = true := Nat.ble_eq_true_of_le (by omega)
        simp only [storeN, e5, hb, hsc, Bool.and_self, cond_true]
      refine ⟨_, _, h.set id (.cells (splice vs (off + k) (repl [.int .i64 0] (n - k))) false), o1, by simp only [opClear, if_true, h0, if_false, hst], o2, ⟨?_, .inr ⟨id, off, cap, x, _, rfl, e2, e3, by omega, get_set_new _ _, ?_, ?_⟩⟩, ⟨Nat.le_refl _, fun i hi => get_set_old (by omega)⟩⟩
      · rw [List.length_take, s.1]; omega
      · rw [splice_length _ _ _ (by omega)]; omega
      · rw [List.take_take, Nat.min_eq_left hk]
        apply List.ext_getElem?
        intro i
        by_cases hi : i < k
        · rw [List.getElem?_take_of_lt hi, List.getElem?_take_of_lt hi, List.getElem?_drop, List.getElem?_drop, splice_get _ _ _ _ (by omega), if_neg (by omega)]
        · rw [List.getElem?_take_eq_none (by omega), List.getElem?_take_eq_none (by omega)]

end Go.Proofs.YthkoheaklmgonaaDoor
