import Derived.Test.YthkoheaklmgonaaFmB
import Derived.Test.YthkoheaklmgonaaDrArg
namespace Go.Proofs.Ythkoheaklmgonaa
open Go Go.Dr
set_option maxRecDepth 100000

def u64 (n : Int) : Nat := (n % 18446744073709551616).toNat
theorem u64_lt (n : Int) : u64 n < 2 ^ 64 := by unfold u64; omega
theorem wrap_u (n : Int) : wrapF .u64 n = (u64 n : Int) := by rw [wrap64]; unfold u64; omega

theorem put15_8 (n : Nat) (hn : n < 2 ^ 64) (h : AH) (K : AV → AH → Prop) :
    Ev Try.prog S0 (.fn 15) [.int .u64 (n : Int), .int .i64 8] h K = K (.slice h.next 0 8 8 true 1) (h.push (.cells (by8 (be 8 n)) false)) := put15 n 8 hn (by omega) h K
theorem put15_4 (n : Nat) (hn : n < 2 ^ 64) (h : AH) (K : AV → AH → Prop) :
    Ev Try.prog S0 (.fn 15) [.int .u64 (n : Int), .int .i64 4] h K = K (.slice h.next 0 4 4 true 1) (h.push (.cells (by8 (be 4 n)) false)) := put15 n 4 hn (by omega) h K
theorem put17_8 (n : Nat) (hn : n < 2 ^ 64) (h : AH) (K : AV → AH → Prop) :
    Ev Try.prog S0 (.fn 17) [.int .u64 (n : Int), .int .i64 8] h K = K (.slice h.next 0 8 8 true 1) (h.push (.cells (by8 (be 8 n)) false)) := put17 n 8 hn (by omega) h K
theorem put17_4 (n : Nat) (hn : n < 2 ^ 64) (h : AH) (K : AV → AH → Prop) :
    Ev Try.prog S0 (.fn 17) [.int .u64 (n : Int), .int .i64 4] h K = K (.slice h.next 0 4 4 true 1) (h.push (.cells (by8 (be 4 n)) false)) := put17 n 4 hn (by omega) h K

theorem big18 (n : Int) (h : AH) (K : AV → AH → Prop) :
    Ev Try.prog S0 (.fn 18) [.int .i64 n] h K = K (.slice h.next 0 8 8 true 1) (h.push (.cells (by8 (be 8 (u64 n))) false)) := by
  refine Ev.eq (ev_fn comp18 rfl rfl ?_) K
  simp [cc18, wrap_u, put17_8 _ (u64_lt n)]

theorem int21 {h : AH} {n k : Nat} {v : AV} {bs : List Nat} (hv : Sl h 1 n v (by8 bs)) (hb : ∀ x ∈ bs, x < 256) (h1 : 1 ≤ k) (h8 : k ≤ 8) (hn : k ≤ n) :
    ∃ v', (∀ g, Sl g 1 n v (by8 bs) → Sl g 1 (n - k) v' (by8 (bs.drop k))) ∧ ∀ K, Ev Try.prog S0 (.fn 21) [v, .int .i64 (k : Int)] h K = K (.tuple [.int .i64 (wrapF .i64 (beV (bs.take k) : Int)), v', .bool true]) h := by
  have hl : bs.length = n := by have := hv.1; simpa using this
  obtain ⟨u, e1, s1⟩ := hv.slice (lo := none) (hi := some (.int .i64 (k : Int))) (a := 0) (b := k) (.inl ⟨rfl, rfl⟩) (.inr ⟨.i64, rfl⟩) (by omega) hn
  obtain ⟨v', e2, _⟩ := hv.slice (lo := some (.int .i64 (k : Int))) (hi := none) (a := k) (b := n) (.inr ⟨.i64, rfl⟩) (.inl ⟨rfl, rfl⟩) hn (Nat.le_refl _)
  have s1' : Sl h 1 k u (by8 (bs.take k)) := by simpa [by8_take, by8_drop] using s1
  have s2' : ∀ g, Sl g 1 n v (by8 bs) → Sl g 1 (n - k) v' (by8 (bs.drop k)) := by
    intro g hg
    obtain ⟨v'', e3, s3⟩ := hg.slice (lo := some (.int .i64 (k : Int))) (hi := none) (a := k) (b := n) (.inr ⟨.i64, rfl⟩) (.inl ⟨rfl, rfl⟩) hn (Nat.le_refl _)
    rw [e2] at e3
    cases e3
    have : (bs.drop k).take (n - k) = bs.drop k := List.take_of_length_le (by simp; omega)
    simpa [by8_take, by8_drop, this] using s3
  refine ⟨v', s2', fun K => Ev.eq (ev_fn comp21 rfl rfl ?_) K⟩
  have c1 : ¬ ((n : Int) < (k : Int)) := by omega
  simp [cc21, hv.len, c1, e1, e2, get27 s1' (fun x hx => hb x (List.mem_of_mem_take hx)) h1 h8]

theorem int21_short {h : AH} {n k : Nat} {v : AV} {l : List AV} (hv : Sl h 1 n v l) (hn : n < k) (K : AV → AH → Prop) :
    Ev Try.prog S0 (.fn 21) [v, .int .i64 (k : Int)] h K = K (.tuple [.int .i64 0, .nils, .bool false]) h := by
  refine Ev.eq (ev_fn comp21 rfl rfl ?_) K
  have c1 : ((n : Int) < (k : Int)) := by omega
  simp [cc21, hv.len, c1]

/-! ### footers -/

def feet (l : List Ft) : List AV := (l.map Ft.cells).flatten

theorem Ft.cells_length (f : Ft) : f.cells.length = 8 := rfl

theorem feet_length (l : List Ft) : (feet l).length = l.length * 8 := by
  have := (flat_get (l.map Ft.cells) 8 (by simp [Ft.cells_length])).1
  simpa [feet] using this

theorem feet_get (l : List Ft) (j : Nat) (hj : j < l.length) : ((feet l).drop (j * 8)).take 8 = l[j].cells :=
  (flat_get (l.map Ft.cells) 8 (by simp [Ft.cells_length])).2 j l[j].cells (by simp [hj])

theorem foot_at {h : AH} {v : AV} {l : List Ft} {n : Nat} (hv : Sl h 8 n v (feet l)) (hn : l.length = n) {j : Nat} (hj : j < l.length) :
    ∃ id o, opIdxV 8 v (.int .i64 (j : Int)) = .ok (.ptr id o) ∧ loadN h id o 8 = .ok l[j].cells ∧ ∀ c, c < 8 → load1 h id (o + c) = ofO "load: out of the known cells" l[j].cells[c]? := by
  obtain ⟨id, o, e1, e2, e3⟩ := hv.get (k := .i64) (i := (j : Int)) rfl (by omega)
  rw [feet_get l j hj] at e3
  refine ⟨id, o, e1, e3, fun c hc => ?_⟩
  rw [e2 c hc, ← feet_get l j hj, List.getElem?_take, if_pos hc, List.getElem?_drop]

theorem store_foot (h : AH) {f : Ft} (hp : f.par.scalar = true) :
    opStore 8 (.ptr h.next 0) (.agg f.cells) (h.push (.cells [.int .i64 0, .int .i64 0, .int .i64 0, .int .i64 0, .int .i64 0, .int .i64 0, .int .i64 0, .nils] false)) = skipH (.ok (h.push (.cells f.cells false))) := by
  rw [opStore_agg _ _ _ _ f.cells_length]
  have e := storeN_all (h := h.push (.cells [.int .i64 0, .int .i64 0, .int .i64 0, .int .i64 0, .int .i64 0, .int .i64 0, .int .i64 0, .nils] false)) (id := h.next)
    (vs := [.int .i64 0, .int .i64 0, .int .i64 0, .int .i64 0, .int .i64 0, .int .i64 0, .int .i64 0, .nils]) (v := .int .i64 f.num)
    (l := [.int .i64 f.gen, .int .i64 f.level, .int .i64 f.rank, .int .i64 f.min, .int .i64 f.max, .int .i64 f.bytes, f.par]) (get_push_new _) rfl (by simp [hp])
  unfold Ft.cells
  rw [e, AH.set_push]

/-- footers in order, none twice -/
def canFrom (met : List Int) (rank : Int) : List Ft → Bool
  | [] => true
  | f :: l => can1 f && (decide (rank < f.rank) && (!met.contains f.num && canFrom (f.num :: met) f.rank l))

/-! ### a map of numbers that were met -/

theorem und3 : Try.prog.underlying 3 = some (.int .i64) := by kernel_rfl

theorem eqAt3 (a b : Int) : eqAt Try.prog 20 3 (.int .i64 a) (.int .i64 b) = .ok (a == b) := by
  unfold eqAt und
  rw [und3]
  simp [ofO, fitsScalar, eqScalar]

theorem keyOk3 (a : Int) : keyOk Try.prog 10 3 (.int .i64 a) = true := by
  unfold keyOk
  rw [und3]

def Met (es : List AEntry) (ks : List Int) : Prop := es.map (fun e => (e.key, e.val)) = ks.map fun k => (AV.int .i64 k, AV.bool true)

theorem find_met : ∀ (es : List AEntry) (ks : List Int) (a : Int) (i : Nat), Met es ks →
    (a ∈ ks → ∃ j, findE Try.prog 3 (.int .i64 a) es i = .ok (some (j, .bool true))) ∧ (a ∉ ks → findE Try.prog 3 (.int .i64 a) es i = .ok none)
  | [], ks, a, i, h => by
    have : ks = [] := by simpa [Met] using h.symm
    subst this
    exact ⟨fun h => (by cases h), fun _ => rfl⟩
  | e :: es, [], a, i, h => by simp [Met] at h
  | e :: es, k :: ks, a, i, h => by
    simp only [Met, List.map_cons, List.cons.injEq, Prod.mk.injEq] at h
    obtain ⟨⟨h1, h2⟩, h3⟩ := h
    obtain ⟨i1, i2⟩ := find_met es ks a (i + 1) h3
    simp only [findE, h1, eqAt3]
    by_cases hk : a = k
    · subst hk
      simp [h2]
    · have : (a == k) = false := by simpa using hk
      simp only [this, List.mem_cons, hk, false_or]
      exact ⟨i1, i2⟩

theorem lookup_met {h : AH} {m : Nat} {es : List AEntry} {clock : Nat} {ks : List Int} (hg : h.get m = some (.map es clock)) (hm : Met es ks) (a : Int) :
    opLookup Try.prog 3 (.bool false) false h (.map m) (.int .i64 a) = .ok (.bool (ks.contains a)) := by
  simp only [opLookup, entriesOf, hg, keyOk3, if_true]
  obtain ⟨i1, i2⟩ := find_met es ks a 0 hm
  by_cases ha : a ∈ ks
  · obtain ⟨j, e⟩ := i1 ha
    simp [e, withOk, ha]
  · simp [i2 ha, withOk, ha]

theorem upd_met {h : AH} {m : Nat} {es : List AEntry} {clock : Nat} {ks : List Int} (hg : h.get m = some (.map es clock)) (hm : Met es ks) {a : Int} (ha : a ∉ ks) :
    ∃ es', opUpd Try.prog 3 h (.map m) (.int .i64 a) (.bool true) = .ok (h.set m (.map es' (clock + 1))) ∧ Met es' (ks ++ [a]) := by
  refine ⟨es ++ [⟨.int .i64 a, .bool true, clock⟩], ?_, ?_⟩
  · simp only [opUpd, hg, keyOk3, if_true, (find_met es ks a 0 hm).2 ha]
  · unfold Met at hm ⊢
    simp [hm]

/-- the numbers that were met count alone -/
theorem canFrom_perm : ∀ (l : List Ft) (ks ks' : List Int) (r : Int), (∀ a, a ∈ ks ↔ a ∈ ks') → canFrom ks r l = canFrom ks' r l
  | [], _, _, _, _ => rfl
  | f :: l, ks, ks', r, h => by
    have h1 : ks.contains f.num = ks'.contains f.num := by
      rw [Bool.eq_iff_iff]; simp [h]
    simp only [canFrom, h1]
    rw [canFrom_perm l (f.num :: ks) (f.num :: ks') f.rank (fun a => by simp [h])]

theorem can14 {h : AH} {v : AV} {l : List Ft} {n : Nat} (hv : Sl h 8 n v (feet l)) (hn : l.length = n) (hp : ∀ f ∈ l, f.par.scalar = true) (hb : n < 2 ^ 62) :
    Ev Try.prog S0 (.fn 14) [v] h (fun r h' => r = .bool (canFrom [] 0 l) ∧ Fr h h') := by
  refine ev_fn comp14 rfl rfl ?_
  simp [cc14, hv.len, opMkM]
  refine w_count (n := n) (by rfl) (fun j σ ds h' => ds = [] ∧ σ 8 = v ∧ σ 9 = .int .i64 (n : Int) ∧ σ 3 = .map h.next ∧ Fr h h' ∧ h.next < h'.next ∧
    ∃ es clock ks rank, h'.get h.next = some (.map es clock) ∧ Met es ks ∧ σ 4 = .int .i64 rank ∧ canFrom ks rank (l.drop j) = canFrom [] 0 l) (by omega) (by simp) ?_ (fun j σ ds h' hJ => by simp [hJ.2.2.1]) ?_ ?_
  · simp only [upd_some, Nat.reduceEqDiff, if_true, if_false]
    exact ⟨trivial, trivial, trivial, trivial, Fr.push (.refl h) _, by simp, [], 0, [], 0, get_push_new _, rfl, rfl, rfl⟩
  · rintro j σ ds h' hj hi ⟨rfl, h8, h9, h3, hf, hlt, es, clock, ks, rank, hg, hm, h4, hc⟩
    have hjl : j < l.length := by omega
    obtain ⟨id, o, g1, g2, _⟩ := foot_at (hv.fr hf) hn hjl
    have hpar : l[j].par.scalar = true := hp _ (List.getElem_mem hjl)
    generalize hfe : l[j] = f at g2 hpar
    have hdrop : l.drop j = f :: l.drop (j + 1) := by rw [List.drop_eq_getElem_cons hjl, hfe]
    rw [hdrop] at hc
    have s1 := store_foot h' hpar
    have l1 : loadN (h'.push (.cells f.cells false)) h'.next 0 8 = .ok f.cells := loadN_of (get_push_new _) rfl
    have k1 : ((h'.push (.cells f.cells false)).push (.cells f.cells false)).get h'.next = some (.cells f.cells false) := by
      rw [get_push_old (by simp), get_push_new]
    have k2 : ((h'.push (.cells f.cells false)).push (.cells f.cells false)).get h.next = some (.map es clock) := by
      rw [get_push_old (by simp; omega), get_push_old (by omega), hg]
    have ld : ∀ c, load1 ((h'.push (.cells f.cells false)).push (.cells f.cells false)) h'.next c = ofO "load: out of the known cells" f.cells[c]? := fun c => load1_of k1
    have ld3 : load1 ((h'.push (.cells f.cells false)).push (.cells f.cells false)) h'.next 3 = .ok (.int .i64 f.rank) := ld 3
    have ld0 : load1 ((h'.push (.cells f.cells false)).push (.cells f.cells false)) h'.next 0 = .ok (.int .i64 f.num) := ld 0
    have lk := lookup_met k2 hm f.num
    have hF : Fr h ((h'.push (.cells f.cells false)).push (.cells f.cells false)) := (hf.push _).push _
    cases c1 : can1 f
    · simp only [canFrom, c1, Bool.false_and] at hc
      simp [h8, hi, g1, g2, s1, l1, can24, c1, ← hc, hF]
    by_cases c2 : f.rank ≤ rank
    · have c2' : ¬ rank < f.rank := by omega
      simp only [canFrom, c1, c2', decide_false, Bool.false_and, Bool.and_false] at hc
      simp [h8, hi, g1, g2, s1, l1, can24, c1, h4, ld3, c2, ← hc, hF]
    have c2' : rank < f.rank := by omega
    cases c3 : ks.contains f.num
    case true =>
      simp only [canFrom, c1, c3, Bool.not_true, Bool.false_and, Bool.and_false] at hc
      rw [c3] at lk
      simp [h8, h3, hi, g1, g2, s1, l1, can24, c1, h4, ld3, ld0, c2, lk, ← hc, hF]
    rw [c3] at lk
    obtain ⟨es', u1, u2⟩ := upd_met k2 hm (a := f.num) (by simpa using c3)
    simp only [canFrom, c1, c2', c3, decide_true, Bool.not_false, Bool.true_and] at hc
    have ld3' : load1 (((h'.push (.cells f.cells false)).push (.cells f.cells false)).set h.next (.map es' (clock + 1))) h'.next 3 = .ok (.int .i64 f.rank) := by
      rw [load1_of (vs := f.cells) (ro := false) (by rw [get_set_old (by omega)]; exact k1)]; rfl
    simp [h8, h9, h3, hi, g1, g2, s1, l1, can24, c1, h4, ld3, ld0, c2, lk, u1, ld3']
    refine ⟨hF.set _ (Nat.le_refl _), by omega, _, u2, ?_⟩
    rw [← hc]
    exact canFrom_perm _ _ _ _ (by simp [or_comm])
  · rintro σ ds h' ⟨rfl, h8, h9, h3, hf, hlt, es, clock, ks, rank, hg, hm, h4, hc⟩
    rw [List.drop_of_length_le (by omega)] at hc
    simp [← hc, canFrom, hf]

end Go.Proofs.Ythkoheaklmgonaa
