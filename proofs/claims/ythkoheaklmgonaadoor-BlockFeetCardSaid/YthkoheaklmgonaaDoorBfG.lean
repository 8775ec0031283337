import Derived.Test.YthkoheaklmgonaaDoorBfF
namespace Go.Proofs.YthkoheaklmgonaaDoor
open Go Go.Dr
set_option maxRecDepth 100000

theorem slice30 {h : AH} {es n : Nat} {v : AV} {l : List AV} (s : Sl h es n v l) {k2 k3 : IntKind} {b : Nat} (hbn : b ≤ n) :
    ∃ v', opSliceV es v none (some (.int k2 (b : Int))) (some (.int k3 (b : Int))) = .ok v' ∧ Sl h es b v' (l.take (b * es)) := by
  obtain ⟨v', e, s'⟩ := s.slice3 (k1 := .i64) (k2 := k2) (k3 := k3) (a := 0) (b := b) (Nat.zero_le _) hbn
  refine ⟨v', ?_, by simpa using s'⟩
  rw [← e]
  cases v <;> simp [opSliceV, boundsA, boundO, boundA]

def decM (bs : List Nat) : Nat := bs.getD 56 0
def decP (bs : List Nat) : List Int := rd8 (decM bs) (bs.drop 57)
def decFt (bs : List Nat) (p : AV) : Ft := ⟨g8 (bs.take 56) 0, g8 (bs.take 56) 1, g8 (bs.take 56) 2, g8 (bs.take 56) 3, g8 (bs.take 56) 4, g8 (bs.take 56) 5, g8 (bs.take 56) 6, p⟩
def zeroFt : Ft := ⟨0, 0, 0, 0, 0, 0, 0, .nils⟩
def decOk (bs : List Nat) : Prop := 56 < bs.length ∧ bs.length = 57 + 8 * decM bs ∧ canB (decFt bs .nils) (decP bs) = true

/-- what bytes are read as -/
def DecPost (h : AH) (bs : List Nat) (r : AV) (h' : AH) : Prop :=
  Fr h h' ∧ ((decOk bs ∧ ∃ p, r = .tuple [.agg (decFt bs p).cells, .int .i64 0] ∧ Sl h' 1 (decP bs).length p (iv (decP bs))) ∨ (¬ decOk bs ∧ r = .tuple [.agg zeroFt.cells, .int .i64 5]))

theorem store_cells {h : AH} {id : Nat} {vs : List AV} {f : Ft} (hp : f.par.scalar = true) (hg : h.get id = some (.cells vs false)) (hl : vs.length = 8) :
    opStore 8 (.ptr id 0) (.agg f.cells) h = skipH (.ok (h.set id (.cells f.cells false))) := by
  rw [opStore_agg _ _ _ _ f.cells_length]
  unfold Ft.cells
  rw [storeN_all hg (by rw [hl]; rfl) (by simp [hp])]

theorem dec8 {h : AH} {v : AV} {bs : List Nat} {n : Nat} (hv : Sl h 1 n v (by8 bs)) (hb : ∀ x ∈ bs, x < 256) : Ev Tryd.prog SB (.fn 8) [v] h (DecPost h bs) := by
  have hl : bs.length = n := by have := hv.1; simpa using this
  refine ev_fn comp8 rfl rfl ?_
  have f0 : Fr h (h.push (.cells zeroFt.cells false)) := Fr.push (.refl h) _
  have lz : loadN (h.push (.cells zeroFt.cells false)) h.next 0 8 = .ok zeroFt.cells := loadN_of (get_push_new _) rfl
  have sz := store_cells (f := zeroFt) (h := h.push (.cells zeroFt.cells false)) (id := h.next) rfl (get_push_new _) rfl
  rw [AH.set_push] at sz
  simp only [zeroFt, Ft.cells] at lz sz f0
  by_cases h56 : n ≤ 56
  · have e1 : (n : Int) ≤ 56 := by omega
    simp [cc8, hv.len, e1, sz, lz, DecPost, zeroFt, Ft.cells, resS, f0]
    intro hd
    have := hd.1
    omega
  have e1 : ¬ (n : Int) ≤ 56 := by omega
  have hlt : 56 < bs.length := by omega
  have hm : decM bs = bs[56] := by simp [decM, List.getD_eq_getElem?_getD, List.getElem?_eq_getElem hlt]
  have hm2 : decM bs < 256 := by rw [hm]; exact hb _ (List.getElem_mem hlt)
  obtain ⟨id, o, g1, g2, _⟩ := (hv.fr f0).get1 (k := .i64) (i := 56) (j := 56) rfl (by omega) (x := .int .u8 (decM bs : Int)) (by rw [by8_get, List.getElem?_eq_getElem hlt, hm]; rfl)
  have w1 : wrapF .i64 (decM bs : Int) = (decM bs : Int) := wrap_i64 (by omega) (by omega)
  have w2 : wrapF .i64 (8 * (decM bs : Int)) = 8 * (decM bs : Int) := wrap_i64 (by omega) (by omega)
  have w3 : wrapF .i64 (57 + 8 * (decM bs : Int)) = 57 + 8 * (decM bs : Int) := wrap_i64 (by omega) (by omega)
  by_cases hlen : n = 57 + 8 * decM bs
  case neg =>
    have e2 : ¬ ((n : Int) = 57 + 8 * (decM bs : Int)) := by omega
    simp [cc8, hv.len, e1, g1, g2, w1, w2, w3, e2, sz, lz, DecPost, zeroFt, Ft.cells, resS, f0]
    intro hd
    have := hd.2.1
    omega
  have e2 : (n : Int) = 57 + 8 * (decM bs : Int) := by omega
  obtain ⟨u1, a1, s1⟩ := slice30 (hv.fr f0) (k2 := .i64) (k3 := .i64) (b := 56) (by omega)
  rw [Nat.mul_one, by8_take] at s1
  obtain ⟨u2, a2, s2⟩ := hv.slice (lo := some (.int .i64 ((57 : Nat) : Int))) (hi := none) (a := 57) (b := n) (.inr ⟨.i64, rfl⟩) (.inl ⟨rfl, rfl⟩) (by omega) (Nat.le_refl _)
  have s2' : Sl h 1 (8 * decM bs) u2 (by8 (bs.drop 57)) := by
    have : (bs.drop 57).take (n - 57) = bs.drop 57 := List.take_of_length_le (by simp; omega)
    rw [show n - 57 = 8 * decM bs from by omega] at s2 this
    simpa [by8_take, by8_drop, this] using s2
  simp only [show ((56 : Nat) : Int) = 56 from rfl, show ((57 : Nat) : Int) = 57 from rfl] at a1 a2
  have e3 : ¬ (57 + 8 * (decM bs : Int) ≤ 56) := by omega
  simp [cc8, hv.len, e2, e3, g1, g2, w1, w2, w3, a1]
  have hb1 : ∀ x ∈ bs.take 56, x < 256 := fun x hx => hb x (List.mem_of_mem_take hx)
  have hb2 : ∀ x ∈ bs.drop 57, x < 256 := fun x hx => hb x (List.mem_of_mem_drop hx)
  refine (of25 (k := 7) s1 hb1 (by omega)).mono ?_
  rintro r1 h2 ⟨f2, o2⟩
  have hget : ∀ c : Nat, c < 7 → ∃ id o, opIdxV 1 r1 (.int .i64 (c : Int)) = .ok (.ptr id o) ∧ load1 h2 id o = .ok (.int .i64 (g8 (bs.take 56) c)) ∧ ∀ h', Fr h2 h' → load1 h' id o = .ok (.int .i64 (g8 (bs.take 56) c)) :=
    fun c hc => o2.sl.get1 (k := .i64) (i := (c : Int)) rfl hc (by rw [iv_get]; simp [rd8, hc])
  obtain ⟨q0, o0, x0, y0, z0⟩ := hget 0 (by omega)
  obtain ⟨q1, o1, x1, y1, z1⟩ := hget 1 (by omega)
  obtain ⟨q2, o2', x2, y2, z2⟩ := hget 2 (by omega)
  obtain ⟨q3, o3, x3, y3, z3⟩ := hget 3 (by omega)
  obtain ⟨q4, o4, x4, y4, z4⟩ := hget 4 (by omega)
  obtain ⟨q5, o5, x5, y5, z5⟩ := hget 5 (by omega)
  obtain ⟨q6, o6, x6, y6, z6⟩ := hget 6 (by omega)
  simp only [show ((0 : Nat) : Int) = 0 from rfl, show ((1 : Nat) : Int) = 1 from rfl, show ((2 : Nat) : Int) = 2 from rfl, show ((3 : Nat) : Int) = 3 from rfl, show ((4 : Nat) : Int) = 4 from rfl, show ((5 : Nat) : Int) = 5 from rfl, show ((6 : Nat) : Int) = 6 from rfl] at x0 x1 x2 x3 x4 x5 x6
  have f02 : Fr h h2 := f0.trans f2
  have fp : Fr h2 (h2.push (.cells zeroFt.cells false)) := (Fr.push (.refl h2) _)
  have hc2 : h2.get h.next = some (.cells zeroFt.cells false) := by rw [f2.get _ (by simp)]; exact get_push_new _
  have s2'' := s2'.fr (f02.trans fp)
  simp only [zeroFt, Ft.cells] at fp s2'' hc2
  simp [x0, x1, x2, x3, x4, x5, x6, y0, y1, y2, y3, y4, y5, y6, a2, z0 _ fp, z1 _ fp, z2 _ fp, z3 _ fp, z4 _ fp, z5 _ fp, z6 _ fp]
  refine (of25 s2'' hb2 (by omega)).mono ?_
  rintro p h3 ⟨f3, o3'⟩
  have fp3 := fp.trans f3
  have hk3 : h3.get h2.next = some (.cells [.int .i64 0, .int .i64 0, .int .i64 0, .int .i64 0, .int .i64 0, .int .i64 0, .int .i64 0, .nils] false) := by rw [f3.get _ (by simp)]; exact get_push_new _
  have st := store_cells (f := decFt bs p) (h := h3) (id := h2.next) o3'.sl.oneCell.2 hk3 rfl
  have op : Own h.next h3 1 (decM bs) p (iv (decP bs)) := o3'.base (by have h5 := f02.next; rw [AH.next_push]; omega)
  have np := o3'.ne (j := h2.next) (by simp)
  have np2 := o3'.ne (j := h.next) (by have h5 := f02.next; rw [AH.next_push]; omega)
  have s4 := op.set (.cells (decFt bs p).cells false) np
  have lN : loadN (h3.set h2.next (.cells (decFt bs p).cells false)) h2.next 0 8 = .ok (decFt bs p).cells := loadN_of (get_set_new _ _) rfl
  have hdl : (decP bs).length = decM bs := by simp [decP]
  have cn := can21 (h := h3.set h2.next (.cells (decFt bs p).cells false)) (f := decFt bs p) (ps := decP bs) (by rw [hdl]; exact s4.sl) (by omega)
  have hF3 : Fr h (h3.set h2.next (.cells (decFt bs p).cells false)) := (f02.trans fp3).set _ f02.next
  have hF4 := hF3.push (.cells (decFt bs p).cells false)
  have s5 : Own h.next ((h3.set h2.next (.cells (decFt bs p).cells false)).push (.cells (decFt bs p).cells false)) 1 (decM bs) p (iv (decP bs)) := s4.fr ((Fr.refl _).push _)
  have lN2 : loadN ((h3.set h2.next (.cells (decFt bs p).cells false)).push (.cells (decFt bs p).cells false)) h2.next 0 8 = .ok (decFt bs p).cells := loadN_of (by
    rw [get_push_old (by have h5 := f3.next; rw [AH.next_push] at h5; rw [AH.next_set]; omega)]; exact get_set_new _ _) rfl
  have hc3 : ((h3.set h2.next (.cells (decFt bs p).cells false)).push (.cells (decFt bs p).cells false)).get h.next = some (.cells [.int .i64 0, .int .i64 0, .int .i64 0, .int .i64 0, .int .i64 0, .int .i64 0, .int .i64 0, .nils] false) := by
    have h5 := f02.next
    have h6 := f2.next
    have h7 := fp3.next
    simp at h6
    rw [get_push_old (by simp; omega), get_set_old (by omega), fp3.get _ (by omega)]
    exact hc2
  have hcb : canB (decFt bs p) (decP bs) = canB (decFt bs .nils) (decP bs) := rfl
  have st1 := store_cells (f := zeroFt) rfl hc3 rfl
  have st2 := store_cells (f := decFt bs p) o3'.sl.oneCell.2 hc3 rfl
  simp only [decFt, zeroFt, Ft.cells] at st st1 st2 lN lN2 cn
  cases hcan : canB (decFt bs .nils) (decP bs)
  · have hno : ¬ decOk bs := fun hd => by rw [hd.2.2] at hcan; cases hcan
    rw [← hcb] at hcan
    simp only [decFt] at hcan
    simp [z0 _ fp3, z1 _ fp3, z2 _ fp3, z3 _ fp3, z4 _ fp3, z5 _ fp3, z6 _ fp3, splice_eq, o3'.sl.oneCell.1, st, lN, cn, hcan, st1, resS]
    exact ⟨hF4.set _ (Nat.le_refl _), .inr ⟨hno, rfl⟩⟩
  · have hyes : decOk bs := ⟨hlt, by omega, hcan⟩
    rw [← hcb] at hcan
    simp only [decFt] at hcan
    simp [z0 _ fp3, z1 _ fp3, z2 _ fp3, z3 _ fp3, z4 _ fp3, z5 _ fp3, z6 _ fp3, splice_eq, o3'.sl.oneCell.1, st, lN, cn, hcan, lN2, st2, resS]
    refine ⟨hF4.set _ (Nat.le_refl _), .inl ⟨hyes, p, rfl, ?_⟩⟩
    rw [hdl]
    exact (s5.set _ np2).sl

end Go.Proofs.YthkoheaklmgonaaDoor
