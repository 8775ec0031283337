/-
  Texts joined: BxChunk3, BxChunk4, BxChunk5, BxChunk6, BxChunk7, BxChunk8, BxChunk9, BxJ, BxI.
-/
import Derived.Test.YthkoheaklmgonaaDoorT6
import Derived.Test.YthkoheaklmgonaaDoorRows
import Derived.Test.YthkoheaklmgonaaDoorCards
import Derived.Test.YthkoheaklmgonaaDoorTie
import Derived.Test.YthkoheaklmgonaaDoorT2
import Derived.Lib.LaidIn
import Derived.SevenTiedAt
import Derived.SizedLaws
import Derived.Lib.LaidTab

namespace Go.Dk
open Go Go.Dr
set_option maxRecDepth 100000

/-- an entry, plain -/
structure Ep where
  ls : List Lab
  pl : Int
  sz : Int
  mn : Int
  mx : Int

def enC (x : AV × Ep) : List AV := [x.1, .int .i64 x.2.pl, .int .i64 x.2.sz, .int .i64 x.2.mn, .int .i64 x.2.mx]
def EnOk (h : AH) (x : AV × Ep) : Prop := Sl h 2 x.2.ls.length x.1 (x.2.ls.flatMap labC)
theorem EnOk.fr {h g : AH} {x : AV × Ep} (e : EnOk h x) (f : Fr h g) : EnOk g x := Sl.fr e f

def mnS (s : List Smp) : Int := match s[0]? with | some x => x.1 | none => 0
def mxS (s : List Smp) : Int := match s[s.length - 1]? with | some x => x.1 | none => 0

/-- the entries of bytes, and whether they end well -/
noncomputable def ents : Nat → Nat → List Nat → List Ep × Bool
  | 0, _, _ => ([], true)
  | f + 1, a, b => if b = [] then ([], true) else match chunkOf b with
    | none => ([], false)
    | some (l, s, n) => (⟨l, a, n, mnS s, mxS s⟩ :: (ents f (a + n) (b.drop n)).1, (ents f (a + n) (b.drop n)).2)

theorem chunkOf_le {b : List Nat} {l : List Lab} {s : List Smp} {n : Nat} (e : chunkOf b = some (l, s, n)) : 4 ≤ n ∧ n ≤ b.length ∧ s.length ≠ 0 ∧ Short l ∨ b.length ≥ 2 ^ 61 := by
  unfold chunkOf at e
  split at e
  · cases e
  · unfold chunkB at e
    split at e
    · cases e
    · split at e
      · cases e
      · rename_i l' rest hd
        split at e
        · cases e
        · split at e
          · cases e
          · cases e
            by_cases hbig : b.length ≥ 2 ^ 61
            · exact .inr hbig
            · refine .inl ⟨by omega, by omega, by omega, ?_⟩
              obtain ⟨_, _, h3⟩ := decL_ok hd
              intro x hx
              have := h3 x hx
              simp only [List.length_take, List.length_drop] at this
              omega

/-- a cursor's block -/
structure CurO (h : AH) (id : Nat) (v : AV) (n : Nat) (b : List Nat) (at' : Nat) (bad : Bool) : Prop where
  cells : h.get id = some (.cells [.bool true, v, .int .i64 (at' : Int), .bool bad] false)
  lt : id < h.next
  sl : Sl h 1 n v (by8 b)
  lo : ∀ i, idOf v = some i → i < id

theorem CurO.ne {h : AH} {id : Nat} {v : AV} {n : Nat} {b : List Nat} {at' : Nat} {bad : Bool} (u : CurO h id v n b at' bad) : idOf v ≠ some id := fun e => by have := u.lo _ e; omega

theorem CurO.fr {h g : AH} {id : Nat} {v : AV} {n : Nat} {b : List Nat} {at' : Nat} {bad : Bool} (u : CurO h id v n b at' bad) (f : Fr h g) : CurO g id v n b at' bad :=
  ⟨by rw [f.get _ u.lt, u.cells], Nat.lt_of_lt_of_le u.lt f.next, u.sl.fr f, u.lo⟩

theorem clone8 {h : AH} {v : AV} {l : List Nat} {n : Nat} (hv : Sl h 1 n v (by8 l)) (hn : n ≤ 2 ^ 36) : Ev P SI (.fn f_slices_Clone_byte_byte) [v] h fun r g => Sl g 1 n r (by8 l) ∧ Fr h g := by
  refine ev_fn k_slices_Clone_byte_byte rfl rfl ?_
  obtain ⟨b, hb, hb2⟩ := hv.isNil und_sl_uint8 true
  cases b with
  | true =>
    obtain ⟨rfl, rfl, hl⟩ := hb2 rfl
    simp [c_slices_Clone_byte_byte]
    exact ⟨hv, .refl _⟩
  | false =>
    have o0 : Own h.next (h.push (.cells [] false)) 1 0 (.slice h.next 0 0 0 true 1) [] := ⟨by simp, .inr ⟨h.next, 0, true, [], rfl, Nat.le_refl _, by simp, get_push_new _, by simp, by simp⟩⟩
    have f0 := Fr.push (.refl h) (.cells [] false)
    obtain ⟨v1, g1, e1, o1, fb, _⟩ := o0.append (bytes := 1) (hv.fr f0) (by simp) (by8_scalar _) (by omega) (by omega)
    simp [c_slices_Clone_byte_byte, hb, e1]
    rw [Nat.zero_add, List.nil_append] at o1
    exact ⟨o1.sl, ⟨Nat.le_trans f0.next fb.next, fun i hi => (fb.get i hi).trans (f0.get i hi)⟩⟩

theorem chunk_Open {h : AH} {v : AV} {b : List Nat} {n : Nat} (hv : Sl h 1 n v (by8 b)) (hn : n ≤ 2 ^ 30) : Ev P SI (.fn f_chunk_Open) [v, .int .i64 0] h fun r g => ∃ id u, r = .ptr id 0 ∧ h.next ≤ id ∧ CurO g id u n b 0 false ∧ Fr h g := by
  refine ev_fn k_chunk_Open rfl rfl ?_
  simp [c_chunk_Open]
  refine (clone8 hv (by omega)).mono ?_
  rintro u g ⟨su, f⟩
  have hc := su.oneCell
  have f1 := f.push (.cells [.bool true, u, .int .i64 0, .bool false] false)
  simp [hc.1, splice_eq, show min (0 : Int) 2147483647 = 0 from rfl]
  exact ⟨f.next, ⟨u, get_push_new _, Nat.lt_succ_self _, su.fr (Fr.push (.refl g) _), fun i e => Sl.idLt su e⟩, f1⟩

theorem chunk_Err {h : AH} {id : Nat} {v : AV} {n : Nat} {b : List Nat} {at' : Nat} {bad : Bool} (u : CurO h id v n b at' bad) (K : AV → AH → Prop) : Ev P SI (.fn f_chunk_Cursor_Err) [.ptr id 0] h K = K (.int .i64 (if bad = true then 5 else 0)) h := by
  refine Ev.eq (ev_fn k_chunk_Cursor_Err rfl rfl ?_) K
  have l0 : load1 h id 0 = .ok (.bool true) := load1_of u.cells
  have l3 : load1 h id 3 = .ok (.bool bad) := load1_of u.cells
  cases bad <;> simp [c_chunk_Cursor_Err, l0, l3]

def NextK (h : AH) (id : Nat) (n : Nat) (b : List Nat) (at' : Nat) (r : AV) (g : AH) : Prop :=
  FrX id h g ∧ if b = [] then r = .tuple [.agg [.nils, .int .i64 0, .int .i64 0, .int .i64 0, .int .i64 0], .nils, .bool false] ∧ ∃ v, CurO g id v n b at' false else
    match chunkOf b with
    | none => r = .tuple [.agg [.nils, .int .i64 0, .int .i64 0, .int .i64 0, .int .i64 0], .nils, .bool false] ∧ ∃ v, CurO g id v n b at' true
    | some (l, s, m) => ∃ lv sv v, r = .tuple [.agg (enC (lv, ⟨l, at', m, mnS s, mxS s⟩)), sv, .bool true] ∧ EnOk g (lv, ⟨l, at', m, mnS s, mxS s⟩) ∧ (∀ i, idOf lv = some i → h.next ≤ i) ∧ CurO g id v (n - m) (b.drop m) (at' + m) false

/-- labels' cells lie in no block without texts -/
theorem lab_set {g : AH} {n j : Nat} {lv : AV} {l : List Lab} {vs vs' : List AV} {ro ro' : Bool} (s : Sl g 2 n lv (l.flatMap labC)) (hg : g.get j = some (.cells vs ro)) (hvs : ∀ t, .str t ∉ vs) (hl : vs'.length = vs.length) :
    Sl (g.set j (.cells vs' ro')) 2 n lv (l.flatMap labC) := by
  refine ⟨s.1, ?_⟩
  rcases s.2 with e | ⟨i, off, cap, x, ws, rw', e1, e2, e3, e4, e5, e6⟩
  · exact .inl e
  · by_cases hij : i = j
    · subst hij
      rw [hg] at e4
      cases e4
      cases l with
      | nil =>
        have hn : n = 0 := by have := s.1; simp at this; omega
        subst hn
        exact .inr ⟨i, off, cap, x, vs', ro', e1, e2, e3, get_set_new _ _, by omega, by simp⟩
      | cons y l =>
        exfalso
        have : AV.str y.1 ∈ (vs.drop off).take (n * 2) := by rw [e6]; simp [labC]
        exact hvs _ (List.mem_of_mem_drop (List.mem_of_mem_take this))
    · exact .inr ⟨i, off, cap, x, ws, rw', e1, e2, e3, by rw [get_set_old hij]; exact e4, e5, e6⟩

theorem slice_id {es : Nat} {v v' : AV} {lo hi mx : Option AV} (e : opSliceV es v lo hi mx = .ok v') {i : Nat} (h : idOf v' = some i) : idOf v = some i := by
  unfold opSliceV at e
  split at e
  · split at e
    · cases e; cases h
    · cases e
  · split at e
    · split at e
      · cases e; exact h
      · cases e
    · cases e
  · cases e

theorem chunk_Next {h : AH} {id : Nat} {v : AV} {n : Nat} {b : List Nat} {at' : Nat} (u : CurO h id v n b at' false) (hn : n ≤ 2 ^ 30) (ha : at' ≤ 2 ^ 40) (hb : ∀ x ∈ b, x < 256) (ht : TabIn h) :
    Ev P SI (.fn f_chunk_Cursor_Next) [.ptr id 0] h (NextK h id n b at') := by
  refine ev_fn k_chunk_Cursor_Next rfl rfl ?_
  have hbl : b.length = n := by have := u.sl.1; simpa using this
  have fp := Fr.push (.refl h) (.cells [.nils, .int .i64 0, .int .i64 0, .int .i64 0, .int .i64 0] false)
  have gz : (h.push (.cells [.nils, .int .i64 0, .int .i64 0, .int .i64 0, .int .i64 0] false)).get h.next = some (.cells [.nils, .int .i64 0, .int .i64 0, .int .i64 0, .int .i64 0] false) := get_push_new _
  have gn : (h.push (.cells [.nils, .int .i64 0, .int .i64 0, .int .i64 0, .int .i64 0] false)).next = h.next + 1 := rfl
  generalize hg0 : h.push (.cells [.nils, .int .i64 0, .int .i64 0, .int .i64 0, .int .i64 0] false) = g0 at *
  have u0 := u.fr fp
  have l0 : load1 g0 id 0 = .ok (.bool true) := load1_of u0.cells
  have l1 : load1 g0 id 1 = .ok v := load1_of u0.cells
  have l3 : load1 g0 id 3 = .ok (.bool false) := load1_of u0.cells
  have hlt := u.lt
  have hvn : idOf v ≠ some h.next := fun e => by have := Sl.idLt u.sl e; omega
  have stz : ∀ {g : AH}, g.get h.next = some (.cells [.nils, .int .i64 0, .int .i64 0, .int .i64 0, .int .i64 0] false) → ∀ {l : List AV}, l.length = 5 → allScalar l = true → opStore 5 (.ptr h.next 0) (.agg l) g = skipH (.ok (g.set h.next (.cells l false))) := by
    intro g hg l hl hs
    rw [opStore_agg 5 _ _ l hl]
    cases l with
    | nil => simp at hl
    | cons x l => rw [storeN_all hg (by simpa using hl.symm) hs]
  by_cases hn0 : n = 0
  · have hb0 : b = [] := List.length_eq_zero_iff.1 (by omega)
    have st := stz gz (l := [.nils, .int .i64 0, .int .i64 0, .int .i64 0, .int .i64 0]) rfl rfl
    have gx : (g0.set h.next (.cells [.nils, .int .i64 0, .int .i64 0, .int .i64 0, .int .i64 0] false)).get h.next = some (.cells [.nils, .int .i64 0, .int .i64 0, .int .i64 0, .int .i64 0] false) := get_set_new _ _
    simp [c_chunk_Cursor_Next, hg0, l0, l1, l3, u0.sl.len, hn0, st]
    have ldx := loadN_of gx (n := 5) rfl
    rw [resS_many (id := h.next) (off := 0) (v := [.nils, .int .i64 0, .int .i64 0, .int .i64 0, .int .i64 0]) _ (by simp) ldx]
    simp [NextK, hb0]
    refine ⟨⟨Nat.le_trans fp.next (Nat.le_refl _), fun i hi hn => by rw [get_set_old (by omega), fp.get i hi]⟩, v, ?_, u0.lt, ?_, u.lo⟩
    · rw [get_set_old (by omega)]; exact u0.cells
    · have s0 := u0.sl
      rw [hn0, hb0] at s0
      exact Sl.setX s0 _ hvn
  have hbn : b ≠ [] := fun e => hn0 (by rw [← hbl, e]; rfl)
  simp [c_chunk_Cursor_Next, hg0, l0, l1, l3, u0.sl.len, hn0]
  refine (chunk_chunk u0.sl hn hb (ht.fr fp)).mono ?_
  rintro r g1 ⟨f1, hr⟩
  have u1 := u0.fr f1
  have gz1 := f1.get h.next (by omega)
  rw [gz] at gz1
  have hn1 := f1.next
  cases hc : chunkOf b with
  | none =>
    rw [hc] at hr
    simp only at hr
    subst hr
    have s1 := storeN_one (v := .bool true) (off := 3) u1.cells (by simp) rfl
    simp [splice_eq] at s1
    have gz2 : (g1.set id (.cells [.bool true, v, .int .i64 (at' : Int), .bool true] false)).get h.next = some (.cells [.nils, .int .i64 0, .int .i64 0, .int .i64 0, .int .i64 0] false) := by rw [get_set_old (by omega), gz1]
    have st := stz gz2 (l := [.nils, .int .i64 0, .int .i64 0, .int .i64 0, .int .i64 0]) rfl rfl
    have gx : ((g1.set id (.cells [.bool true, v, .int .i64 (at' : Int), .bool true] false)).set h.next (.cells [.nils, .int .i64 0, .int .i64 0, .int .i64 0, .int .i64 0] false)).get h.next = some (.cells [.nils, .int .i64 0, .int .i64 0, .int .i64 0, .int .i64 0] false) := get_set_new _ _
    simp [s1, st]
    have ldx := loadN_of gx (n := 5) rfl
    rw [resS_many (id := h.next) (off := 0) (v := [.nils, .int .i64 0, .int .i64 0, .int .i64 0, .int .i64 0]) _ (by simp) ldx]
    simp [NextK, hbn, hc]
    refine ⟨⟨Nat.le_trans fp.next f1.next, fun i hi hn => by rw [get_set_old (by omega), get_set_old hn, f1.get i (by omega), fp.get i hi]⟩, v, ?_, u1.lt, ?_, u.lo⟩
    · rw [get_set_old (by omega)]; exact get_set_new _ _
    · exact Sl.setX (Sl.setX u1.sl _ u.ne) _ hvn
  | some p =>
    obtain ⟨l, s, m⟩ := p
    rw [hc] at hr
    simp only at hr
    obtain ⟨lv, sv, rfl, sl, ss⟩ := hr
    obtain ⟨m4, mle, s0, _⟩ | hbig := chunkOf_le hc
    rotate_left
    · omega
    have fz := Fr.push (.refl g1) (.cells [.nils, .int .i64 0, .int .i64 0, .int .i64 0, .int .i64 0] false)
    obtain ⟨x0, hx0⟩ := at_some (l := s) (j := 0) (by omega)
    obtain ⟨x1, hx1⟩ := at_some (l := s) (j := s.length - 1) (by omega)
    obtain ⟨i0, o0, p0, _, p1, _⟩ := smp_t ss hx0
    obtain ⟨i1, o1, q0, _, q1, _⟩ := smp_t ss hx1
    obtain ⟨i0', o0', p0', _, p1', _⟩ := smp_t (ss.fr fz) hx0
    obtain ⟨i1', o1', q0', _, q1', _⟩ := smp_t (ss.fr fz) hx1
    rw [p0] at p0'
    cases p0'
    rw [q0] at q0'
    cases q0'
    have hmn : mnS s = x0.1 := by simp only [mnS, hx0]
    have hmx : mxS s = x1.1 := by simp only [mxS, hx1]
    have hsl : s.length ≤ 2 ^ 62 := by
      unfold chunkOf at hc
      split at hc
      · cases hc
      · unfold chunkB at hc
        split at hc
        · cases hc
        · split at hc
          · cases hc
          · split at hc
            · cases hc
            · split at hc
              · cases hc
              · cases hc
                omega
    have wl : wrapF .i64 ((s.length : Int) - 1) = ((s.length - 1 : Nat) : Int) := by rw [wrap_i64 (by omega) (by omega)]; omega
    have wa : wrapF .i64 ((at' : Int) + (m : Int)) = ((at' + m : Nat) : Int) := by rw [wrap_i64 (by omega) (by omega)]; omega
    have p0'' : opIdxV 2 sv (.int .i64 0) = .ok (.ptr i0 o0) := p0
    generalize x0.1 = mn at *
    generalize x1.1 = mx at *
    have hlvf : ∀ i, idOf lv = some i → h.next ≤ i := by
      intro i e
      have h1 : ¬ i < g0.next := fun hi => sl.ne hi e
      omega
    have hlc := sl.sl.oneCell
    have lz1 : load1 (g1.push (.cells [.nils, .int .i64 0, .int .i64 0, .int .i64 0, .int .i64 0] false)) id 2 = .ok (.int .i64 (at' : Int)) := load1_of (u1.fr fz).cells
    have la : load1 g1 id 2 = .ok (.int .i64 (at' : Int)) := load1_of u1.cells
    have m0 : ¬ m = 0 := by omega
    have stn := opStore_new (h := g1) (n := 5) (z := [.nils, .int .i64 0, .int .i64 0, .int .i64 0, .int .i64 0]) (l := [lv, .int .i64 (at' : Int), .int .i64 (m : Int), .int .i64 mn, .int .i64 mx]) rfl rfl (by simp [allScalar, hlc.2])
    have f2 := Fr.push (.refl g1) (.cells [lv, .int .i64 (at' : Int), .int .i64 (m : Int), .int .i64 mn, .int .i64 mx] false)
    have ge : (g1.push (.cells [lv, .int .i64 (at' : Int), .int .i64 (m : Int), .int .i64 mn, .int .i64 mx] false)).get g1.next = some (.cells [lv, .int .i64 (at' : Int), .int .i64 (m : Int), .int .i64 mn, .int .i64 mx] false) := get_push_new _
    have ge0 : (g1.push (.cells [lv, .int .i64 (at' : Int), .int .i64 (m : Int), .int .i64 mn, .int .i64 mx] false)).next = g1.next + 1 := rfl
    have u2 := u1.fr f2
    have sl2 := sl.sl.fr f2
    have gz2 := f2.get h.next (by omega)
    rw [gz1] at gz2
    generalize hg2 : g1.push (.cells [lv, .int .i64 (at' : Int), .int .i64 (m : Int), .int .i64 mn, .int .i64 mx] false) = g2 at *
    have l21 : load1 g2 id 1 = .ok v := load1_of u2.cells
    have l22 : load1 g2 id 2 = .ok (.int .i64 (at' : Int)) := load1_of u2.cells
    obtain ⟨v', ev', sv'⟩ := u2.sl.slice (lo := some (.int .i64 (m : Int))) (hi := none) (a := m) (b := n) (.inr ⟨.i64, rfl⟩) (.inl ⟨rfl, rfl⟩) (by omega) (Nat.le_refl _)
    rw [Nat.mul_one, Nat.mul_one, by8_drop, by8_take, List.take_of_length_le (by simp; omega)] at sv'
    have hvc := sv'.oneCell
    obtain ⟨am, ham⟩ : ∃ am, am = at' + m := ⟨_, rfl⟩
    rw [← ham] at wa
    have s1 := storeN_one (v := v') (off := 1) u2.cells (by simp) hvc.2
    simp [splice_eq] at s1
    have gy1 : (g2.set id (.cells [.bool true, v', .int .i64 (at' : Int), .bool false] false)).get id = some (.cells [.bool true, v', .int .i64 (at' : Int), .bool false] false) := get_set_new _ _
    have s2 := storeN_one (v := .int .i64 (am : Int)) (off := 2) gy1 (by simp) rfl
    simp [splice_eq] at s2
    have hne1 : id ≠ g1.next := by omega
    have hne2 : id ≠ h.next := by omega
    have ge3 : (g2.set id (.cells [.bool true, v', .int .i64 (am : Int), .bool false] false)).get g1.next = some (.cells [lv, .int .i64 (at' : Int), .int .i64 (m : Int), .int .i64 mn, .int .i64 mx] false) := by rw [get_set_old (by omega), ge]
    have gz3 : (g2.set id (.cells [.bool true, v', .int .i64 (am : Int), .bool false] false)).get h.next = some (.cells [.nils, .int .i64 0, .int .i64 0, .int .i64 0, .int .i64 0] false) := by rw [get_set_old (by omega), gz2]
    have ld3 := loadN_of ge3 (n := 5) rfl
    have hsc : allScalar [lv, .int .i64 (at' : Int), .int .i64 (m : Int), .int .i64 mn, .int .i64 mx] = true := by simp [allScalar, hlc.2]
    have st := stz gz3 (l := [lv, .int .i64 (at' : Int), .int .i64 (m : Int), .int .i64 mn, .int .i64 mx]) rfl hsc
    have gx : ((g2.set id (.cells [.bool true, v', .int .i64 (am : Int), .bool false] false)).set h.next (.cells [lv, .int .i64 (at' : Int), .int .i64 (m : Int), .int .i64 mn, .int .i64 mx] false)).get h.next = some (.cells [lv, .int .i64 (at' : Int), .int .i64 (m : Int), .int .i64 mn, .int .i64 mx] false) := get_set_new _ _
    have ldx := loadN_of gx (n := 5) rfl
    have hsame := u2.sl.same
    generalize hs1 : s.length - 1 = sl1 at *
    simp [m0, la, p0'', p1, ss.len, wl, q0, q1, splice_eq, hlc.1, lz1, p1', q1', stn, hg2, l21, ev', l22, wa, hsame, hvc.1, s1, s2, opLoadN, ld3, st]
    rw [resS_many (id := h.next) (off := 0) (v := [lv, .int .i64 (at' : Int), .int .i64 (m : Int), .int .i64 mn, .int .i64 mx]) _ (by simp) ldx]
    simp [NextK, hbn, hc]
    have hvid : idOf v' ≠ some id := by
      exact fun e => u2.ne (slice_id ev' e)
    have hvhn : idOf v' ≠ some h.next := fun e => hvn (slice_id ev' e)
    have sl3 := lab_set (vs' := [.bool true, v', .int .i64 (am : Int), .bool false]) (ro' := false) sl2 u2.cells (fun t h => by
      rcases u2.sl.2 with ⟨rfl, _⟩ | ⟨i2, off2, cap2, x2, vs2, ro2, rfl, _⟩ <;> simp at h) rfl
    have sl4 := lab_set (vs' := [lv, .int .i64 (at' : Int), .int .i64 (m : Int), .int .i64 mn, .int .i64 mx]) (ro' := false) sl3 gz3 (fun t h => by simp at h) rfl
    rw [ham]
    rw [ham] at sl4
    refine ⟨⟨Nat.le_trans fp.next (Nat.le_trans f1.next f2.next), fun i hi hn => by rw [get_set_old (by omega), get_set_old hn, f2.get i (by omega), f1.get i (by omega), fp.get i hi]⟩, lv, by rw [hmn, hmx]; rfl, sl4, hlvf, v', ?_, u2.lt, ?_, fun i e => u2.lo i (slice_id ev' e)⟩
    · rw [get_set_old (by omega)]; exact get_set_new _ _
    · exact Sl.setX (Sl.setX sv' _ hvid) _ hvhn

end Go.Dk

namespace Go.Dk
open Go Go.Dr
set_option maxRecDepth 100000

/-- an entry behind another one -/
def okNext : Option Ep → Ep → Bool
  | none, _ => true
  | some p, x => !decide (0 < cmpL p.ls x.ls) && !(decide (cmpL p.ls x.ls = 0) && decide (x.mn ≤ p.mx))

def ok1 (pos : Int) (x : Ep) : Bool := canL x.ls && decide (x.mn ≤ x.mx) && decide (1 ≤ x.sz) && decide (x.sz ≤ 2147483647) && decide (x.pl = pos)

def canFE (pos : Int) (prev : Option Ep) : List Ep → Bool
  | [] => true
  | x :: l => ok1 pos x && okNext prev x && canFE (wrapF .i64 (pos + x.sz)) (some x) l

def canE (l : List Ep) : Bool := canFE 0 none l && decide (l.length ≤ 100000)

theorem en_len (xs : List (AV × Ep)) : (xs.flatMap enC).length = xs.length * 5 := flatMap_len xs (fun _ _ => rfl)

theorem en_at {h : AH} {n : Nat} {v : AV} {xs : List (AV × Ep)} (s : Sl h 5 n v (xs.flatMap enC)) {j : Nat} {x : AV × Ep} (hx : xs[j]? = some x) :
    ∃ id o, opIdxV 5 v (.int .i64 (j : Int)) = .ok (.ptr id o) ∧ loadN h id o 5 = .ok (enC x) ∧ load1 h id o = .ok x.1 ∧ load1 h id (o + 3) = .ok (.int .i64 x.2.mn) ∧ load1 h id (o + 4) = .ok (.int .i64 x.2.mx) ∧ id < h.next := by
  obtain ⟨id, o, h1, h2, h3, h4⟩ := s.elem (fun _ _ => rfl) (by omega) (k := .i64) (i := (j : Int)) rfl hx
  exact ⟨id, o, h1, h2, h3 0 _ rfl, h3 3 _ rfl, h3 4 _ rfl, h4⟩

def prevOf (xs : List (AV × Ep)) (j : Nat) : Option Ep := if j = 0 then none else (xs[j - 1]?).map (·.2)

/-- how far entries are looked at -/
def CanJ (xs : List (AV × Ep)) (j : Nat) (pos : Int) : Prop := canFE 0 none (xs.map (·.2)) = canFE pos (prevOf xs j) ((xs.drop j).map (·.2))

theorem CanJ.step {xs : List (AV × Ep)} {j : Nat} {pos : Int} {x : AV × Ep} (c : CanJ xs j pos) (hx : xs[j]? = some x) :
    canFE 0 none (xs.map (·.2)) = (ok1 pos x.2 && okNext (prevOf xs j) x.2 && canFE (wrapF .i64 (pos + x.2.sz)) (some x.2) ((xs.drop (j + 1)).map (·.2))) := by
  rw [c, drop_at hx, List.map_cons, canFE]

theorem CanJ.next {xs : List (AV × Ep)} {j : Nat} {pos : Int} {x : AV × Ep} (c : CanJ xs j pos) (hx : xs[j]? = some x) (h1 : ok1 pos x.2 = true) (h2 : okNext (prevOf xs j) x.2 = true) : CanJ xs (j + 1) (wrapF .i64 (pos + x.2.sz)) := by
  have := c.step hx
  rw [h1, h2] at this
  unfold CanJ
  rw [this]
  simp [prevOf, hx]

theorem canE_no {l : List Ep} (h : canFE 0 none l = false) : canE l = false := by simp [canE, h]

theorem index_Can {h : AH} {n : Nat} {v : AV} {xs : List (AV × Ep)} (s : Sl h 5 n v (xs.flatMap enC)) (hn : n ≤ 2 ^ 40) (he : ∀ x ∈ xs, EnOk h x ∧ Short x.2.ls ∧ x.2.ls.length < 2 ^ 62) :
    Ev P SI (.fn f_index_Can) [v] h fun r g => r = .bool (canE (xs.map (·.2))) ∧ Fr h g := by
  refine ev_fn k_index_Can rfl rfl ?_
  have hl : xs.length = n := by have := s.1; rw [en_len] at this; omega
  simp [c_index_Can, s.len]
  refine w_count (n := n) (by rfl) (fun j σ ds g => ds = [] ∧ σ 0 = v ∧ σ 8 = v ∧ σ 9 = .int .i64 (n : Int) ∧ Fr h g ∧ ∃ pos, σ 3 = .int .i64 pos ∧ CanJ xs j pos) (by omega) (by simp)
    ⟨rfl, by simp, by simp, by simp, .refl _, 0, by simp, rfl⟩ (fun j σ ds g hJ => by simp [hJ.2.2.2.1]) ?_ ?_
  · rintro j σ ds g hj hi ⟨rfl, e0, e8, e9, fr, pos, e3, hJ⟩
    obtain ⟨x, hx⟩ := at_some (l := xs) (j := j) (by omega)
    obtain ⟨hok, hsh, hll⟩ := he x (List.mem_of_getElem? hx)
    obtain ⟨id, o, a1, a2, _⟩ := en_at (s.fr fr) hx
    have okg := hok.fr fr
    have hlc := Sl.oneCell okg
    have stn := opStore_new (h := g) (n := 5) (z := [.nils, .int .i64 0, .int .i64 0, .int .i64 0, .int .i64 0]) (l := enC x) rfl rfl (by simp [enC, allScalar, hlc.2])
    have fp := Fr.push (.refl g) (.cells (enC x) false)
    have ge : (g.push (.cells (enC x) false)).get g.next = some (.cells (enC x) false) := get_push_new _
    have gn : (g.push (.cells (enC x) false)).next = g.next + 1 := rfl
    generalize hg1 : g.push (.cells (enC x) false) = g1 at *
    have ok1' := okg.fr fp
    have m0 : load1 g1 g.next 0 = .ok x.1 := load1_of ge
    have hstep := hJ.step hx
    simp [e8, hi, a1, opLoadN, a2, stn, m0]
    refine (labels_Can ok1' hsh).mono ?_
    rintro r g2 ⟨rfl, f2⟩
    have ge2 := f2.get g.next (by omega)
    rw [ge] at ge2
    have F2 := (fr.trans fp).trans f2
    have m0 : load1 g2 g.next 0 = .ok x.1 := load1_of ge2
    have m1 : load1 g2 g.next 1 = .ok (.int .i64 x.2.pl) := load1_of ge2
    have m2 : load1 g2 g.next 2 = .ok (.int .i64 x.2.sz) := load1_of ge2
    have m3 : load1 g2 g.next 3 = .ok (.int .i64 x.2.mn) := load1_of ge2
    have m4 : load1 g2 g.next 4 = .ok (.int .i64 x.2.mx) := load1_of ge2
    have no : ok1 pos x.2 = false → canE (xs.map (·.2)) = false := fun h => canE_no (by rw [hstep, h]; rfl)
    cases c1 : canL x.2.ls with
    | false =>
      have := no (by simp [ok1, c1])
      simp [this]
      exact F2
    | true =>
    by_cases c2 : x.2.mn ≤ x.2.mx
    case neg =>
      have := no (by simp [ok1, c2])
      have c2' : x.2.mx < x.2.mn := by omega
      simp [m3, m4, c2', this]
      exact F2
    have c2' : ¬ x.2.mx < x.2.mn := by omega
    by_cases c3 : 1 ≤ x.2.sz
    case neg =>
      have := no (by simp [ok1, c3])
      have c3' : x.2.sz < 1 := by omega
      simp [m2, m3, m4, c2', c3', this]
      exact F2
    have c3' : ¬ x.2.sz < 1 := by omega
    by_cases c4 : x.2.sz ≤ 2147483647
    case neg =>
      have := no (by simp [ok1, c4])
      have c4' : 2147483647 < x.2.sz := by omega
      simp [m2, m3, m4, c2', c3', c4', this]
      exact F2
    have c4' : ¬ 2147483647 < x.2.sz := by omega
    by_cases c5 : x.2.pl = pos
    case neg =>
      have := no (by simp [ok1, c5])
      simp [m1, m2, m3, m4, e3, c2', c3', c4', c5, this]
      exact F2
    have hok1 : ok1 pos x.2 = true := by simp [ok1, c1, c2, c3, c4, c5]
    by_cases hj0 : j = 0
    · subst hj0
      have hnx := hJ.next hx hok1 (by simp [prevOf, okNext])
      simp [m1, m2, m3, m4, e3, c2', c3', c4', c5, e0, e8, e9, hi]
      exact ⟨F2, hnx⟩
    obtain ⟨i, rfl⟩ : ∃ i, j = i + 1 := ⟨j - 1, by omega⟩
    obtain ⟨y, hy⟩ := at_some (l := xs) (j := i) (by omega)
    obtain ⟨hoky, _, hlly⟩ := he y (List.mem_of_getElem? hy)
    have hpv : prevOf xs (i + 1) = some y.2 := by simp [prevOf, hy]
    rw [hpv] at hstep
    obtain ⟨idy, oy, b1, b2, _⟩ := en_at (s.fr F2) hy
    have okgy := hoky.fr F2
    have hlcy := Sl.oneCell okgy
    have stn2 := opStore_new (h := g2) (n := 5) (z := [.nils, .int .i64 0, .int .i64 0, .int .i64 0, .int .i64 0]) (l := enC y) rfl rfl (by simp [enC, allScalar, hlcy.2])
    have fp2 := Fr.push (.refl g2) (.cells (enC y) false)
    have gy : (g2.push (.cells (enC y) false)).get g2.next = some (.cells (enC y) false) := get_push_new _
    have gyn : (g2.push (.cells (enC y) false)).next = g2.next + 1 := rfl
    generalize hg3 : g2.push (.cells (enC y) false) = g3 at *
    have hnn := f2.next
    have ge3 := fp2.get g.next (by omega)
    rw [ge2] at ge3
    have m03 : load1 g3 g.next 0 = .ok x.1 := load1_of ge3
    have q0 : load1 g3 g2.next 0 = .ok y.1 := load1_of gy
    have hpos : (0 : Int) < ((i + 1 : Nat) : Int) := by omega
    have w1 : wrapF .i64 (((i + 1 : Nat) : Int) - 1) = (i : Int) := by rw [wrap_i64 (by omega) (by omega)]; omega
    have w1' : wrapF .i64 (i : Int) = (i : Int) := wrap_i64 (by omega) (by omega)
    have hip : 0 < i + 1 := by omega
    generalize hjj : ((i + 1 : Nat) : Int) = j1 at *
    simp [m1, m2, m3, m4, e3, c2', c3', c4', c5, e0, hi, hpos, w1, w1', b1, opLoadN, b2, stn2, hg3, m03, q0]
    refine (labels_Compare ((okgy).fr fp2) (((okg.fr fp).fr f2).fr fp2) hlly hll).mono ?_
    rintro r g4 ⟨rfl, f4⟩
    have F4 := (F2.trans fp2).trans f4
    have ge4 := f4.get g.next (by omega)
    rw [ge3] at ge4
    have gy4 := f4.get g2.next (by omega)
    rw [gy] at gy4
    have n3 : load1 g4 g.next 3 = .ok (.int .i64 x.2.mn) := load1_of ge4
    have n4 : load1 g4 g2.next 4 = .ok (.int .i64 y.2.mx) := load1_of gy4
    have no2 : okNext (some y.2) x.2 = false → canE (xs.map (·.2)) = false := fun h => canE_no (by rw [hstep, h]; simp)
    generalize hcm : cmpL y.2.ls x.2.ls = cm at *
    by_cases d1 : 0 < cm
    · have := no2 (by simp [okNext, hcm, d1])
      simp [d1, this]
      exact F4
    · by_cases d2 : cm = 0
      · by_cases d3 : x.2.mn ≤ y.2.mx
        · have := no2 (by simp [okNext, hcm, d2, d3])
          simp [d2, n3, n4, d3, this]
          exact F4
        · have hnx := hJ.next hx hok1 (by rw [hpv]; simp [okNext, hcm, d2, d3])
          simp [d2, n3, n4, d3, e0, e8, e9, hi]
          exact ⟨F4, hnx⟩
      · have hnx := hJ.next hx hok1 (by rw [hpv]; simp [okNext, hcm, d1, d2])
        simp [d1, d2, e0, e8, e9, hi]
        exact ⟨F4, hnx⟩
  · rintro σ ds g ⟨rfl, e0, e8, e9, fr, pos, e3, hJ⟩
    have : canFE 0 none (xs.map (·.2)) = true := by rw [hJ, List.drop_of_length_le (by omega)]; rfl
    have hc : canE (xs.map (·.2)) = decide ((n : Int) ≤ 100000) := by
      simp only [canE, this, Bool.true_and, List.length_map, hl]
      congr 1
      simp only [eq_iff_iff]
      omega
    simp [e0, s.len, hc]
    exact fr

end Go.Dk

namespace Go.Dk
open Go Go.Dr
set_option maxRecDepth 100000

theorem ref13_Can {h : AH} {n : Nat} {v : AV} {xs : List (AV × Ep)} (s : Sl h 5 n v (xs.flatMap enC)) (hn : n ≤ 2 ^ 40) (he : ∀ x ∈ xs, EnOk h x ∧ Short x.2.ls ∧ x.2.ls.length < 2 ^ 62) :
    Ev P SI (.fn f_ref13_Can) [v] h fun r g => r = .bool (canE (xs.map (·.2))) ∧ Fr h g := by
  refine ev_fn k_ref13_Can rfl rfl ?_
  have hl : xs.length = n := by have := s.1; rw [en_len] at this; omega
  simp [c_ref13_Can, s.len]
  refine w_count (n := n) (by rfl) (fun j σ ds g => ds = [] ∧ σ 0 = v ∧ σ 7 = v ∧ σ 8 = .int .i64 (n : Int) ∧ Fr h g ∧ ∃ pos, σ 3 = .int .i64 pos ∧ CanJ xs j pos) (by omega) (by simp)
    ⟨rfl, by simp, by simp, by simp, .refl _, 0, by simp, rfl⟩ (fun j σ ds g hJ => by simp [hJ.2.2.2.1]) ?_ ?_
  · rintro j σ ds g hj hi ⟨rfl, e0, e7, e8, fr, pos, e3, hJ⟩
    obtain ⟨x, hx⟩ := at_some (l := xs) (j := j) (by omega)
    obtain ⟨hok, hsh, hll⟩ := he x (List.mem_of_getElem? hx)
    obtain ⟨id, o, a1, a2, _⟩ := en_at (s.fr fr) hx
    have okg := hok.fr fr
    have hlc := Sl.oneCell okg
    have stn := opStore_new (h := g) (n := 5) (z := [.nils, .int .i64 0, .int .i64 0, .int .i64 0, .int .i64 0]) (l := enC x) rfl rfl (by simp [enC, allScalar, hlc.2])
    have fp := Fr.push (.refl g) (.cells (enC x) false)
    have ge : (g.push (.cells (enC x) false)).get g.next = some (.cells (enC x) false) := get_push_new _
    have gn : (g.push (.cells (enC x) false)).next = g.next + 1 := rfl
    generalize hg1 : g.push (.cells (enC x) false) = g1 at *
    have ok1' := okg.fr fp
    have m0 : load1 g1 g.next 0 = .ok x.1 := load1_of ge
    have hstep := hJ.step hx
    simp [e7, hi, a1, opLoadN, a2, stn, m0]
    refine (ref07_Can ok1' hsh).mono ?_
    rintro r g2 ⟨rfl, f2⟩
    have ge2 := f2.get g.next (by omega)
    rw [ge] at ge2
    have F2 := (fr.trans fp).trans f2
    have m0 : load1 g2 g.next 0 = .ok x.1 := load1_of ge2
    have m1 : load1 g2 g.next 1 = .ok (.int .i64 x.2.pl) := load1_of ge2
    have m2 : load1 g2 g.next 2 = .ok (.int .i64 x.2.sz) := load1_of ge2
    have m3 : load1 g2 g.next 3 = .ok (.int .i64 x.2.mn) := load1_of ge2
    have m4 : load1 g2 g.next 4 = .ok (.int .i64 x.2.mx) := load1_of ge2
    have no : ok1 pos x.2 = false → canE (xs.map (·.2)) = false := fun h => canE_no (by rw [hstep, h]; rfl)
    cases c1 : canL x.2.ls with
    | false =>
      have := no (by simp [ok1, c1])
      simp [this]
      exact F2
    | true =>
    by_cases c2 : x.2.mn ≤ x.2.mx
    case neg =>
      have := no (by simp [ok1, c2])
      have c2' : x.2.mx < x.2.mn := by omega
      simp [m3, m4, c2', this]
      exact F2
    have c2' : ¬ x.2.mx < x.2.mn := by omega
    by_cases c3 : 1 ≤ x.2.sz
    case neg =>
      have := no (by simp [ok1, c3])
      have c3' : x.2.sz < 1 := by omega
      simp [m2, m3, m4, c2', c3', this]
      exact F2
    have c3' : ¬ x.2.sz < 1 := by omega
    by_cases c4 : x.2.sz ≤ 2147483647
    case neg =>
      have := no (by simp [ok1, c4])
      have c4' : 2147483647 < x.2.sz := by omega
      simp [m2, m3, m4, c2', c3', c4', this]
      exact F2
    have c4' : ¬ 2147483647 < x.2.sz := by omega
    by_cases c5 : x.2.pl = pos
    case neg =>
      have := no (by simp [ok1, c5])
      simp [m1, m2, m3, m4, e3, c2', c3', c4', c5, this]
      exact F2
    have hok1 : ok1 pos x.2 = true := by simp [ok1, c1, c2, c3, c4, c5]
    by_cases hj0 : j = 0
    · subst hj0
      have hnx := hJ.next hx hok1 (by simp [prevOf, okNext])
      simp [m1, m2, m3, m4, e3, c2', c3', c4', c5, e0, e7, e8, hi]
      exact ⟨F2, hnx⟩
    obtain ⟨i, rfl⟩ : ∃ i, j = i + 1 := ⟨j - 1, by omega⟩
    obtain ⟨y, hy⟩ := at_some (l := xs) (j := i) (by omega)
    obtain ⟨hoky, _, hlly⟩ := he y (List.mem_of_getElem? hy)
    have hpv : prevOf xs (i + 1) = some y.2 := by simp [prevOf, hy]
    rw [hpv] at hstep
    obtain ⟨idy, oy, b1, b2, _⟩ := en_at (s.fr F2) hy
    have okgy := hoky.fr F2
    obtain ⟨_, _, b1', _, b3, _, b5, _⟩ := en_at (s.fr F2) hy
    rw [b1] at b1'
    cases b1'
    have hlcy := Sl.oneCell okgy
    have hsy := Sl.same okgy
    have hsx := Sl.same okg
    have hpos : (0 : Int) < ((i + 1 : Nat) : Int) := by omega
    have w1 : wrapF .i64 (((i + 1 : Nat) : Int) - 1) = (i : Int) := by rw [wrap_i64 (by omega) (by omega)]; omega
    have w1' : wrapF .i64 (i : Int) = (i : Int) := wrap_i64 (by omega) (by omega)
    have cmp := ref07_Compare okgy ((okg.fr fp).fr f2) hlly hll
    have hne : ¬ ((i : Int) + 1 = 0) := by omega
    have F4 := F2
    have no2 : okNext (some y.2) x.2 = false → canE (xs.map (·.2)) = false := fun h => canE_no (by rw [hstep, h]; simp)
    generalize hcm : cmpL y.2.ls x.2.ls = cm at *
    have hjc : ((i + 1 : Nat) : Int) ≠ 0 := by omega
    by_cases d1 : 0 < cm
    · have := no2 (by simp [okNext, hcm, d1])
      simp [m0, m1, m2, m3, m4, e3, c2', c3', c4', c5, e0, e7, e8, hi, hne, w1, w1', b1, b3, b5, cmp, hsy, hsx, d1, this]
      exact F4
    · by_cases d2 : cm = 0
      · by_cases d3 : x.2.mn ≤ y.2.mx
        · have := no2 (by simp [okNext, hcm, d2, d3])
          simp [m0, m1, m2, m3, m4, e3, c2', c3', c4', c5, e0, e7, e8, hi, hne, w1, w1', b1, b3, b5, cmp, hsy, hsx, d2, d3, this]
          exact F4
        · have hnx := hJ.next hx hok1 (by rw [hpv]; simp [okNext, hcm, d2, d3])
          simp [m0, m1, m2, m3, m4, e3, c2', c3', c4', c5, e0, e7, e8, hi, hne, w1, w1', b1, b3, b5, cmp, hsy, hsx, d2, d3]
          exact ⟨F4, hnx⟩
      · have hnx := hJ.next hx hok1 (by rw [hpv]; simp [okNext, hcm, d1, d2])
        simp [m0, m1, m2, m3, m4, e3, c2', c3', c4', c5, e0, e7, e8, hi, hne, w1, w1', b1, b3, b5, cmp, hsy, hsx, d1, d2]
        exact ⟨F4, hnx⟩
  · rintro σ ds g ⟨rfl, e0, e7, e8, fr, pos, e3, hJ⟩
    have : canFE 0 none (xs.map (·.2)) = true := by rw [hJ, List.drop_of_length_le (by omega)]; rfl
    have hc : canE (xs.map (·.2)) = decide ((n : Int) ≤ 100000) := by
      simp only [canE, this, Bool.true_and, List.length_map, hl]
      congr 1
      simp only [eq_iff_iff]
      omega
    simp [e0, s.len, hc]
    exact fr

end Go.Dk

namespace Go.Dk
open Go Go.Dr
set_option maxRecDepth 100000

/-- entries that are laid one behind another -/
def AccI (B : Nat) (g : AH) (acc : AV) (xs : List (AV × Ep)) : Prop :=
  Own B g 5 xs.length acc (xs.flatMap enC) ∧ ∀ x ∈ xs, EnOk g x ∧ (∀ i, idOf x.1 = some i → B ≤ i ∧ idOf acc ≠ some i) ∧ Short x.2.ls ∧ x.2.ls.length < 2 ^ 62

theorem AccI.nil (B : Nat) (g : AH) : AccI B g .nils [] := ⟨Own.nil _ _, fun x hx => by simp at hx⟩

theorem AccI.fr {B : Nat} {g g' : AH} {acc : AV} {xs : List (AV × Ep)} (a : AccI B g acc xs) (f : Fr g g') : AccI B g' acc xs :=
  ⟨a.1.fr f, fun x hx => ⟨(a.2 x hx).1.fr f, (a.2 x hx).2⟩⟩

theorem AccI.frX {B id : Nat} {g g' : AH} {acc : AV} {xs : List (AV × Ep)} (a : AccI B g acc xs) (f : FrX id g g') (hid : id < B) : AccI B g' acc xs :=
  ⟨Own.frX a.1 f hid, fun x hx => ⟨Sl.frX (a.2 x hx).1 f (fun e => by have := ((a.2 x hx).2.1 _ e).1; omega), (a.2 x hx).2⟩⟩

theorem AccI.set {B j : Nat} {g : AH} {acc : AV} {xs : List (AV × Ep)} (a : AccI B g acc xs) (o : AObj) (h1 : idOf acc ≠ some j) (h2 : ∀ x ∈ xs, idOf x.1 ≠ some j) : AccI B (g.set j o) acc xs :=
  ⟨a.1.set _ h1, fun x hx => ⟨Sl.setX (a.2 x hx).1 _ (h2 x hx), (a.2 x hx).2⟩⟩

theorem AccI.snoc {B : Nat} {g : AH} {acc : AV} {xs : List (AV × Ep)} (a : AccI B g acc xs) (hB : B ≤ g.next) {x : AV × Ep} (hx : EnOk g x) (hf : ∀ i, idOf x.1 = some i → B ≤ i ∧ idOf acc ≠ some i) (hs : Short x.2.ls) (hl : x.2.ls.length < 2 ^ 62) (hn : xs.length ≤ 2 ^ 30) :
    ∃ v' g', opApp 5 56 acc (.slice g.next 0 1 1 true 5) (g.push (.cells (enC x) false)) = okV v' g' ∧ AccI B g' v' (xs ++ [x]) ∧ FrB B g g' ∧ (∀ i, i < g.next → idOf acc ≠ some i → g'.get i = g.get i) ∧ (∀ i, idOf v' = some i → idOf acc = some i ∨ g.next < i) := by
  have hc := Sl.oneCell hx
  obtain ⟨v', g', e, o, f, p1, p2⟩ := a.1.snoc2 (x := enC x) (bytes := 56) hB rfl (by simp [enC, allScalar, hc.2]) (by omega) (by omega)
  have keep : ∀ y : AV × Ep, EnOk g y → (∀ i, idOf y.1 = some i → B ≤ i ∧ idOf acc ≠ some i) → EnOk g' y ∧ (∀ i, idOf y.1 = some i → B ≤ i ∧ idOf v' ≠ some i) := by
    intro y hy hyf
    refine ⟨⟨hy.1, ?_⟩, fun i hi => ⟨(hyf i hi).1, fun e => ?_⟩⟩
    · rcases hy.2 with e | ⟨i, off, cap, z, vs, ro, e1, e2, e3, e4, e5, e6⟩
      · exact .inl e
      · exact .inr ⟨i, off, cap, z, vs, ro, e1, Nat.lt_of_lt_of_le e2 f.next, e3, by rw [p1 i e2 (hyf i (by rw [e1]; rfl)).2]; exact e4, e5, e6⟩
    · rcases p2 i e with e | e
      · exact (hyf i hi).2 e
      · have := Sl.idLt hy hi; omega
  refine ⟨v', g', e, ⟨?_, fun y hy => ?_⟩, f, p1, p2⟩
  · rw [List.length_append, List.flatMap_append]
    simpa using o
  · rcases List.mem_append.1 hy with h | h
    · obtain ⟨h1, h2⟩ := keep y (a.2 y h).1 (a.2 y h).2.1
      exact ⟨h1, h2, (a.2 y h).2.2⟩
    · simp at h
      subst h
      obtain ⟨h1, h2⟩ := keep y hx hf
      exact ⟨h1, h2, hs, hl⟩

/-- what stands behind a call of Next: an entry in its block, or the end -/
def BldI (B id e : Nat) (b0 : List Nat) (q : Nat) (acc ok : AV) (g : AH) : Prop :=
  ∃ xs, AccI B g acc xs ∧ xs.length ≤ 2 ^ 29 ∧ e < g.next ∧ B ≤ e ∧ idOf acc ≠ some e ∧ (∀ x ∈ xs, idOf x.1 ≠ some e) ∧
    ((ok = .bool false ∧ ∃ v n b at', CurO g id v n b at' (!(ents b0.length 0 b0).2) ∧ xs.map (·.2) = (ents b0.length 0 b0).1) ∨
     (ok = .bool true ∧ ∃ x v n b at' f, g.get e = some (.cells (enC x) false) ∧ EnOk g x ∧ (∀ i, idOf x.1 = some i → B ≤ i ∧ idOf acc ≠ some i) ∧ idOf x.1 ≠ some e ∧ Short x.2.ls ∧ x.2.ls.length < 2 ^ 62 ∧
        CurO g id v n b at' false ∧ n ≤ 2 ^ 20 ∧ at' + n ≤ 2 ^ 20 ∧ (∀ y ∈ b, y < 256) ∧ b.length ≤ f ∧ f < q ∧ xs.length + 1 + b.length ≤ b0.length ∧
        xs.map (·.2) ++ x.2 :: (ents f at' b).1 = (ents b0.length 0 b0).1 ∧ (ents f at' b).2 = (ents b0.length 0 b0).2))

theorem chunkOf_lab {b : List Nat} {l : List Lab} {s : List Smp} {n : Nat} (hb : b.length ≤ 2 ^ 30) (h256 : ∀ y ∈ b, y < 256) (e : chunkOf b = some (l, s, n)) : Short l ∧ l.length < 2 ^ 62 ∧ 4 ≤ n ∧ n ≤ b.length := by
  obtain ⟨h1, h2, _, h3⟩ | h := chunkOf_le e
  rotate_left
  · omega
  refine ⟨h3, ?_, h1, h2⟩
  unfold chunkOf at e
  split at e
  · cases e
  · unfold chunkB at e
    split at e
    · cases e
    · split at e
      · cases e
      · rename_i l' rest hd
        split at e
        · cases e
        · split at e
          · cases e
          · cases e
            have hcm : ∀ y ∈ (List.take (beV (List.take 4 b)) (List.drop 4 b)), y < 256 := fun y hy => h256 y (List.mem_of_mem_drop (List.mem_of_mem_take hy))
            generalize (List.take (beV (List.take 4 b)) (List.drop 4 b)) = c at *
            cases c with
            | nil => cases hd
            | cons k r =>
              simp only [decL] at hd
              cases hl : labsN k r with
              | none => rw [hl] at hd; cases hd
              | some p =>
                rw [hl] at hd
                simp only at hd
                split at hd
                · cases hd
                  obtain ⟨q1, q2, q3, q4⟩ := labsN_len hl
                  have := hcm k (by simp)
                  omega
                · cases hd

/-- what Next answers, laid into the entry's block -/
theorem bld_next {B id e f : Nat} {b0 : List Nat} {g g2 : AH} {acc : AV} {xs : List (AV × Ep)} {v : AV} {n : Nat} {b : List Nat} {at' : Nat} {r : AV}
    (ha : AccI B g acc xs) (hu : CurO g id v n b at' false) (hxl : xs.length + b.length ≤ b0.length) (hb0 : b0.length ≤ 2 ^ 20) (hat : at' + n ≤ 2 ^ 20) (h256 : ∀ y ∈ b, y < 256) (hbf : b.length ≤ f) (hBg : B ≤ g.next)
    (hrel : xs.map (·.2) ++ (ents f at' b).1 = (ents b0.length 0 b0).1 ∧ (ents f at' b).2 = (ents b0.length 0 b0).2) (hr : NextK g id n b at' r g2) :
    ∃ c s ok, r = .tuple [.agg c, s, .bool ok] ∧ c.length = 5 ∧ allScalar c = true ∧ FrX id g g2 ∧ ∀ g3, g3.get e = some (.cells c false) → AccI B g3 acc xs → e < g3.next → B ≤ e → idOf acc ≠ some e → (∀ x ∈ xs, idOf x.1 ≠ some e) →
      (∀ (v : AV) (n : Nat) (b : List Nat) (at' : Nat) (bad : Bool), CurO g2 id v n b at' bad → CurO g3 id v n b at' bad) → (∀ x, EnOk g2 x → idOf x.1 ≠ some e → EnOk g3 x) → (∀ i, g.next ≤ i → i < g2.next → i ≠ e) → BldI B id e b0 f acc (.bool ok) g3 := by
  obtain ⟨fx, hr⟩ := hr
  have hbl : b.length = n := by have := hu.sl.1; simpa using this
  by_cases hbn : b = []
  · rw [if_pos hbn] at hr
    obtain ⟨rfl, v2, hu2⟩ := hr
    refine ⟨_, _, _, rfl, rfl, rfl, fx, fun g3 _ h2 h3 h4 h5 h6 h7 h8 h9 => ⟨xs, h2, by omega, h3, h4, h5, h6, .inl ⟨rfl, v2, n, b, at', ?_, ?_⟩⟩⟩
    · subst hbn
      have : (ents f at' []).2 = true := by cases f <;> simp [ents]
      rw [← hrel.2, this]
      exact h7 _ _ _ _ _ hu2
    · subst hbn
      have : (ents f at' []).1 = [] := by cases f <;> simp [ents]
      rw [← hrel.1, this, List.append_nil]
  rw [if_neg hbn] at hr
  obtain ⟨f', rfl⟩ : ∃ f', f = f' + 1 := ⟨f - 1, by have : b.length ≠ 0 := fun h => hbn (List.length_eq_zero_iff.1 h); omega⟩
  rw [ents, if_neg hbn] at hrel
  cases hc : chunkOf b with
  | none =>
    rw [hc] at hr hrel
    simp only at hr hrel
    obtain ⟨rfl, v2, hu2⟩ := hr
    refine ⟨_, _, _, rfl, rfl, rfl, fx, fun g3 _ h2 h3 h4 h5 h6 h7 h8 h9 => ⟨xs, h2, by omega, h3, h4, h5, h6, .inl ⟨rfl, v2, n, b, at', ?_, ?_⟩⟩⟩
    · rw [← hrel.2]
      exact h7 _ _ _ _ _ hu2
    · rw [← hrel.1, List.append_nil]
  | some p =>
    obtain ⟨l, s, m⟩ := p
    rw [hc] at hr hrel
    simp only at hr hrel
    obtain ⟨lv, sv, v2, rfl, hok, hlvf, hu2⟩ := hr
    obtain ⟨hsh, hll, hm4, hmb⟩ := chunkOf_lab (by omega) h256 hc
    have hlc := Sl.oneCell hok
    refine ⟨_, _, _, rfl, rfl, by simp [enC, allScalar, hlc.2], fx, fun g3 h1 h2 h3 h4 h5 h6 h7 h8 h9 => ?_⟩
    have hid : ∀ i, idOf lv = some i → g.next ≤ i ∧ i < g2.next := fun i hi => ⟨hlvf i hi, Sl.idLt hok hi⟩
    have hne : idOf lv ≠ some e := fun hi => h9 e (hid e hi).1 (hid e hi).2 rfl
    refine ⟨xs, h2, by omega, h3, h4, h5, h6, .inr ⟨rfl, _, v2, n - m, b.drop m, at' + m, f', h1, h8 _ hok hne, fun i hi => ⟨by have := (hid i hi).1; omega, fun e2 => ?_⟩, hne, hsh, hll, h7 _ _ _ _ _ hu2, by omega, by omega, fun y hy => h256 y (List.mem_of_mem_drop hy), by simp; omega, by omega, by simp; omega, hrel.1, hrel.2⟩⟩
    have h10 := Sl.idLt ha.1.sl e2
    have := (hid i hi).1
    omega

/-- what comes of bytes as an index -/
def BuildK (h : AH) (b : List Nat) (r : AV) (g : AH) : Prop :=
  Fr h g ∧ if (ents b.length 0 b).2 = true ∧ canE (ents b.length 0 b).1 = true then
      ∃ (v : AV) (xs : List (AV × Ep)), r = .tuple [v, .int .i64 0] ∧ xs.map (·.2) = (ents b.length 0 b).1 ∧ Sl g 5 xs.length v (xs.flatMap enC) ∧ xs.length ≤ 2 ^ 29 ∧ ∀ x ∈ xs, EnOk g x ∧ Short x.2.ls ∧ x.2.ls.length < 2 ^ 62
    else r = .tuple [.nils, .int .i64 5]

theorem CurO.set {h : AH} {id j : Nat} {v : AV} {n : Nat} {b : List Nat} {at' : Nat} {bad : Bool} (u : CurO h id v n b at' bad) (o : AObj) (hj : id < j) : CurO (h.set j o) id v n b at' bad :=
  ⟨by rw [get_set_old (by omega), u.cells], u.lt, Sl.setX u.sl _ (fun e => by have := u.lo _ e; omega), u.lo⟩

theorem CurO.frB {h g : AH} {B id : Nat} {v : AV} {n : Nat} {b : List Nat} {at' : Nat} {bad : Bool} (u : CurO h id v n b at' bad) (f : FrB B h g) (hid : id < B) : CurO g id v n b at' bad := by
  refine ⟨by rw [f.get _ hid, u.cells], Nat.lt_of_lt_of_le u.lt f.next, ⟨u.sl.1, ?_⟩, u.lo⟩
  rcases u.sl.2 with e | ⟨i, off, cap, x, vs, ro, e1, e2, e3, e4, e5, e6⟩
  · exact .inl e
  · exact .inr ⟨i, off, cap, x, vs, ro, e1, Nat.lt_of_lt_of_le e2 f.next, e3, by rw [f.get i (by have := u.lo i (by rw [e1]; rfl); omega)]; exact e4, e5, e6⟩

end Go.Dk

namespace Go.Dk
open Go Go.Dr
set_option maxRecDepth 100000

theorem store5 {g : AH} {e : Nat} {l5 c : List AV} (hg : g.get e = some (.cells l5 false)) (h5 : l5.length = 5) (hc : c.length = 5) (hs : allScalar c = true) : opStore 5 (.ptr e 0) (.agg c) g = skipH (.ok (g.set e (.cells c false))) := by
  rw [opStore_agg 5 _ _ c hc]
  cases c with
  | nil => simp at hc
  | cons x l => rw [storeN_all hg (by rw [h5]; exact hc.symm) hs]

theorem index_Build {h : AH} {n : Nat} {v : AV} {b : List Nat} (s : Sl h 1 n v (by8 b)) (hn : n ≤ 2 ^ 20) (hb : ∀ x ∈ b, x < 256) (ht : TabIn h) : Ev P SI (.fn f_index_Build) [v] h (BuildK h b) := by
  refine ev_fn k_index_Build rfl rfl ?_
  have hbl : b.length = n := by have := s.1; simpa using this
  simp [c_index_Build]
  refine (chunk_Open s (by omega)).mono ?_
  rintro r g ⟨id, u, rfl, hid, hu, f1⟩
  simp
  refine (chunk_Next hu (by omega) (by omega) hb (ht.fr f1)).mono ?_
  rintro r g2 hr
  obtain ⟨B, hB⟩ : ∃ B, B = g.next := ⟨_, rfl⟩
  have hidB : id < B := by have := hu.lt; omega
  obtain ⟨c, sv, ok, rfl, hc5, hcs, fx, hlay⟩ := bld_next (B := B) (e := g2.next) (f := b.length) (b0 := b) (xs := []) (acc := .nils) (AccI.nil _ _) hu (by simp) (by omega) (by omega) hb (Nat.le_refl _) (by omega) ⟨by simp, rfl⟩ hr
  have f2 := Fr.push (.refl g2) (.cells c false)
  have hB2 : B ≤ g2.next := by have := fx.next; omega
  have I0 := hlay (g2.push (.cells c false)) (get_push_new _) (AccI.nil _ _) (Nat.lt_succ_self _) hB2 (by simp [idOf]) (fun x hx => by simp at hx) (fun _ _ _ _ _ u => u.fr f2) (fun x hx _ => EnOk.fr hx f2) (fun i h1 h2 => by omega)
  have stn := opStore_new (h := g2) (n := 5) (z := [.nils, .int .i64 0, .int .i64 0, .int .i64 0, .int .i64 0]) (l := c) rfl hc5 hcs
  have F2 : Fr h (g2.push (.cells c false)) := ⟨Nat.le_trans f1.next (Nat.le_trans fx.next f2.next), fun i hi => by rw [f2.get i (by have := f1.next; have := fx.next; omega), fx.get i (by have := f1.next; omega) (by omega), f1.get i hi]⟩
  simp [stn]
  generalize hg3 : g2.push (.cells c false) = g3 at *
  generalize he0 : g2.next = e0 at *
  refine w_mono (Q := fun x σ ds g => x = .exit 0 ∧ ds = [] ∧ σ 4 = .ptr id 0 ∧ Fr h g ∧ ∃ e q, BldI B id e b q (σ 5) (.bool false) g) ?_ ?_
  · refine w_loop (fun q σ ds g => ds = [] ∧ σ 4 = .ptr id 0 ∧ Fr h g ∧ ∃ e, σ 6 = .ptr e 0 ∧ BldI B id e b q (σ 5) (σ 8) g) b.length ⟨rfl, by simp, F2, e0, by simp, by simpa using I0⟩ ?_
    rintro q σ ds g ⟨rfl, e4, F, e, e6, xs, ha, hxl, he, hBe, hae, hxe, hcase⟩
    generalize h5 : σ 5 = acc at *
    rcases hcase with ⟨ok8, v2, n2, b2, at2, hu2, hxs⟩ | ⟨ok8, x, v2, n2, b2, at2, f, hge, hx, hxf, hxne, hsh, hll, hu2, hn2, hat2, h256, hbf, hfq, hlen, hrel⟩
    · simp [ok8, e4, h5]
      exact ⟨F, e, q, xs, ha, hxl, he, hBe, hae, hxe, .inl ⟨rfl, v2, n2, b2, at2, hu2, hxs⟩⟩
    have hBg : B ≤ g.next := by omega
    obtain ⟨acc', g4, ap, ha4, fb4, p4, i4⟩ := ha.snoc hBg hx hxf hsh hll (by omega)
    have ld := loadN_of hge (n := 5) rfl
    have hu4 := hu2.frB fb4 hidB
    have hge4 : g4.get e = some (.cells (enC x) false) := by rw [p4 e he hae, hge]
    have ld4 := loadN_of hge4 (n := 5) rfl
    have hxlc := Sl.oneCell hx
    have hcsx : allScalar (enC x) = true := by simp [enC, allScalar, hxlc.2]
    have stn4 := opStore_new (h := g4) (n := 5) (z := [.nils, .int .i64 0, .int .i64 0, .int .i64 0, .int .i64 0]) (l := enC x) rfl rfl hcsx
    have f5 := Fr.push (.refl g4) (.cells (enC x) false)
    have ge5 : (g4.push (.cells (enC x) false)).get g4.next = some (.cells (enC x) false) := get_push_new _
    have gn5 : (g4.push (.cells (enC x) false)).next = g4.next + 1 := rfl
    generalize hg5 : g4.push (.cells (enC x) false) = g5 at *
    have hB4 := fb4.next
    have ha5 := ha4.fr f5
    have hu5 := hu4.fr f5
    have F5 : Fr h g5 := ⟨by have := F.next; omega, fun i hi => by rw [f5.get i (by have := F.next; omega), fb4.get i (by have := f1.next; omega), F.get i hi]⟩
    have hb2l : b2.length = n2 := by have := hu2.sl.1; simpa using this
    simp [ok8, h5, e4, e6, opLoadN, ld, splice_eq, show (enC x).length = 5 from rfl, ap, ld4, stn4, hg5]
    refine (chunk_Next hu5 (by omega) (by omega) h256 (ht.fr F5)).mono ?_
    rintro r g6 hr6
    have hacc4 : idOf acc' ≠ some g4.next := fun e => by have := Sl.idLt ha4.1.sl e; omega
    obtain ⟨c6, sv6, ok6, rfl, hc6, hs6, fx6, lay6⟩ := bld_next (B := B) (e := g4.next) (f := f) (b0 := b) (xs := xs ++ [x]) (acc := acc') ha5 hu5 (by simp; omega) (by omega) hat2 h256 hbf (by omega) ⟨by simpa using hrel.1, hrel.2⟩ hr6
    have ge6 := fx6.get g4.next (by omega) (by omega)
    rw [ge5] at ge6
    have st6 := store5 ge6 rfl hc6 hs6
    have hold : ∀ y ∈ xs ++ [x], idOf y.1 ≠ some g4.next := fun y hy e => by
      have := Sl.idLt (ha4.2 y hy).1 e
      omega
    have I6 := lay6 (g6.set g4.next (.cells c6 false)) (get_set_new _ _) ((ha5.frX fx6 hidB).set _ hacc4 hold) (by show g4.next < g6.next; have := fx6.next; omega) (by omega) hacc4 hold
      (fun _ _ _ _ _ u => u.set _ (by omega)) (fun y hy hne => Sl.setX hy _ hne) (fun i h1 h2 => by omega)
    simp [e4, st6, Kloop_normal]
    refine ⟨f, by omega, ⟨?_, ?_⟩, I6⟩
    · show h.next ≤ g6.next
      have := F5.next
      have := fx6.next
      omega
    · intro i hi
      rw [get_set_old (by have := f1.next; omega), fx6.get i (by have := F5.next; omega) (by omega), F5.get i hi]
  · rintro x σ ds g ⟨rfl, rfl, e4, F, e, q, xs, ha, hxl, he, hBe, hae, hxe, ⟨_, v2, n2, b2, at2, hu2, hxs⟩ | ⟨h, _⟩⟩
    rotate_left
    · cases h
    generalize h5 : σ 5 = acc at *
    have er := chunk_Err hu2
    unfold BuildK
    cases hb2 : (ents b.length 0 b).2 with
    | false =>
      rw [hb2] at er
      simp [e4, er]
      exact F
    | true =>
      rw [hb2] at er
      simp [e4, er, h5]
      refine (index_Can ha.1.sl (by omega) (fun x hx => ⟨(ha.2 x hx).1, (ha.2 x hx).2.2⟩)).mono ?_
      rintro r g2 ⟨rfl, f2⟩
      rw [hxs]
      cases hcn : canE (ents b.length 0 b).1 with
      | false =>
        simp
        exact F.trans f2
      | true =>
        simp [h5]
        exact ⟨F.trans f2, xs, hxs, ha.1.sl.fr f2, by omega, fun y z hx => ⟨EnOk.fr (ha.2 (y, z) hx).1 f2, (ha.2 (y, z) hx).2.2⟩⟩

end Go.Dk

namespace Go.Dk
open Go Go.Dr
set_option maxRecDepth 100000

theorem Own.keep {B es n : Nat} {g g' : AH} {a v : AV} {l : List AV} (s : Own B g es n v l) (hn : g.next ≤ g'.next) (p : ∀ i, i < g.next → idOf a ≠ some i → g'.get i = g.get i) (h : ∀ i, idOf v = some i → idOf a ≠ some i) : Own B g' es n v l := by
  refine ⟨s.1, ?_⟩
  rcases s.2 with e | ⟨i, off, x, vs, e1, e2, e3, e4, e5⟩
  · exact .inl e
  · exact .inr ⟨i, off, x, vs, e1, e2, Nat.lt_of_lt_of_le e3 hn, by rw [p i e3 (h i (by rw [e1]; rfl))]; exact e4, e5⟩

theorem Sl.keep {es n : Nat} {g g' : AH} {a v : AV} {l : List AV} (s : Sl g es n v l) (hn : g.next ≤ g'.next) (p : ∀ i, i < g.next → idOf a ≠ some i → g'.get i = g.get i) (h : ∀ i, idOf v = some i → idOf a ≠ some i) : Sl g' es n v l := by
  refine ⟨s.1, ?_⟩
  rcases s.2 with e | ⟨i, off, cap, x, vs, ro, e1, e2, e3, e4, e5, e6⟩
  · exact .inl e
  · exact .inr ⟨i, off, cap, x, vs, ro, e1, Nat.lt_of_lt_of_le e2 hn, e3, by rw [p i e2 (h i (by rw [e1]; rfl))]; exact e4, e5, e6⟩

/-- so far: entries xs, samples sacc -/
def AllI (h : AH) (b0 : List Nat) (f : Nat) (bv pos acc sacc : AV) (g : AH) : Prop :=
  ∃ xs n b at' k sl, Fr h g ∧ bv = bv ∧ Sl h 1 n bv (by8 b) ∧ pos = .int .i64 ((at' : Nat) : Int) ∧ at' + n ≤ 2 ^ 20 ∧ (∀ y ∈ b, y < 256) ∧ b.length ≤ f ∧ xs.length + b.length ≤ b0.length ∧
    AccI h.next g acc xs ∧ Own h.next g 1 k sacc sl ∧ k ≤ xs.length ∧ (∀ i, idOf sacc = some i → idOf acc ≠ some i) ∧ (∀ x ∈ xs, ∀ i, idOf x.1 = some i → idOf sacc ≠ some i) ∧
    xs.map (·.2) ++ (ents f at' b).1 = (ents b0.length 0 b0).1 ∧ (ents f at' b).2 = (ents b0.length 0 b0).2

def AllK (h : AH) (b : List Nat) (r : AV) (g : AH) : Prop :=
  Fr h g ∧ ∃ acc xs sacc, r = .tuple [acc, sacc, .int .i64 (if (ents b.length 0 b).2 = true then 0 else 5)] ∧ xs.map (·.2) = (ents b.length 0 b).1 ∧ AccI h.next g acc xs ∧ xs.length ≤ 2 ^ 20

theorem ref12_All {h : AH} {n : Nat} {v : AV} {b : List Nat} (s : Sl h 1 n v (by8 b)) (hn : n ≤ 2 ^ 20) (hb : ∀ x ∈ b, x < 256) : Ev P SI (.fn f_ref12_All) [v, .int .i64 0] h (AllK h b) := by
  refine ev_fn k_ref12_All rfl rfl ?_
  have hbl : b.length = n := by have := s.1; simpa using this
  simp [c_ref12_All, show min (0 : Int) 2147483647 = 0 from rfl]
  refine w_mono (Q := fun x σ ds g => ds = [] ∧ ((x = .exit 0 ∧ (ents b.length 0 b).2 = true ∧ ∃ xs, Fr h g ∧ AccI h.next g (σ 7) xs ∧ xs.map (·.2) = (ents b.length 0 b).1 ∧ xs.length ≤ 2 ^ 20) ∨
      (x = .ret ∧ ∃ acc sacc, σ 4 = acc ∧ σ 5 = sacc ∧ σ 6 = .int .i64 5 ∧ (ents b.length 0 b).2 = false ∧ ∃ xs, Fr h g ∧ AccI h.next g acc xs ∧ xs.map (·.2) = (ents b.length 0 b).1 ∧ xs.length ≤ 2 ^ 20))) ?_ ?_
  rotate_left
  · rintro x σ ds g ⟨rfl, ⟨rfl, h2, xs, F, ha, hx, hl⟩ | ⟨rfl, acc, sacc, e4, e5, e6, h2, xs, F, ha, hx, hl⟩⟩
    · simp
      exact ⟨F, σ 7, xs, σ 8, by simp [h2], hx, ha, hl⟩
    · simp [e4, e5, e6]
      exact ⟨F, acc, xs, sacc, by simp [h2], hx, ha, hl⟩
  refine w_loop (fun q σ ds g => ds = [] ∧ AllI h b q (σ 0) (σ 1) (σ 7) (σ 8) g) b.length ⟨rfl, [], n, b, 0, 0, [], .refl _, rfl, by simpa using s, by simp, by omega, hb, Nat.le_refl _, by simp, by simpa using AccI.nil _ _, by simpa using Own.nil _ _, by simp, fun i e => by simp [idOf] at e, fun x hx => by simp at hx, by simp, rfl⟩ ?_
  rintro q σ ds g ⟨rfl, xs, n', b', at', k, sl, F, _, sb, hpos, hat, h256, hbf, hlen, ha, hso, hk, hsa, hxs, hr1, hr2⟩
  generalize h0 : σ 0 = bv at *
  generalize h1 : σ 1 = pos at *
  generalize h7 : σ 7 = acc at *
  generalize h8 : σ 8 = sacc at *
  have hbl' : b'.length = n' := by have := sb.1; simpa using this
  by_cases hn0 : n' = 0
  · have hb0 : b' = [] := List.length_eq_zero_iff.1 (by omega)
    subst hb0
    have e1 : (ents q at' []).1 = [] := by cases q <;> simp [ents]
    have e2 : (ents q at' []).2 = true := by cases q <;> simp [ents]
    rw [e1, List.append_nil] at hr1
    rw [e2] at hr2
    simp [h0, sb.len, hn0]
    exact ⟨hr2.symm, F, xs, by rw [h7]; exact ha, hr1, by omega⟩
  have hbn : b' ≠ [] := fun e => hn0 (by rw [← hbl', e]; rfl)
  have hn0' : 0 < n' := by omega
  obtain ⟨f, rfl⟩ : ∃ f, q = f + 1 := ⟨q - 1, by omega⟩
  rw [ents, if_neg hbn] at hr1 hr2
  have sg := sb.fr F
  simp [h0, sg.len, hn0']
  refine (ref12_First sg (by omega) h256).mono ?_
  rintro r g2 ⟨f2, hr⟩
  have F2 := F.trans f2
  cases hc : chunkOf b' with
  | none =>
    rw [hc] at hr hr1 hr2
    simp only at hr hr1 hr2
    subst hr
    simp [h7, h8]
    exact ⟨hr2.symm, F2, xs, ha.fr f2, by simpa using hr1, by omega⟩
  | some p =>
    obtain ⟨l, s2, m⟩ := p
    rw [hc] at hr hr1 hr2
    simp only at hr hr1 hr2
    obtain ⟨lv, sv, rfl, hlo, ss⟩ := hr
    obtain ⟨hsh, hll, hm4, hmb⟩ := chunkOf_lab (by omega) h256 hc
    obtain ⟨_, _, s0, _⟩ | hbig := chunkOf_le hc
    rotate_left
    · omega
    obtain ⟨x0, hx0⟩ := at_some (l := s2) (j := 0) (by omega)
    obtain ⟨x1, hx1⟩ := at_some (l := s2) (j := s2.length - 1) (by omega)
    have hmn : mnS s2 = x0.1 := by simp only [mnS, hx0]
    have hmx : mxS s2 = x1.1 := by simp only [mxS, hx1]
    rw [hmn, hmx] at hr1
    obtain ⟨i0, o0, p0, _, p1, _⟩ := smp_t ss hx0
    obtain ⟨i1, o1, q0, _, q1, _⟩ := smp_t ss hx1
    have hok : EnOk g2 (lv, ⟨l, at', m, x0.1, x1.1⟩) := hlo.sl
    have ha2 := ha.fr f2
    have hlvf : ∀ i, idOf lv = some i → g.next ≤ i := fun i hi => by
      by_cases h : i < g.next
      · exact absurd hi (hlo.ne h)
      · omega
    obtain ⟨acc', g3, ap, ha3, fb3, pp3, ii3⟩ := ha2.snoc (by have := F2.next; omega) hok (fun i hi => ⟨by have := hlvf i hi; have := F.next; omega, fun e => by have := Sl.idLt ha.1.sl e; have := hlvf i hi; omega⟩) hsh hll (by omega)
    have fz := Fr.push (.refl g2) (.cells (enC (lv, ⟨l, at', m, x0.1, x1.1⟩)) false)
    obtain ⟨i0', o0', p0', _, p1', _⟩ := smp_t (ss.fr fz) hx0
    obtain ⟨i1', o1', q0', _, q1', _⟩ := smp_t (ss.fr fz) hx1
    rw [p0] at p0'
    cases p0'
    rw [q0] at q0'
    cases q0'
    have hsl : s2.length ≤ 2 ^ 62 := by
      unfold chunkOf at hc
      split at hc
      · cases hc
      · unfold chunkB at hc
        split at hc
        · cases hc
        · split at hc
          · cases hc
          · split at hc
            · cases hc
            · split at hc
              · cases hc
              · cases hc
                omega
    have wl : wrapF .i64 ((s2.length : Int) - 1) = ((s2.length - 1 : Nat) : Int) := by rw [wrap_i64 (by omega) (by omega)]; omega
    have wa : wrapF .i64 ((at' : Int) + (m : Int)) = ((at' + m : Nat) : Int) := by rw [wrap_i64 (by omega) (by omega)]; omega
    have p0'' : opIdxV 2 sv (.int .i64 0) = .ok (.ptr i0 o0) := p0
    have hso2 := hso.fr f2
    have hso3 : Own h.next g3 1 k sacc sl := Own.keep hso2 fb3.next pp3 (fun i hi => hsa i hi)
    have hsvc := ss.oneCell
    obtain ⟨sacc', g4, ap4, hso4, fb4, pp4, ii4⟩ := hso3.snoc2 (x := [sv]) (bytes := 24) (by have := F2.next; have := fb3.next; omega) rfl (by simp [allScalar, hsvc.2]) (by omega) (by omega)
    obtain ⟨bv', ev', sb'⟩ := sb.slice (lo := some (.int .i64 (m : Int))) (hi := none) (a := m) (b := n') (.inr ⟨.i64, rfl⟩) (.inl ⟨rfl, rfl⟩) (by omega) (Nat.le_refl _)
    rw [Nat.mul_one, Nat.mul_one, by8_drop, by8_take, List.take_of_length_le (by simp; omega)] at sb'
    have F4 : Fr h g4 := ⟨Nat.le_trans F2.next (Nat.le_trans fb3.next fb4.next), fun i hi => by rw [fb4.get i hi, fb3.get i hi, F2.get i hi]⟩
    have hsacc3 : ∀ i, idOf sacc = some i → idOf acc' ≠ some i := fun i hi e => by
      rcases ii3 i e with e | e
      · exact hsa i hi e
      · have := Sl.idLt hso2.sl hi; omega
    have hxs3 : ∀ x ∈ xs ++ [(lv, (⟨l, at', m, x0.1, x1.1⟩ : Ep))], ∀ i, idOf x.1 = some i → idOf sacc ≠ some i := by
      intro x hx i hi e
      rcases List.mem_append.1 hx with h | h
      · exact hxs x h i hi e
      · simp at h
        subst h
        have := hlvf i hi
        have := Sl.idLt hso.sl e
        omega
    have m0 : ¬ m = 0 := by omega
    have hlc := hlo.sl.oneCell
    generalize x0.1 = mn at *
    generalize x1.1 = mx at *
    generalize hs1 : s2.length - 1 = sl1 at *
    generalize ham : at' + m = am at *
    have hen : enC (lv, ⟨l, at', m, mn, mx⟩) = [lv, .int .i64 (at' : Int), .int .i64 (m : Int), .int .i64 mn, .int .i64 mx] := rfl
    rw [hen] at ap p1' q1'
    simp [m0, h0, h1, hpos, h7, h8, p0'', p1, ss.len, wl, q0, q1, splice_eq, hlc.1, hsvc.1, p1', q1', ap, ap4, ev', wa, Kloop_normal]
    have ha4 : AccI h.next g4 acc' (xs ++ [(lv, ⟨l, at', m, mn, mx⟩)]) :=
      ⟨Own.keep ha3.1 fb4.next pp4 (fun i hi e => hsacc3 i e hi), fun x hx => ⟨Sl.keep (ha3.2 x hx).1 fb4.next pp4 (fun i hi => hxs3 x hx i hi), (ha3.2 x hx).2⟩⟩
    refine ⟨f, by omega, xs ++ [(lv, ⟨l, at', m, mn, mx⟩)], n' - m, b'.drop m, am, k + 1, sl ++ [sv], F4, rfl, sb', rfl, by omega, fun y hy => h256 y (List.mem_of_mem_drop hy), by simp; omega, by simp; omega, ha4, hso4, by simp; omega, ?_, ?_, ?_, hr2⟩
    · intro i hi e
      rcases ii4 i hi with h | h
      · exact hsacc3 i h e
      · have := Sl.idLt ha3.1.sl e; omega
    · intro x hx i hi e
      rcases ii4 i e with h | h
      · exact hxs3 x hx i hi h
      · have := Sl.idLt (ha3.2 x hx).1 hi; omega
    · rw [← hr1]
      simp

theorem ref13_Build {h : AH} {n : Nat} {v : AV} {b : List Nat} (s : Sl h 1 n v (by8 b)) (hn : n ≤ 2 ^ 20) (hb : ∀ x ∈ b, x < 256) : Ev P SI (.fn f_ref13_Build) [v] h (BuildK h b) := by
  refine ev_fn k_ref13_Build rfl rfl ?_
  simp [c_ref13_Build]
  refine (ref12_All s hn hb).mono ?_
  rintro r g ⟨F, acc, xs, sacc, rfl, hxs, ha, hxl⟩
  unfold BuildK
  cases hb2 : (ents b.length 0 b).2 with
  | false =>
    simp
    exact F
  | true =>
    simp
    refine (ref13_Can ha.1.sl (by omega) (fun x hx => ⟨(ha.2 x hx).1, (ha.2 x hx).2.2⟩)).mono ?_
    rintro r g2 ⟨rfl, f2⟩
    rw [hxs]
    cases hcn : canE (ents b.length 0 b).1 with
    | false =>
      simp
      exact F.trans f2
    | true =>
      simp
      exact ⟨F.trans f2, xs, hxs, ha.1.sl.fr f2, by omega, fun y z hx => ⟨EnOk.fr (ha.2 (y, z) hx).1 f2, (ha.2 (y, z) hx).2.2⟩⟩

end Go.Dk

namespace Go.Dk
open Go Go.Dr
set_option maxRecDepth 100000

theorem guard_lab : P.eqGuardType P.depth t_api_Label = false := by kernel_rfl
theorem eq_lab (a b c d : Txt) : eqAt P 20 t_api_Label (.agg [.str a, .str b]) (.agg [.str c, .str d]) =
   (match (.ok (a == c) : R Bool) with | .ok true => (match (.ok (b == d) : R Bool) with | .ok true => .ok true | .ok false => .ok false | .error e => .error e) | .ok false => .ok false | .error e => .error e) := by kernel_rfl

theorem neq_lab (a b : Txt) (lit : Bool) : opBin P .neq t_api_Label lit (.agg [.str a, .str b]) (.agg [.str a, .str b]) = .ok (.bool false) := by
  have h := eq_lab a b a b
  simp at h
  simp [opBin, binSlow, guard_lab, h, eqNeq]

theorem eqAV_lab (a b : Txt) : eqAV 12 (.agg [.str a, .str b]) (.agg [.str a, .str b]) = true := by
  show Bool.and (decide (a = a)) (Bool.and (decide (b = b)) true) = true
  simp

theorem equal_labels {h : AH} {n : Nat} {va vb : AV} {l : List Lab} (sa : Sl h 2 n va (l.flatMap labC)) (sb : Sl h 2 n vb (l.flatMap labC)) (hn : n < 2 ^ 62) (K : AV → AH → Prop) :
    Ev P SI (.fn f_slices_Equal_api_Label_api_Label) [va, vb] h K = K (.bool true) h := by
  refine Ev.eq (ev_fn k_slices_Equal_api_Label_api_Label rfl rfl ?_) K
  have hl := lab_len sa
  simp [c_slices_Equal_api_Label_api_Label, sa.len, sb.len]
  refine w_count (n := n) (by rfl) (fun j σ ds g => ds = [] ∧ σ 0 = va ∧ σ 1 = vb ∧ σ 12 = .int .i64 (n : Int) ∧ g = h) (by omega) (by simp) (by simp) (fun j σ ds g hJ => by simp [hJ.2.2.2.1]) ?_ ?_
  · rintro j σ ds g hj hi ⟨rfl, e0, e1, e12, rfl⟩
    obtain ⟨⟨nm, vl⟩, hx⟩ := at_some (l := l) (j := j) (by omega)
    obtain ⟨i1, o1, a1, a2, _⟩ := lab_at sa (k := .i64) (i := (j : Int)) rfl hx
    obtain ⟨i2, o2, b1, b2, _⟩ := lab_at sb (k := .i64) (i := (j : Int)) rfl hx
    simp only at a2 b2
    simp [e0, e1, e12, hi, a1, a2, b1, b2, opLoadN, neq_lab, eqAV_lab]
  · rintro σ ds g ⟨rfl, e0, e1, e12, rfl⟩
    simp

theorem same_1 {h : AH} {x y : AV × Ep} (hx : EnOk h x) (hy : EnOk h y) (e : x.2 = y.2) (hl : x.2.ls.length < 2 ^ 62) : Ev P SI (.fn f_plain_SameEntries_1) [.agg (enC x), .agg (enC y)] h fun r g => r = .bool true ∧ Fr h g := by
  obtain ⟨xv, p⟩ := x
  obtain ⟨yv, q⟩ := y
  simp only at e hl
  subst e
  refine ev_fn k_plain_SameEntries_1 rfl rfl ?_
  have f1 := Fr.push (.refl h) (.cells (enC (xv, p)) false)
  have f2 := f1.push (.cells (enC (yv, p)) false)
  have gx : ((h.push (.cells (enC (xv, p)) false)).push (.cells (enC (yv, p)) false)).get h.next = some (.cells (enC (xv, p)) false) := by
    rw [get_push_old (Nat.ne_of_lt (Nat.lt_succ_self _)), get_push_new]
  have gy : ((h.push (.cells (enC (xv, p)) false)).push (.cells (enC (yv, p)) false)).get (h.next + 1) = some (.cells (enC (yv, p)) false) := get_push_new _
  generalize hg : (h.push (.cells (enC (xv, p)) false)).push (.cells (enC (yv, p)) false) = g at *
  have x0 : load1 g h.next 0 = .ok xv := load1_of gx
  have x1 : load1 g h.next 1 = .ok (.int .i64 p.pl) := load1_of gx
  have x2 : load1 g h.next 2 = .ok (.int .i64 p.sz) := load1_of gx
  have x3 : load1 g h.next 3 = .ok (.int .i64 p.mn) := load1_of gx
  have x4 : load1 g h.next 4 = .ok (.int .i64 p.mx) := load1_of gx
  have y0 : load1 g (h.next + 1) 0 = .ok yv := load1_of gy
  have y1 : load1 g (h.next + 1) 1 = .ok (.int .i64 p.pl) := load1_of gy
  have y2 : load1 g (h.next + 1) 2 = .ok (.int .i64 p.sz) := load1_of gy
  have y3 : load1 g (h.next + 1) 3 = .ok (.int .i64 p.mn) := load1_of gy
  have y4 : load1 g (h.next + 1) 4 = .ok (.int .i64 p.mx) := load1_of gy
  have hx2 : Sl g 2 p.ls.length xv (p.ls.flatMap labC) := EnOk.fr (x := (xv, p)) hx f2
  have hy2 : Sl g 2 p.ls.length yv (p.ls.flatMap labC) := EnOk.fr (x := (yv, p)) hy f2
  have el := equal_labels hx2 hy2 hl
  simp [c_plain_SameEntries_1, hg, x0, x1, x2, x3, x4, y0, y1, y2, y3, y4, el]
  exact f2

theorem same_entries {h : AH} {n : Nat} {va vb : AV} {xs ys : List (AV × Ep)} (sa : Sl h 5 n va (xs.flatMap enC)) (sb : Sl h 5 n vb (ys.flatMap enC)) (hn : n < 2 ^ 62)
    (hx : ∀ x ∈ xs, EnOk h x ∧ x.2.ls.length < 2 ^ 62) (hy : ∀ x ∈ ys, EnOk h x) (he : xs.map (·.2) = ys.map (·.2)) :
    Ev P SI (.fn f_plain_SameEntries) [va, vb] h fun r g => r = .bool true ∧ Fr h g := by
  refine ev_fn k_plain_SameEntries rfl rfl ?_
  simp [c_plain_SameEntries]
  refine ev_fn k_slices_EqualFunc_api_Entry_api_Entry_api_Entry_api_Entry rfl rfl ?_
  have hl : xs.length = n := by have := sa.1; rw [en_len] at this; omega
  have hl2 : ys.length = n := by have := sb.1; rw [en_len] at this; omega
  simp [c_slices_EqualFunc_api_Entry_api_Entry_api_Entry_api_Entry, sa.len, sb.len]
  refine w_count (n := n) (by rfl) (fun j σ ds g => ds = [] ∧ σ 0 = va ∧ σ 15 = va ∧ σ 1 = vb ∧ σ 2 = .func (.func f_plain_SameEntries_1) [] [] ∧ σ 16 = .int .i64 (n : Int) ∧ Fr h g) (by omega) (by simp) ⟨rfl, by simp, by simp, by simp, by simp, by simp, .refl _⟩ (fun j σ ds g hJ => by simp [hJ.2.2.2.2.2.1]) ?_ ?_
  · rintro j σ ds g hj hi ⟨rfl, e0, e15, e1, e2, e16, F⟩
    obtain ⟨x, hxj⟩ := at_some (l := xs) (j := j) (by omega)
    obtain ⟨y, hyj⟩ := at_some (l := ys) (j := j) (by omega)
    obtain ⟨hx1, hx2⟩ := hx x (List.mem_of_getElem? hxj)
    have hy1 := hy y (List.mem_of_getElem? hyj)
    have hxy : x.2 = y.2 := by
      have h1 : (xs.map (·.2))[j]? = (ys.map (·.2))[j]? := by rw [he]
      rw [List.getElem?_map, List.getElem?_map, hxj, hyj] at h1
      exact Option.some.inj h1
    obtain ⟨i1, o1, a1, a2, _⟩ := en_at (sa.fr F) hxj
    have hxc := Sl.oneCell hx1
    have hyc := Sl.oneCell hy1
    have st1 := opStore_new (h := g) (n := 5) (z := [.nils, .int .i64 0, .int .i64 0, .int .i64 0, .int .i64 0]) (l := enC x) rfl rfl (by simp [enC, allScalar, hxc.2])
    have f1 := Fr.push (.refl g) (.cells (enC x) false)
    have gx : (g.push (.cells (enC x) false)).get g.next = some (.cells (enC x) false) := get_push_new _
    have gxn : (g.push (.cells (enC x) false)).next = g.next + 1 := rfl
    generalize hg1 : g.push (.cells (enC x) false) = g1 at *
    obtain ⟨i2, o2, b1, b2, _⟩ := en_at ((sb.fr F).fr f1) hyj
    have st2 := opStore_new (h := g1) (n := 5) (z := [.nils, .int .i64 0, .int .i64 0, .int .i64 0, .int .i64 0]) (l := enC y) rfl rfl (by simp [enC, allScalar, hyc.2])
    have f2 := Fr.push (.refl g1) (.cells (enC y) false)
    have gy : (g1.push (.cells (enC y) false)).get g1.next = some (.cells (enC y) false) := get_push_new _
    have gx2 := f2.get g.next (by omega)
    rw [gx] at gx2
    generalize hg2 : g1.push (.cells (enC y) false) = g2 at *
    have ldx := loadN_of gx2 (n := 5) rfl
    have ldy := loadN_of gy (n := 5) rfl
    have F2 := (F.trans f1).trans f2
    simp [e1, e2, e15, hi, a1, a2, opLoadN, st1, b1, b2, st2, ldx, ldy]
    refine (same_1 (hx1.fr F2) (hy1.fr F2) hxy hx2).mono ?_
    rintro r g3 ⟨rfl, f3⟩
    simp [e0, e1, e2, e15, e16, hi]
    exact F2.trans f3
  · rintro σ ds g ⟨rfl, e0, e15, e1, e2, e16, F⟩
    simp
    exact F

theorem law_IndexBuilds {h : AH} {n : Nat} {v : AV} {b : List Nat} (s : Sl h 1 n v (by8 b)) (hb : ∀ x ∈ b, x < 256) (hn : n ≤ 9223372036854775807) (ht : TabIn h) : Ev P SI (.fn f_law13_IndexBuilds) [v] h fun r _ => r = .bool true := by
  refine ev_fn k_law13_IndexBuilds rfl rfl ?_
  obtain ⟨m, hm⟩ : ∃ m, m = min n 800 := ⟨_, rfl⟩
  have w1 : min (n : Int) 800 = (m : Int) := by omega
  obtain ⟨u, eu, su⟩ := s.slice (lo := none) (hi := some (.int .i64 (m : Int))) (a := 0) (b := m) (.inl ⟨rfl, rfl⟩) (.inr ⟨.i64, rfl⟩) (by omega) (by omega)
  rw [Nat.mul_one, Nat.mul_one, by8_drop, by8_take, List.drop_zero, Nat.sub_zero] at su
  have hb' : ∀ x ∈ b.take m, x < 256 := fun x hx => hb x (List.mem_of_mem_take hx)
  generalize b.take m = b' at *
  simp [c_law13_IndexBuilds, s.len, w1, eu]
  refine (index_Build su (by omega) hb' ht).mono ?_
  rintro r g ⟨F, hr⟩
  by_cases hc : (ents b'.length 0 b').2 = true ∧ canE (ents b'.length 0 b').1 = true
  · rw [if_pos hc] at hr
    obtain ⟨va, xs, rfl, hxs, sa, hxl, hxo⟩ := hr
    simp
    refine (ref13_Build (su.fr F) (by omega) hb').mono ?_
    rintro r g2 ⟨F2, hr⟩
    rw [if_pos hc] at hr
    obtain ⟨vb, ys, rfl, hys, sb, hyl, hyo⟩ := hr
    have hlen : ys.length = xs.length := by
      have := congrArg List.length (hys.trans hxs.symm)
      simpa using this
    rw [hlen] at sb
    simp
    refine (same_entries (sa.fr F2) sb (by omega) (fun x hx => ⟨(hxo x hx).1.fr F2, (hxo x hx).2.2⟩) (fun x hx => (hyo x hx).1) (hxs.trans hys.symm)).mono ?_
    rintro r g3 ⟨rfl, F3⟩
    simp [ev_awake]
  · rw [if_neg hc] at hr
    subst hr
    simp
    refine (ref13_Build (su.fr F) (by omega) hb').mono ?_
    rintro r g2 ⟨F2, hr⟩
    rw [if_neg hc] at hr
    subst hr
    simp
    refine (same_entries (n := 0) (xs := []) (ys := []) (Sl.nil 5) (Sl.nil 5) (by omega) (fun x hx => by simp at hx) (fun x hx => by simp at hx) rfl).mono ?_
    rintro r g3 ⟨rfl, F3⟩
    simp [ev_awake]

end Go.Dk

namespace Go.Proofs.YthkoheaklmgonaaDoor
open Go Go.Dr Go.RowKit Go.ChangeShapes Go.WideShapes Go.ChangeAt Go.Lib
set_option maxRecDepth 100000

theorem ownBx : ownKnob Tryd.prog.godebug = none := by kernel_rfl
theorem laidOutBx : laidOutB Tryd.prog = true := by kernel_rfl
theorem numBx : Tryd.prog.funcs.all (fun f => f.name != "runtime.NumGoroutine") = true := by kernel_rfl

def firstCellsBx : List Int := List.replicate 128 240 ++ (List.replicate 66 241 ++ (List.replicate 30 2 ++ ([19] ++ (List.replicate 12 3 ++ ([35, 3, 3, 52, 4, 4, 4, 68] ++ List.replicate 11 241)))))
def intsBx (k : IntKind) (l : List Int) : Array Value := (l.map fun z => Value.int k z).toArray

/-- a world that fits: the settled one, the listed variables' cells laid -/
noncomputable def laidWorldBx (os : Os) : World :=
  let w0 := World.holding Tryd.prog os ⟨#[], #[], []⟩
  let put (h : Array Obj) (g : Nat) (cs : Array Value) : Array Obj := h.modify g fun
    | .cells _ t frozen => .cells cs t frozen
    | o => o
  let h := w0.heap
  let h := put h 0 (intsBx .u8 [0, 1, 56, 2, 57, 49, 28, 3, 61, 58, 42, 50, 38, 29, 17, 4, 62, 47, 59, 36, 45, 43, 51, 22, 53, 39, 33, 30, 24, 18, 12, 5, 63, 55, 48, 27, 60, 41, 37, 16, 46, 35, 44, 21, 52, 32, 23, 11, 54, 26, 40, 15, 34, 20, 31, 10, 25, 14, 19, 9, 13, 8, 7, 6])
  { w0 with heap := h }

theorem laidRunBx (os : Os) (args : Array Value) : LaidIn Tryd.prog ((laidWorldBx os).forCall (fun _ _ => 0) ⟨#[], args, []⟩).memory (Rows.indexBuildsRow.laid.filter fun x => x.2.handleName?.isNone) [0] :=
  LaidIn.of_run _ 8 (by kernel_rfl) (by kernel_rfl) (by kernel_rfl) (by kernel_rfl)

theorem laidMetBx (os : Os) (args : Array Value) : laidMetH Tryd.prog Rows.indexBuildsRow.laid ((laidWorldBx os).forCall (fun _ _ => 0) ⟨#[], args, []⟩).memory :=
  laidMetH_of_parts (laidRunBx os args).met (by kernel_rfl)

end Go.Proofs.YthkoheaklmgonaaDoor

namespace Go.Proofs.YthkoheaklmgonaaDoor
open Go Go.Dr Go.Dk Go.RowKit Go.ChangeShapes Go.WideShapes Go.ChangeAt Go.Lib
set_option maxRecDepth 100000

theorem runBx : okTrue (evCall Tryd.prog (fun _ => none) 100000 1000 (.fn f_law13_awake) [] ⟨Tryd.prog.globals.size, .leaf⟩) = true := by kernel_rfl

theorem cellsBx5 : Tryd.prog.cellsOf 5 = 1 := by kernel_rfl
theorem undBx5 : Tryd.prog.underlying 5 = some (.int .u8) := by kernel_rfl
theorem undBx25 : Tryd.prog.underlying 25 = some (.slice 5) := by kernel_rfl
theorem plainBx25 : plainTy Tryd.prog 5 25 = true := by kernel_rfl

theorem by8_flatBx : ∀ bs : List Nat, (bs.map fun x : Nat => [AV.int .u8 (x : Int)]).flatten = by8 bs
  | [] => rfl
  | b :: bs => by rw [List.map_cons, List.flatten_cons, by8_flatBx bs]; rfl

theorem bytes_ofBx {h : AH} {l : List AV} (s : TyV Tryd.prog h 25 l) : ∃ v bs, l = [v] ∧ bs.length ≤ maxLen ∧ Sl h 1 bs.length v (by8 bs) ∧ ∀ x ∈ bs, x < 256 := by
  obtain ⟨v, n, vs, rfl, hn, hs, he⟩ := s.slice_inv undBx25 cellsBx5
  obtain ⟨bs, h1, h2, h3⟩ := elems_of (fun x : Nat => [AV.int .u8 (x : Int)]) (fun x => x < 256) 1 n vs hs.1 fun i hi => by
    obtain ⟨z, e, h1⟩ := (he i hi).int_inv undBx5
    simp [Lit.wf, IntKind.min, IntKind.max, IntKind.signed] at h1
    refine ⟨z.toNat, ?_, by omega⟩
    rw [e, Int.toNat_of_nonneg (by omega)]
  have h4 : vs = by8 bs := by rw [h2, by8_flatBx]
  subst h4
  exact ⟨v, bs, rfl, by rw [h1]; exact hn, by rw [h1]; exact hs, h3⟩

/-! ### the table lies in the first heap -/

def tabZ : List Int := Lib.deBruijn64tab.map fun n : Nat => (n : Int)
theorem tabZ_len : tabZ.length = 64 := by decide
theorem namedTab : Tryd.prog.globalNamed "math/bits.deBruijn64tab" = some 0 := by kernel_rfl
theorem laidTab : (Rows.indexBuildsRow.laid : List (String × DataW Unit)) = [("math/bits.deBruijn64tab", tabData .u8 tabZ)] := by kernel_rfl

def phiT (n : Nat) (ρ : Nat → Value) : Phi := ⟨fun g => if g < n then some ⟨g, 0, if g = 0 then 64 else 0⟩ else none, ρ⟩
def heapT (n : Nat) : AH := AH.set ⟨n, .leaf⟩ 0 (.cells (by8 Lib.deBruijn64tab) true)

theorem heapT_get {n i : Nat} {o : AObj} (e : (heapT n).get i = some o) : i = 0 ∧ o = .cells (by8 Lib.deBruijn64tab) true := by
  by_cases h : i = 0
  · subst h
    have : (heapT n).get 0 = some (.cells (by8 Lib.deBruijn64tab) true) := get_set_new _ _
    rw [this] at e
    exact ⟨rfl, (Option.some.inj e).symm⟩
  · have : (heapT n).get i = (⟨n, .leaf⟩ : AH).get i := get_set_old h
    rw [this] at e
    cases e

theorem relT {W : World} {n : Nat} {ρ : Nat → Value} {c : Array Value} {e : TypeId} {f : Nat × Nat} (hn : 0 < n) (hW : W.heap[0]? = some (.cells c e f)) (hc : c = (tabZ.map fun z => Value.int .u8 z).toArray) :
    Rel W.heap.size W (phiT n ρ) (heapT n) W := by
  refine ⟨fun i p e => ?_, fun i p o e1 e2 => ?_, fun i p o _ e2 hw => ?_, fun i j p q oi oj hij _ _ e1 e2 => ?_, .refl _ _, Nat.le_refl _⟩
  · simp only [phiT] at e
    split at e
    · assumption
    · cases e
  · obtain ⟨rfl, rfl⟩ := heapT_get e2
    simp only [phiT, if_pos hn, if_true, Option.some.injEq] at e1
    subst e1
    refine ⟨c, e, f.1, f.2, hW, ?_, ?_, ?_, fun h => by cases h⟩
    · show (by8 Lib.deBruijn64tab).length ≤ 64
      decide
    · show 0 + 64 ≤ c.size
      rw [hc]
      simp [tabZ_len]
    · intro i x hx
      rw [by8_get] at hx
      obtain ⟨y, hy, rfl⟩ := Option.map_eq_some_iff.1 hx
      refine ⟨.int .u8 (y : Int), ?_, .int _ _⟩
      rw [hc]
      simp [tabZ, hy]
  · obtain ⟨rfl, rfl⟩ := heapT_get e2
    cases hw
  · obtain ⟨rfl, _⟩ := heapT_get e1
    obtain ⟨rfl, _⟩ := heapT_get e2
    exact absurd rfl hij

theorem roT (n : Nat) (ρ : Nat → Value) : RO (phiT n ρ) (heapT n) := fun j q o _ e => by
  obtain ⟨_, rfl⟩ := heapT_get e
  rfl

theorem globT {ρ : Nat → Value} : GlobRel Tryd.prog (phiT Tryd.prog.globals.size ρ) := fun g hg => ⟨if g = 0 then 64 else 0, by simp only [phiT]; rw [if_pos hg]⟩

theorem sizeT : 0 < Tryd.prog.globals.size := of_decide_eq_true (by kernel_rfl)
theorem tyT : (Tryd.prog.globals[0]?).map (·.type) = some 167 := by kernel_rfl
theorem undT : Tryd.prog.underlying 167 = some (.array 64 5) := by kernel_rfl
theorem cellsT : Tryd.prog.cellsOf 167 = 64 := by kernel_rfl

theorem tabIn_heapT {n : Nat} (hn : 0 < n) : TabIn (heapT n) := ⟨hn, get_set_new _ _⟩

/-- the law IndexBuilds, run by the machine -/
theorem calls_IndexBuilds {H : Type} {enc : TypeId × Value → H} {held : Bool} {W : World} {base : Nat} {b0 : Nat} {v0 : Value} {d0 : DataW H} {p0 : List MemPlace}
    (hv0 : Value.okWide Tryd.prog W .any b0 25 v0) (h0 : DataW.Trod enc Tryd.prog W base (fun _ => true) held 25 v0 d0 p0) (hl : laidMetH Tryd.prog Rows.indexBuildsRow.laid W) :
    Calls Tryd.prog 4 #[v0] W fun e W' => e = .returned (.bool true) ∧ Below W.heap.size W W' := by
  rw [laidTab] at hl
  have hl2 : laidMet Tryd.prog [("math/bits.deBruijn64tab", tabData .u8 tabZ)] W := hl
  have ht : TabIs Tryd.prog W "math/bits.deBruijn64tab" .u8 tabZ := tabIs_of_head namedTab tyT undT undBx5 cellsBx5 cellsT hl2
  have hcell : ∃ c e f, W.heap[0]? = some (.cells c e f) ∧ c = (tabZ.map fun z => Value.int .u8 z).toArray := by
    unfold TabIs World.var? at ht
    rw [namedTab] at ht
    simp only [Option.bind_some] at ht
    split at ht
    · rename_i cs e f hh
      exact ⟨cs, e, f, hh, Option.some.inj ht⟩
    · cases ht
  obtain ⟨c, e, f, hW, hc⟩ := hcell
  obtain ⟨φ1, g1, a0, c0, R1, ro1, le1, f1, t0⟩ := lay_slice (B := W.heap.size) (w0 := W) undBx25 plainBx25 hv0 h0 (relT (n := Tryd.prog.globals.size) (ρ := fun _ => .pointer none) sizeT hW hc) (roT _ _)
  obtain ⟨u, bs, e1, hlen, s1, q1⟩ := bytes_ofBx t0
  cases e1
  have hn : bs.length ≤ 9223372036854775807 := by
    have : maxLen ≤ 9223372036854775807 := by decide
    omega
  exact law_evS (f := f_law13_IndexBuilds) (args' := [v0]) Tryd.checked.mixed numBx (closed_ok Tryd.checked.mixed numBx runBx _ _) (law_IndexBuilds s1 q1 hn ((tabIn_heapT sizeT).fr f1)) (.cons c0 .nil) (globT.le le1) R1

end Go.Proofs.YthkoheaklmgonaaDoor
