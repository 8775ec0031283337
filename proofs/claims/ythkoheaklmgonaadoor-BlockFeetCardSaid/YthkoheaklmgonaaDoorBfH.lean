import Derived.Test.YthkoheaklmgonaaDoorBfG
namespace Go.Proofs.YthkoheaklmgonaaDoor
open Go Go.Dr
set_option maxRecDepth 100000

theorem dec9 {h : AH} {v : AV} {bs : List Nat} {n : Nat} (hv : Sl h 1 n v (by8 bs)) (hb : ∀ x ∈ bs, x < 256) : Ev Tryd.prog SB (.fn 9) [v] h (DecPost h bs) := by
  have hl : bs.length = n := by have := hv.1; simpa using this
  refine ev_fn comp9 rfl rfl ?_
  have f0 : Fr h (h.push (.cells zeroFt.cells false)) := Fr.push (.refl h) _
  have lz : loadN (h.push (.cells zeroFt.cells false)) h.next 0 8 = .ok zeroFt.cells := loadN_of (get_push_new _) rfl
  have sz := store_cells (f := zeroFt) (h := h.push (.cells zeroFt.cells false)) (id := h.next) rfl (get_push_new _) rfl
  rw [AH.set_push] at sz
  simp only [zeroFt, Ft.cells] at lz sz f0
  by_cases h56 : n ≤ 56
  · have e1 : (n : Int) < 57 := by omega
    simp [cc9, hv.len, e1, sz, lz, DecPost, zeroFt, Ft.cells, resS, f0]
    intro hd
    have := hd.1
    omega
  have e1 : ¬ (n : Int) < 57 := by omega
  have hlt : 56 < bs.length := by omega
  have hm : decM bs = bs[56] := by simp [decM, List.getD_eq_getElem?_getD, List.getElem?_eq_getElem hlt]
  have hm2 : decM bs < 256 := by rw [hm]; exact hb _ (List.getElem_mem hlt)
  obtain ⟨id, o, g1, g2, _⟩ := (hv.fr f0).get1 (k := .i64) (i := 56) (j := 56) rfl (by omega) (x := .int .u8 (decM bs : Int)) (by rw [by8_get, List.getElem?_eq_getElem hlt, hm]; rfl)
  have w1 : wrapF .i64 (decM bs : Int) = (decM bs : Int) := wrap_i64 (by omega) (by omega)
  have w2 : wrapF .i64 (8 * (decM bs : Int)) = 8 * (decM bs : Int) := wrap_i64 (by omega) (by omega)
  have w3 : wrapF .i64 (57 + 8 * (decM bs : Int)) = 57 + 8 * (decM bs : Int) := wrap_i64 (by omega) (by omega)
  by_cases hlen : n = 57 + 8 * decM bs
  case neg =>
    have e2 : ¬ ((n : Int) = 57 + 8 * (decM bs : Int)) := by omega
    simp [cc9, hv.len, e1, g1, g2, w1, w2, w3, e2, sz, lz, DecPost, zeroFt, Ft.cells, resS, f0]
    intro hd
    have := hd.2.1
    omega
  have e2 : (n : Int) = 57 + 8 * (decM bs : Int) := by omega
  have e3 : ¬ (57 + 8 * (decM bs : Int) < 57) := by omega
  simp [cc9, hv.len, e2, e3, g1, g2, w1, w2, w3]
  have hb1 : ∀ x ∈ bs.take 56, x < 256 := fun x hx => hb x (List.mem_of_mem_take hx)
  have hb2 : ∀ x ∈ bs.drop 57, x < 256 := fun x hx => hb x (List.mem_of_mem_drop hx)
  generalize hh1 : h.push (.cells [.int .i64 0, .int .i64 0, .int .i64 0, .int .i64 0, .int .i64 0, .int .i64 0, .int .i64 0, .nils] false) = h1
  have f01 : Fr h h1 := by rw [← hh1]; exact Fr.push (.refl h) _
  have n01 : h1.next = h.next + 1 := by rw [← hh1]; rfl
  have c01 : h1.get h.next = some (.cells [.int .i64 0, .int .i64 0, .int .i64 0, .int .i64 0, .int .i64 0, .int .i64 0, .int .i64 0, .nils] false) := by rw [← hh1]; exact get_push_new _
  refine w_loop (fun r σ ds g => ds = [] ∧ σ 0 = v ∧ σ 2 = .ptr h.next 0 ∧ Fr h1 g ∧ ∃ x, σ 4 = x ∧
    ((∃ s, s ≤ 7 ∧ r = 9 + decM bs - s ∧ σ 5 = .int .i64 (8 * (s : Int)) ∧ Own h1.next g 1 s x (iv (rd8 s (bs.take 56)))) ∨
     (∃ j, j ≤ decM bs ∧ r = decM bs - j ∧ σ 5 = .int .i64 (57 + 8 * (j : Int)) ∧ Own h1.next g 1 (7 + j) x (iv (rd8 7 (bs.take 56) ++ rd8 j (bs.drop 57)))))) (9 + decM bs) ?_ ?_
  · simp [Fr.refl]
    refine .inl ⟨0, by omega, by omega, by omega, ?_⟩
    simpa [rd8, iv] using Own.nil _ _
  · rintro r σ ds g ⟨rfl, e0, e2', hg, x, e4, ⟨s, hs7, hr, e5, ho⟩ | ⟨j, hjm, hr, e5, ho⟩⟩
    · by_cases hs : s = 7
      · subst hs
        have c1 : (56 : Int) < 57 + 8 * (decM bs : Int) := by omega
        have w57 : wrapF .i64 57 = 57 := wrap_i64 (by omega) (by omega)
        simp [e0, e2', e4, e5, hv.len, e2, c1, w57, Kloop_normal]
        refine ⟨decM bs, by omega, hg, .inr ⟨0, by omega, by omega, by omega, ?_⟩⟩
        simpa [rd8, iv] using ho
      · have c1 : 8 * (s : Int) < 57 + 8 * (decM bs : Int) := by omega
        have c2 : ¬ (8 * (s : Int) = 56) := by omega
        obtain ⟨u, b1, t1⟩ := (hv.fr (f01.trans hg)).slice (lo := some (.int .i64 ((8 * s : Nat) : Int))) (hi := none) (a := 8 * s) (b := n) (.inr ⟨.i64, rfl⟩) (.inl ⟨rfl, rfl⟩) (by omega) (Nat.le_refl _)
        rw [show ((8 * s : Nat) : Int) = 8 * (s : Int) from by omega] at b1
        have t1' : Sl g 1 (n - 8 * s) u (by8 (bs.drop (8 * s))) := by
          have : (bs.drop (8 * s)).take (n - 8 * s) = bs.drop (8 * s) := List.take_of_length_le (by simp; omega)
          simpa [by8_take, by8_drop, this] using t1
        obtain ⟨v', _, i2⟩ := int28 t1' (fun x hx => hb x (List.mem_of_mem_drop hx)) (k := 8) (by omega) (by omega) (by omega)
        simp only [show ((8 : Nat) : Int) = 8 from rfl] at i2
        have hgv : wrapF .i64 (beV ((bs.drop (8 * s)).take 8) : Int) = g8 (bs.take 56) s := by
          unfold g8
          rw [List.drop_take, List.take_take, Nat.min_eq_left (by omega)]
        rw [hgv] at i2
        have hsl : Sl (g.push (.cells [.int .i64 (g8 (bs.take 56) s)] false)) 1 1 (.slice g.next 0 1 1 true 1) (iv [g8 (bs.take 56) s]) := (Own.fresh (B := 0) true (Nat.zero_le _) rfl).sl
        obtain ⟨x', g', d1, d2, d3, _, _⟩ := (ho.fr (Fr.push (.refl g) (.cells [.int .i64 (g8 (bs.take 56) s)] false))).append (bytes := 8) hsl (by have := hg.next; simp; omega) (iv_scalar _) (by omega) (by omega)
        have w5 : wrapF .i64 (8 * (s : Int) + 8) = 8 * (s : Int) + 8 := wrap_i64 (by omega) (by omega)
        simp [e0, e2', e4, e5, hv.len, e2, c1, c2, b1, i2, splice_eq, d1, w5, Kloop_normal]
        refine ⟨9 + decM bs - (s + 1), by omega, ⟨by have := d3.next; have := hg.next; simp at *; omega, fun k hk => by
          rw [d3.get k hk, get_push_old (by have := hg.next; omega)]
          exact hg.get k hk⟩, .inl ⟨s + 1, by omega, by omega, by omega, ?_⟩⟩
        rw [rd8_succ, iv_append]
        exact d2
    · by_cases hj : j = decM bs
      · subst hj
        simp [e0, e2', e4, e5, hv.len, e2]
        have hlen7 : (rd8 7 (bs.take 56)).length = 7 := rd8_length _ _
        have hget : ∀ c : Nat, c < 7 → ∃ id o, opIdxV 1 x (.int .i64 (c : Int)) = .ok (.ptr id o) ∧ load1 g id o = .ok (.int .i64 (g8 (bs.take 56) c)) ∧ ∀ h', Fr g h' → load1 h' id o = .ok (.int .i64 (g8 (bs.take 56) c)) :=
          fun c hc => ho.sl.get1 (k := .i64) (i := (c : Int)) rfl (by omega) (by rw [iv_get, List.getElem?_append_left (by omega)]; simp [rd8, hc])
        obtain ⟨q0, o0, x0, y0, z0⟩ := hget 0 (by omega)
        obtain ⟨q1, o1, x1, y1, z1⟩ := hget 1 (by omega)
        obtain ⟨q2, o2', x2, y2, z2⟩ := hget 2 (by omega)
        obtain ⟨q3, o3, x3, y3, z3⟩ := hget 3 (by omega)
        obtain ⟨q4, o4, x4, y4, z4⟩ := hget 4 (by omega)
        obtain ⟨q5, o5, x5, y5, z5⟩ := hget 5 (by omega)
        obtain ⟨q6, o6, x6, y6, z6⟩ := hget 6 (by omega)
        simp only [show ((0 : Nat) : Int) = 0 from rfl, show ((1 : Nat) : Int) = 1 from rfl, show ((2 : Nat) : Int) = 2 from rfl, show ((3 : Nat) : Int) = 3 from rfl, show ((4 : Nat) : Int) = 4 from rfl, show ((5 : Nat) : Int) = 5 from rfl, show ((6 : Nat) : Int) = 6 from rfl] at x0 x1 x2 x3 x4 x5 x6
        have fe := Fr.push (.refl g) (.cells [] false)
        have fz := fe.push (.cells zeroFt.cells false)
        obtain ⟨u7, b7, t7⟩ := ho.sl.slice (lo := some (.int .i64 ((7 : Nat) : Int))) (hi := none) (a := 7) (b := 7 + decM bs) (.inr ⟨.i64, rfl⟩) (.inl ⟨rfl, rfl⟩) (by omega) (Nat.le_refl _)
        simp only [show ((7 : Nat) : Int) = 7 from rfl] at b7
        have t7' : Sl g 1 (decM bs) u7 (iv (decP bs)) := by
          have e1 : (iv (rd8 7 (bs.take 56) ++ rd8 (decM bs) (bs.drop 57))).drop (7 * 1) = iv (decP bs) := by
            rw [iv_append, List.drop_left' (by simp)]; rfl
          rw [e1, show (7 + decM bs - 7) = decM bs from by omega, List.take_of_length_le (by simp [decP])] at t7
          exact t7
        have oe : Own g.next ((g.push (.cells [] false)).push (.cells zeroFt.cells false)) 1 0 (.slice g.next 0 0 0 true 1) [] := (Own.fresh (h := g) true (Nat.le_refl _) rfl).fr (Fr.push (.refl _) _)
        obtain ⟨p, h3, a1, a2, a3, a4, a5⟩ := oe.append (bytes := 8) (t7'.fr fz) (by rw [AH.next_push, AH.next_push]; omega) (iv_scalar _) (by omega) (by omega)
        rw [Nat.zero_add, List.nil_append] at a2
        have hn3 : g.next + 2 ≤ h3.next := by have := a3.next; simpa using this
        have f3 : Fr g h3 := ⟨by omega, fun i hi => (a3.get i hi).trans (fz.get i hi)⟩
        have hk3 : h3.get (g.next + 1) = some (.cells [.int .i64 0, .int .i64 0, .int .i64 0, .int .i64 0, .int .i64 0, .int .i64 0, .int .i64 0, .nils] false) := by
          rw [a4 _ (by rw [AH.next_push, AH.next_push]; omega) (by intro e; simp [idOf] at e)]; exact get_push_new _
        have np : idOf p ≠ some (g.next + 1) := by
          intro e
          rcases a5 _ e with e | e
          · simp [idOf] at e
          · rw [AH.next_push, AH.next_push] at e; omega
        have hgn := hg.next
        have np2 : idOf p ≠ some h.next := a2.ne (by omega)
        have st := store_cells (f := decFt bs p) (h := h3) (id := g.next + 1) a2.sl.oneCell.2 hk3 rfl
        have op : Own h.next h3 1 (decM bs) p (iv (decP bs)) := a2.base (by omega)
        have s4 := op.set (.cells (decFt bs p).cells false) np
        have lN : loadN (h3.set (g.next + 1) (.cells (decFt bs p).cells false)) (g.next + 1) 0 8 = .ok (decFt bs p).cells := loadN_of (get_set_new _ _) rfl
        have hdl : (decP bs).length = decM bs := by simp [decP]
        have cn := can23 (h := h3.set (g.next + 1) (.cells (decFt bs p).cells false)) (f := decFt bs p) (ps := decP bs) (by rw [hdl]; exact s4.sl) (by omega)
        have hF3 : Fr h (h3.set (g.next + 1) (.cells (decFt bs p).cells false)) := ((f01.trans hg).trans f3).set _ (by omega)
        have hF4 := hF3.push (.cells (decFt bs p).cells false)
        have s5 : Own h.next ((h3.set (g.next + 1) (.cells (decFt bs p).cells false)).push (.cells (decFt bs p).cells false)) 1 (decM bs) p (iv (decP bs)) := s4.fr ((Fr.refl _).push _)
        have lN2 : loadN ((h3.set (g.next + 1) (.cells (decFt bs p).cells false)).push (.cells (decFt bs p).cells false)) (g.next + 1) 0 8 = .ok (decFt bs p).cells := loadN_of (by
          rw [get_push_old (by rw [AH.next_set]; omega)]; exact get_set_new _ _) rfl
        have hc3 : ((h3.set (g.next + 1) (.cells (decFt bs p).cells false)).push (.cells (decFt bs p).cells false)).get h.next = some (.cells [.int .i64 0, .int .i64 0, .int .i64 0, .int .i64 0, .int .i64 0, .int .i64 0, .int .i64 0, .nils] false) := by
          rw [get_push_old (by rw [AH.next_set]; omega), get_set_old (by omega), f3.get _ (by omega), hg.get _ (by omega)]
          exact c01
        have hcb : canB (decFt bs p) (decP bs) = canB (decFt bs .nils) (decP bs) := rfl
        have st1 := store_cells (f := zeroFt) rfl hc3 rfl
        have st2 := store_cells (f := decFt bs p) a2.sl.oneCell.2 hc3 rfl
        simp only [decFt, zeroFt, Ft.cells] at st st1 st2 lN lN2 cn a1 fz
        cases hcan : canB (decFt bs .nils) (decP bs)
        · have hno : ¬ decOk bs := fun hd => by rw [hd.2.2] at hcan; cases hcan
          rw [← hcb] at hcan
          simp only [decFt] at hcan
          simp [e0, e2', e4, x0, x1, x2, x3, x4, x5, x6, y0, y1, y2, y3, y4, y5, y6, b7, z0 _ fz, z1 _ fz, z2 _ fz, z3 _ fz, z4 _ fz, z5 _ fz, z6 _ fz, a1, z0 _ f3, z1 _ f3, z2 _ f3, z3 _ f3, z4 _ f3, z5 _ f3, z6 _ f3, splice_eq, a2.sl.oneCell.1, st, lN, cn, hcan, st1, resS]
          exact ⟨hF4.set _ (Nat.le_refl _), .inr ⟨hno, rfl⟩⟩
        · have hyes : decOk bs := ⟨hlt, by omega, hcan⟩
          rw [← hcb] at hcan
          simp only [decFt] at hcan
          simp [e0, e2', e4, x0, x1, x2, x3, x4, x5, x6, y0, y1, y2, y3, y4, y5, y6, b7, z0 _ fz, z1 _ fz, z2 _ fz, z3 _ fz, z4 _ fz, z5 _ fz, z6 _ fz, a1, z0 _ f3, z1 _ f3, z2 _ f3, z3 _ f3, z4 _ f3, z5 _ f3, z6 _ f3, splice_eq, a2.sl.oneCell.1, st, lN, cn, hcan, lN2, st2, resS]
          refine ⟨hF4.set _ (Nat.le_refl _), .inl ⟨hyes, p, rfl, ?_⟩⟩
          rw [hdl]
          exact (s5.set _ np2).sl
      · have c1 : 57 + 8 * (j : Int) < 57 + 8 * (decM bs : Int) := by omega
        have c2 : ¬ (57 + 8 * (j : Int) = 56) := by omega
        obtain ⟨u, b1, t1⟩ := (hv.fr (f01.trans hg)).slice (lo := some (.int .i64 ((57 + 8 * j : Nat) : Int))) (hi := none) (a := 57 + 8 * j) (b := n) (.inr ⟨.i64, rfl⟩) (.inl ⟨rfl, rfl⟩) (by omega) (Nat.le_refl _)
        rw [show ((57 + 8 * j : Nat) : Int) = 57 + 8 * (j : Int) from by omega] at b1
        have t1' : Sl g 1 (n - (57 + 8 * j)) u (by8 (bs.drop (57 + 8 * j))) := by
          have : (bs.drop (57 + 8 * j)).take (n - (57 + 8 * j)) = bs.drop (57 + 8 * j) := List.take_of_length_le (by simp; omega)
          simpa [by8_take, by8_drop, this] using t1
        obtain ⟨v', _, i2⟩ := int28 t1' (fun x hx => hb x (List.mem_of_mem_drop hx)) (k := 8) (by omega) (by omega) (by omega)
        simp only [show ((8 : Nat) : Int) = 8 from rfl] at i2
        have hgv : wrapF .i64 (beV ((bs.drop (57 + 8 * j)).take 8) : Int) = g8 (bs.drop 57) j := by
          unfold g8
          rw [List.drop_drop]
        rw [hgv] at i2
        have hsl : Sl (g.push (.cells [.int .i64 (g8 (bs.drop 57) j)] false)) 1 1 (.slice g.next 0 1 1 true 1) (iv [g8 (bs.drop 57) j]) := (Own.fresh (B := 0) true (Nat.zero_le _) rfl).sl
        obtain ⟨x', g', d1, d2, d3, _, _⟩ := (ho.fr (Fr.push (.refl g) (.cells [.int .i64 (g8 (bs.drop 57) j)] false))).append (bytes := 8) hsl (by have := hg.next; simp; omega) (iv_scalar _) (by omega) (by omega)
        have w5 : wrapF .i64 (57 + 8 * (j : Int) + 8) = 57 + 8 * (j : Int) + 8 := wrap_i64 (by omega) (by omega)
        simp [e0, e2', e4, e5, hv.len, e2, c1, c2, b1, i2, splice_eq, d1, w5, Kloop_normal]
        refine ⟨decM bs - (j + 1), by omega, ⟨by have := d3.next; have := hg.next; simp at *; omega, fun k hk => by
          rw [d3.get k hk, get_push_old (by have := hg.next; omega)]
          exact hg.get k hk⟩, .inr ⟨j + 1, by omega, by omega, by omega, ?_⟩⟩
        rw [rd8_succ j, ← List.append_assoc, iv_append _ [_]]
        exact d2

end Go.Proofs.YthkoheaklmgonaaDoor
