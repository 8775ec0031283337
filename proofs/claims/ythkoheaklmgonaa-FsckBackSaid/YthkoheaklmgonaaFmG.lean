import Derived.Test.YthkoheaklmgonaaFmF
namespace Go.Proofs.Ythkoheaklmgonaa
open Go Go.Dr
set_option maxRecDepth 100000

theorem chunk20 {h : AH} {v : AV} (hv : v.cells = [v]) (K : AV → AH → Prop) : Ev Try.prog S0 (.fn 20) [v, .int .i64 56] h K =
    K (.func (.func 26) [] [.ptr h.next 0, .ptr (h.next + 1) 0]) ((h.push (.cells [v] false)).push (.cells [.int .i64 56] false)) := by
  refine Ev.eq (ev_fn comp20 rfl rfl ?_) K
  have l1 : load1 ((h.push (.cells [v] false)).push (.cells [.int .i64 56] false)) (h.next + 1) 0 = .ok (.int .i64 56) := load1_of (get_push_new _)
  simp [cc20, hv, l1]

theorem chunk26 {h : AH} {v : AV} {bs : List Nat} {N ps pn l : Nat} (hN : N ≤ 1000) (Inv : Nat → AH → Prop)
    (hi : ∀ j g, Inv j g → load1 g ps 0 = .ok v ∧ load1 g pn 0 = .ok (.int .i64 56) ∧ Sl g 1 (56 * N) v (by8 bs))
    (hy : ∀ j g u, j < N → Inv j g → Sl g 1 56 u (by8 ((bs.drop (56 * j)).take 56)) → Ev Try.prog S0 (.yield l) [u] g fun r g' => r = .bool true ∧ Inv (j + 1) g') (h0 : Inv 0 h) :
    Ev Try.prog S0 (.fn 26) [.func (.yield l) [] [], .ptr ps 0, .ptr pn 0] h fun _ g => Inv N g := by
  refine ev_fn comp26 rfl rfl ?_
  simp [cc26]
  refine w_loop (fun r σ ds g => ∃ j, r + j = N ∧ ds = [] ∧ σ 0 = .func (.yield l) [] [] ∧ σ 1 = .ptr ps 0 ∧ σ 2 = .ptr pn 0 ∧ σ 4 = .int .i64 (56 * (j : Int)) ∧ Inv j g) N ⟨0, by simp [h0]⟩ ?_
  rintro r σ ds g ⟨j, hr, rfl, e0, e1, e2, e4, hI⟩
  obtain ⟨l1, l2, hs⟩ := hi j g hI
  by_cases hj : j < N
  · have c1 : 56 * (j : Int) < 56 * (N : Int) := by omega
    have c1' : (56 * (j : Int) < ((56 * N : Nat) : Int)) := by omega
    obtain ⟨u1, f1, s1⟩ := hs.slice (lo := some (.int .i64 ((56 * j : Nat) : Int))) (hi := none) (a := 56 * j) (b := 56 * N) (.inr ⟨.i64, rfl⟩) (.inl ⟨rfl, rfl⟩) (by omega) (Nat.le_refl _)
    obtain ⟨u, f2, s2⟩ := hs.slice3 (k1 := .i64) (k2 := .i64) (k3 := .i64) (a := 56 * j) (b := 56 * j + 56) (by omega) (by omega)
    have s2' : Sl g 1 56 u (by8 ((bs.drop (56 * j)).take 56)) := by
      rw [show 56 * j + 56 - 56 * j = 56 from by omega] at s2
      simpa [by8_take, by8_drop] using s2
    have m1 : min (56 : Int) ((56 * N - 56 * j : Nat) : Int) = 56 := by omega
    have w1 : wrapF .i64 (56 * (j : Int) + 56) = 56 * (j : Int) + 56 := wrap_i64 (by omega) (by omega)
    have t1 : ((56 * j : Nat) : Int) = 56 * (j : Int) := by omega
    have t2 : ((56 * j + 56 : Nat) : Int) = 56 * (j : Int) + 56 := by omega
    rw [t1] at f1 f2
    rw [t2] at f2
    simp [e0, e1, e2, e4, l1, l2, hs.len, hj, f1, s1.len, m1, w1, f2]
    refine ⟨hs.same, (hy j g u hj hI s2').mono ?_⟩
    rintro r' g' ⟨rfl, hI'⟩
    obtain ⟨l1', l2', _⟩ := hi (j + 1) g' hI'
    simp [e0, e1, e2, e4, l2', w1, Kloop_normal]
    exact ⟨r - 1, by omega, j + 1, by omega, by omega, hI'⟩
  · have hjN : j = N := by omega
    subst hjN
    simp [e0, e1, e2, e4, l1, l2, hs.len, hI]

/-- the numbers that are laid so far -/
def fi (dd : List Nat) (i : Nat) : List AV := ints dd i ++ List.replicate (7 - i) (.int .i64 0)

theorem fi_length (dd : List Nat) (i : Nat) (hi : i ≤ 7) : (fi dd i).length = 7 := by simp [fi, ints]; omega

theorem fi_step (dd : List Nat) (i : Nat) (hi : i < 7) : splice (fi dd i) i [.int .i64 (g8 dd i)] = fi dd (i + 1) := by
  have hl : (ints dd i).length = i := by simp [ints]
  rw [splice, fi, fi, ints_succ, show 7 - i = (7 - (i + 1)) + 1 from by omega, List.replicate_succ, List.length_singleton]
  rw [List.take_left' hl, ← List.drop_drop, List.drop_left' hl]
  simp

theorem fi_get (dd : List Nat) (c : Nat) (hc : c < 7) : (fi dd 7)[c]? = some (.int .i64 (g8 dd c)) := by
  simp [fi, ints, hc]

/-- what stands in the heap as a manifest is read -/
structure RInv (h : AH) (v : AV) (cs : List Nat) (tmps : PT AV) (j : Nat) (g : AH) : Prop where
  fr : Fr h g
  cell : ∃ x, g.get h.next = some (.cells [x] false) ∧ Own (h.next + 5) g 8 j x (feet (rdAll j cs))
  ps : g.get (h.next + 1) = some (.cells [v] false)
  pn : g.get (h.next + 2) = some (.cells [.int .i64 56] false)
  did : g.get (h.next + 3) = some (.deferred (some []))
  lid : g.get (h.next + 4) = some (.loop { state := .ready, pending := none, n := 78, tmps := tmps, params := #[36], assign := goAssign 8 0, body := goBody 8 0 })
  next : h.next + 5 ≤ g.next

theorem round8 {h : AH} {v u : AV} {cs : List Nat} {tmps : PT AV} {j k : Nat} {g : AH} (h6 : valT tmps 6 = .ptr h.next 0) (hb : ∀ x ∈ cs, x < 256) (hk : k ≤ 1000) (hj : j < k) (hI : RInv h v cs tmps j g)
    (hu : Sl g 1 56 u (by8 ((cs.drop (56 * j)).take 56))) : Ev Try.prog S0 (.yield (h.next + 4)) [u] g fun r g' => r = .bool true ∧ RInv h v cs tmps (j + 1) g' := by
  obtain ⟨hF, ⟨x, hc, ox⟩, hps, hpn, hdid, hlid, hnext⟩ := hI
  refine ev_yield hlid rfl rfl goAssignComp8_0 goBodyComp8_0 ?_
  simp only [goAssignC8_0, wpC_ops, wpOps_row, evS_move, CO.evS_t, wpN_okV, wpOps_nil, setS, Kass]
  refine ⟨_, hlid, rfl, ?_⟩
  have hcd : ∀ x ∈ (cs.drop (56 * j)).take 56, x < 256 := fun x hx => hb x (List.mem_of_mem_drop (List.mem_of_mem_take hx))
  have hrd : rdFt ((cs.drop (56 * j)).take 56) = rdFt (cs.drop (56 * j)) := by
    have : ∀ i, i < 7 → g8 ((cs.drop (56 * j)).take 56) i = g8 (cs.drop (56 * j)) i := by
      intro i hi
      unfold g8
      rw [List.drop_take, List.take_take, Nat.min_eq_left (by omega)]
    simp only [rdFt, this 0 (by omega), this 1 (by omega), this 2 (by omega), this 3 (by omega), this 4 (by omega), this 5 (by omega), this 6 (by omega)]
  generalize (cs.drop (56 * j)).take 56 = dd at *
  generalize hgb : g.set (h.next + 4) _ = gb
  have nb : gb.next = g.next := by rw [← hgb]; rfl
  have gbo : ∀ i, i ≠ h.next + 4 → gb.get i = g.get i := fun i hi => by rw [← hgb]; exact get_set_old hi
  have gbl : gb.get (h.next + 4) = some (.loop { state := .busy, pending := none, n := 78, tmps := tmps, params := #[36], assign := goAssign 8 0, body := goBody 8 0 }) := by rw [← hgb]; exact get_set_new _ _
  have oxb : Own (h.next + 5) gb 8 j x (feet (rdAll j cs)) := by rw [← hgb]; exact ox.set _ (ox.ne (by omega))
  have hub : Sl gb 1 56 u (by8 dd) := by
    refine ⟨hu.1, ?_⟩
    rcases hu.2 with e | ⟨id, off, cap, x, vs, ro, e1, e2, e6, e3, e4, e5⟩
    · exact .inl e
    · exact .inr ⟨id, off, cap, x, vs, ro, e1, by rw [nb]; exact e2, e6, by rw [gbo _ (by intro e; rw [e, hlid] at e3; cases e3)]; exact e3, e4, e5⟩
  simp [goBodyC8_0]
  refine w_count (n := 7) (by rfl) (fun i σ ds g2 => ds = [] ∧ σ 6 = .ptr h.next 0 ∧ σ 7 = u ∧ σ 8 = .ptr gb.next 0 ∧ g2 = gb.push (.cells (fi dd i) false)) (by omega) (by simp) ?_ (fun _ _ _ _ _ => rfl) ?_ ?_
  · simp [h6, fi, ints]
  · rintro i σ ds g2 hi7 hi ⟨rfl, e6, e7, e8, rfl⟩
    have hu2 := hub.fr (Fr.push (.refl gb) (.cells (fi dd i) false))
    obtain ⟨w, f1, s1⟩ := hu2.slice (lo := some (.int .i64 ((8 * i : Nat) : Int))) (hi := some (.int .i64 ((8 * i + 8 : Nat) : Int))) (a := 8 * i) (b := 8 * i + 8) (.inr ⟨.i64, rfl⟩) (.inr ⟨.i64, rfl⟩) (by omega) (by omega)
    have s1' : Sl (gb.push (.cells (fi dd i) false)) 1 8 w (by8 ((dd.drop (8 * i)).take 8)) := by
      rw [show 8 * i + 8 - 8 * i = 8 from by omega] at s1
      simpa [by8_take, by8_drop] using s1
    have t1 : ((8 * i : Nat) : Int) = 8 * (i : Int) := by omega
    have t2 : ((8 * i + 8 : Nat) : Int) = 8 * (i : Int) + 8 := by omega
    rw [t1, t2] at f1
    have w1 : wrapF .i64 (8 * (i : Int)) = 8 * (i : Int) := wrap_i64 (by omega) (by omega)
    have w2 : wrapF .i64 (8 * (i : Int) + 8) = 8 * (i : Int) + 8 := wrap_i64 (by omega) (by omega)
    have hg : wrapF .i64 (beV ((dd.drop (8 * i)).take 8) : Int) = g8 dd i := rfl
    have gt := get19 s1' (fun x hx => hcd x (List.mem_of_mem_drop (List.mem_of_mem_take hx))) (by omega) (by omega)
    have x1 : opIdxA 7 1 (.ptr gb.next 0) (.int .i64 (i : Int)) = .ok (.ptr gb.next i) := by
      rw [opIdxA_ptr _ _ _ _ _ _ ⟨by omega, by omega⟩]; simp
    have st : storeN (gb.push (.cells (fi dd i) false)) gb.next i [.int .i64 (g8 dd i)] = .ok (gb.push (.cells (fi dd (i + 1)) false)) := by
      rw [storeN_one (get_push_new _) (by rw [fi_length _ _ (by omega)]; omega) rfl, fi_step _ _ hi7, AH.set_push]
    simp [e6, e7, e8, hi, w1, w2, f1, gt, hg, x1, st]
  · rintro σ ds g2 ⟨rfl, e6, e7, e8, rfl⟩
    have hn1 : h.next + 5 ≤ gb.next := by omega
    have lx : load1 (gb.push (.cells (fi dd 7) false)) h.next 0 = .ok x := by
      rw [load1_of (vs := [x]) (ro := false) (by rw [get_push_old (by omega), gbo _ (by omega)]; exact hc)]; rfl
    have fp := (Fr.push (.refl gb) (.cells (fi dd 7) false)).push (.cells (rdFt dd).cells false)
    have ox2 := oxb.fr fp
    have hsl : Sl ((gb.push (.cells (fi dd 7) false)).push (.cells (rdFt dd).cells false)) 8 1 (.slice (gb.next + 1) 0 1 1 true 8) (rdFt dd).cells :=
      (Own.fresh (B := 0) (h := gb.push (.cells (fi dd 7) false)) true (Nat.zero_le _) rfl).sl
    obtain ⟨x', h3, a1, a2, a3, a4, a5⟩ := ox2.append (bytes := 80) hsl (by simp; omega) rfl (by omega) (by omega)
    have low : ∀ i, i < h.next + 5 → h3.get i = gb.get i := fun i hi => by
      rw [a3.get i hi, get_push_old (by simp; omega), get_push_old (by omega)]
    have hn3 : gb.next + 2 ≤ h3.next := by have := a3.next; simpa using this
    have st : storeN h3 h.next 0 [x'] = .ok (h3.set h.next (.cells [x'] false)) := by
      rw [storeN_one (vs := [x]) (by rw [low _ (by omega), gbo _ (by omega)]; exact hc) (by simp) a2.sl.oneCell.2]; rfl
    have fin : Own (h.next + 5) ((h3.set h.next (.cells [x'] false)).set (h.next + 4) (.loop { state := .ready, pending := none, n := 78, tmps := tmps, params := #[36], assign := goAssign 8 0, body := goBody 8 0 })) 8 (j + 1) x' (feet (rdAll (j + 1) cs)) := by
      rw [rdAll_succ, feet_snoc, ← hrd]
      exact (a2.set _ (a2.ne (by omega))).set _ (a2.ne (by omega))
    have hcl := a2.sl.oneCell.1
    simp only [rdFt, Ft.cells] at a1
    simp [e6, e8, lx, fi_get dd 0 (by omega), fi_get dd 1 (by omega), fi_get dd 2 (by omega), fi_get dd 3 (by omega), fi_get dd 4 (by omega), fi_get dd 5 (by omega), fi_get dd 6 (by omega), splice_eq, a1, hcl, st, Kend]
    refine ⟨_, (get_set_old (by omega)).trans ((low _ (by omega)).trans gbl), ?_⟩
    have g4 : ∀ i, i < h.next + 4 → i ≠ h.next → ((h3.set h.next (.cells [x'] false)).set (h.next + 4) (.loop { state := .ready, pending := none, n := 78, tmps := tmps, params := #[36], assign := goAssign 8 0, body := goBody 8 0 })).get i = g.get i := fun i h1 h2 => by
      rw [get_set_old (by omega), get_set_old h2, low _ (by omega), gbo _ (by omega)]
    refine ⟨⟨by simp; omega, fun i hi => (g4 i (by omega) (by omega)).trans (hF.get i hi)⟩, ⟨x', ?_, fin⟩, ?_, ?_, ?_, ?_, by simp; omega⟩
    · rw [get_set_old (by omega), get_set_new]
    · rw [g4 _ (by omega) (by omega)]; exact hps
    · rw [g4 _ (by omega) (by omega)]; exact hpn
    · rw [g4 _ (by omega) (by omega)]; exact hdid
    · exact get_set_new _ _

end Go.Proofs.Ythkoheaklmgonaa
