import Derived.Test.YthkoheaklmgonaaFmE
namespace Go.Proofs.Ythkoheaklmgonaa
open Go Go.Dr
set_option maxRecDepth 100000

/-- the number in eight bytes -/
def g8 (bs : List Nat) (i : Nat) : Int := wrapF .i64 (beV ((bs.drop (8 * i)).take 8) : Int)

def rdFt (bs : List Nat) : Ft := ⟨g8 bs 0, g8 bs 2, g8 bs 3, g8 bs 1, g8 bs 5, g8 bs 6, g8 bs 4, .nils⟩

def rdAll (k : Nat) (bs : List Nat) : List Ft := (List.range k).map fun j => rdFt (bs.drop (56 * j))

theorem rdAll_succ (k : Nat) (bs : List Nat) : rdAll (k + 1) bs = rdAll k bs ++ [rdFt (bs.drop (56 * k))] := by
  simp [rdAll, List.range_succ]
theorem rdAll_length (k : Nat) (bs : List Nat) : (rdAll k bs).length = k := by simp [rdAll]
theorem rdAll_scalar (k : Nat) (bs : List Nat) : ∀ f ∈ rdAll k bs, f.par.scalar = true := by
  intro f hf
  simp only [rdAll, List.mem_map] at hf
  obtain ⟨j, _, rfl⟩ := hf
  rfl
theorem feet_snoc (l : List Ft) (f : Ft) : feet (l ++ [f]) = feet l ++ f.cells := by simp [feet]

def manOk (bs : List Nat) : Prop :=
  4 ≤ bs.length ∧ beV (bs.take 4) ≤ 1000 ∧ bs.length - 4 = 56 * beV (bs.take 4) ∧ canFrom [] 0 (rdAll (beV (bs.take 4)) (bs.drop 4)) = true

/-- what bytes are read as -/
def ReadPost (h : AH) (bs : List Nat) (r : AV) (h' : AH) : Prop :=
  Fr h h' ∧ ((manOk bs ∧ ∃ x, r = .tuple [x, .int .i64 0] ∧ Own h.next h' 8 (beV (bs.take 4)) x (feet (rdAll (beV (bs.take 4)) (bs.drop 4)))) ∨ (¬ manOk bs ∧ r = .tuple [.nils, .int .i64 5]))

/-- seven numbers read -/
def ints (bs : List Nat) (i : Nat) : List AV := (List.range i).map fun k => .int .i64 (g8 bs k)
theorem ints_succ (bs : List Nat) (i : Nat) : ints bs (i + 1) = ints bs i ++ [.int .i64 (g8 bs i)] := by simp [ints, List.range_succ]
theorem ints_scalar (bs : List Nat) : ∀ i, allScalar (ints bs i) = true := by
  intro i
  unfold ints
  induction (List.range i) with
  | nil => rfl
  | cons a l ih => simp [ih]

theorem read9 {h : AH} {v : AV} {bs : List Nat} {n : Nat} (hv : Sl h 1 n v (by8 bs)) (hb : ∀ x ∈ bs, x < 256) (hn : n < 2 ^ 62) : Ev Try.prog S0 (.fn 9) [v] h (ReadPost h bs) := by
  have hl : bs.length = n := by have := hv.1; simpa using this
  refine ev_fn comp9 rfl rfl ?_
  by_cases h4 : n < 4
  · have := int21_short hv h4
    simp only [show ((4 : Nat) : Int) = 4 from rfl] at this
    simp [cc9, this, ReadPost, Fr.refl, manOk, hl, show ¬ 4 ≤ n by omega]
  obtain ⟨v1, s1', i1⟩ := int21 hv hb (k := 4) (by omega) (by omega) (by omega)
  have s1 := s1' h hv
  simp only [show ((4 : Nat) : Int) = 4 from rfl] at i1
  have hlt := beV_lt (bs.take 4) (fun x hx => hb x (List.mem_of_mem_take hx))
  rw [List.length_take, Nat.min_eq_left (by omega)] at hlt
  have hb1 : ∀ x ∈ bs.drop 4, x < 256 := fun x hx => hb x (List.mem_of_mem_drop hx)
  have ok : manOk bs ↔ (beV (bs.take 4) ≤ 1000 ∧ n - 4 = 56 * beV (bs.take 4) ∧ canFrom [] 0 (rdAll (beV (bs.take 4)) (bs.drop 4)) = true) := by
    unfold manOk; rw [hl]; constructor
    · rintro ⟨_, h⟩; exact h
    · intro h; exact ⟨by omega, h⟩
  unfold ReadPost
  rw [ok]
  generalize beV (bs.take 4) = k at *
  have w1 : wrapF .i64 (k : Int) = (k : Int) := wrap_i64 (by omega) (by omega)
  by_cases hk : k ≤ 1000
  case neg =>
    have e1 : (1000 : Int) < (k : Int) := by omega
    simp [cc9, i1, w1, e1, Fr.refl, hk]
  have e1 : ¬ (1000 : Int) < (k : Int) := by omega
  have w2 : wrapF .i64 (56 * (k : Int)) = 56 * (k : Int) := wrap_i64 (by omega) (by omega)
  by_cases hk2 : n - 4 = 56 * k
  case neg =>
    have e2 : ¬ (((n - 4 : Nat) : Int) = 56 * (k : Int)) := by omega
    simp [cc9, i1, w1, e1, s1.len, w2, e2, Fr.refl, hk2]
  have e2 : ((n - 4 : Nat) : Int) = 56 * (k : Int) := by omega
  simp [cc9, i1, w1, e1, s1.len, w2, e2]
  rw [hk2] at s1
  generalize bs.drop 4 = cs at *
  have hcl : cs.length = 56 * k := by have := s1.1; simpa using this
  refine w_loop (fun r σ ds h' => ∃ j, r + j = k ∧ ds = [] ∧ Fr h h' ∧ (∃ u, σ 0 = u ∧ Sl h 1 (56 * k - 56 * j) u (by8 (cs.drop (56 * j)))) ∧ ∃ x, σ 6 = x ∧ Own h.next h' 8 j x (feet (rdAll j cs))) k ⟨0, by simp, by simp, .refl _, by simpa using s1, by simpa [rdAll, feet] using Own.nil _ _⟩ ?_
  rintro r σ ds h' ⟨j, hr, rfl, hf, ⟨u, h0, su⟩, x, h6, ox⟩
  by_cases hj : j < k
  · have c1 : 0 < 56 * k - 56 * j := by omega
    simp [h0, (su.fr hf).len, c1]
    have hcd : ∀ x ∈ cs.drop (56 * j), x < 256 := fun x hx => hb1 x (List.mem_of_mem_drop hx)
    generalize hds : cs.drop (56 * j) = dd at *
    refine w_count (n := 7) (by rfl) (fun i σ ds h2 => ds = [] ∧ σ 6 = x ∧ Fr h' h2 ∧ (∃ u, σ 0 = u ∧ Sl h 1 (56 * k - 56 * j - 8 * i) u (by8 (dd.drop (8 * i)))) ∧ ∃ y, σ 7 = y ∧ Own h'.next h2 1 i y (ints dd i)) (by omega) (by simp) ?_ (fun _ _ _ _ _ => rfl) ?_ ?_
    · simp [h0, h6, Fr.refl]
      exact ⟨su, Own.nil _ _⟩
    · rintro i σ ds h2 hi7 hi ⟨rfl, h6, hf2, ⟨u, h0, su⟩, y, h7, oy⟩
      obtain ⟨v', s2, i2⟩ := int21 (su.fr (hf.trans hf2)) (fun x hx => hcd x (List.mem_of_mem_drop hx)) (k := 8) (by omega) (by omega) (by omega)
      simp only [show ((8 : Nat) : Int) = 8 from rfl] at i2
      have hg : wrapF .i64 (beV ((dd.drop (8 * i)).take 8) : Int) = g8 dd i := rfl
      rw [hg] at i2
      have oy2 := oy.fr (Fr.push (.refl h2) (.cells [.int .i64 (g8 dd i)] false))
      have hsl : Sl (h2.push (.cells [.int .i64 (g8 dd i)] false)) 1 1 (.slice h2.next 0 1 1 true 1) [.int .i64 (g8 dd i)] := (Own.fresh (B := 0) true (Nat.zero_le _) (by simp)).sl
      obtain ⟨y', h3, a1, a2, a3, _, _⟩ := oy2.append (bytes := 8) hsl (by have := hf2.next; simp; omega) rfl (by omega) (by omega)
      simp [h0, h6, h7, hi, i2, splice_eq, a1]
      refine ⟨⟨?_, ?_⟩, ?_, ?_⟩
      · have := a3.next; have := hf2.next; simp at *; omega
      · intro q hq
        rw [a3.get q hq, get_push_old (by have := hf2.next; omega)]
        exact hf2.get q hq
      · have e := s2 _ su
        rw [List.drop_drop] at e
        rw [show 56 * k - 56 * j - 8 * (i + 1) = 56 * k - 56 * j - 8 * i - 8 from by omega, show 8 * (i + 1) = 8 * i + 8 from by omega]
        exact e
      · rw [ints_succ]; exact a2
    · rintro σ ds h2 ⟨rfl, h6, hf2, ⟨u, h0, su⟩, y, h7, oy⟩
      have hget : ∀ c : Nat, c < 7 → ∃ id o, opIdxV 1 y (.int .i64 (c : Int)) = .ok (.ptr id o) ∧ load1 h2 id o = .ok (.int .i64 (g8 dd c)) ∧ ∀ h', Fr h2 h' → load1 h' id o = .ok (.int .i64 (g8 dd c)) :=
        fun c hc => oy.sl.get1 (k := .i64) (i := (c : Int)) rfl hc (by simp [ints, hc])
      obtain ⟨q0, o0, x0, y0, z0⟩ := hget 0 (by omega)
      obtain ⟨q1, o1, x1, y1, z1⟩ := hget 1 (by omega)
      obtain ⟨q2, o2, x2, y2, z2⟩ := hget 2 (by omega)
      obtain ⟨q3, o3, x3, y3, z3⟩ := hget 3 (by omega)
      obtain ⟨q4, o4, x4, y4, z4⟩ := hget 4 (by omega)
      obtain ⟨q5, o5, x5, y5, z5⟩ := hget 5 (by omega)
      obtain ⟨q6, o6, x6, y6, z6⟩ := hget 6 (by omega)
      simp only [show ((0 : Nat) : Int) = 0 from rfl, show ((1 : Nat) : Int) = 1 from rfl, show ((2 : Nat) : Int) = 2 from rfl, show ((3 : Nat) : Int) = 3 from rfl, show ((4 : Nat) : Int) = 4 from rfl, show ((5 : Nat) : Int) = 5 from rfl, show ((6 : Nat) : Int) = 6 from rfl] at x0 x1 x2 x3 x4 x5 x6
      have fp := Fr.push (.refl h2) (.cells (rdFt dd).cells false)
      have ox2 := (ox.fr hf2).fr fp
      have hsl : Sl (h2.push (.cells (rdFt dd).cells false)) 8 1 (.slice h2.next 0 1 1 true 8) (rdFt dd).cells := (Own.fresh (B := 0) true (Nat.zero_le _) rfl).sl
      obtain ⟨x', h3, a1, a2, a3, _, _⟩ := ox2.append (bytes := 80) hsl (by have := hf2.next; have := hf.next; simp; omega) rfl (by omega) (by omega)
      simp only [rdFt, Ft.cells] at z0 z1 z2 z3 z4 z5 z6 a1 a2 a3 fp
      simp [h0, h6, h7, x0, x1, x2, x3, x4, x5, x6, y0, y1, y2, y3, y4, y5, y6, z0 _ fp, z1 _ fp, z2 _ fp, z3 _ fp, z4 _ fp, z5 _ fp, z6 _ fp, splice_eq, a1, Kloop_normal]
      have hF : Fr h (h2.push (.cells (rdFt dd).cells false)) := (hf.trans hf2).push _
      refine ⟨r - 1, by omega, j + 1, by omega, ⟨Nat.le_trans hF.next a3.next, fun q hq => (a3.get q hq).trans (hF.get q hq)⟩, ?_, ?_⟩
      · rw [← hds, List.drop_drop] at su
        rw [show 56 * k - 56 * (j + 1) = 56 * k - 56 * j - 8 * 7 from by omega, show 56 * (j + 1) = 56 * j + 8 * 7 from by omega]
        exact su
      · rw [rdAll_succ, feet_snoc, hds]
        exact a2
  · have hjk : j = k := by omega
    subst hjk
    have c1 : ¬ (0 : Int) < ((56 * j - 56 * j : Nat) : Int) := by omega
    simp [h0, (su.fr hf).len, c1, h6]
    refine (can16 ox.sl (rdAll_length _ _) (rdAll_scalar _ _) (by omega)).mono ?_
    rintro r2 h2 ⟨rfl, f2⟩
    cases hc : canFrom [] 0 (rdAll j cs)
    · simp [hf.trans f2, hk2, hk]
    · simp [hf.trans f2, hk2, hk, h6, ox.fr f2]

end Go.Proofs.Ythkoheaklmgonaa
