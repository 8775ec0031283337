import Derived.Test.YthkoheaklmgonaaFmJ
namespace Go.Proofs.Ythkoheaklmgonaa
open Go Go.Dr
set_option maxRecDepth 100000

/-- without its parents -/
def bareF (f : Ft) : Ft := { f with par := .nils }

def inI64 (n : Int) : Prop := -9223372036854775808 ≤ n ∧ n < 9223372036854775808
def Ft.fits (f : Ft) : Prop := ∀ n ∈ f.nums, inI64 n

theorem wrap_back {n : Int} (h : inI64 n) : wrapF .i64 (u64 n : Int) = n := by
  obtain ⟨h1, h2⟩ := h
  rw [wrapF_eq, IntKind.wrap_i64]
  unfold u64
  omega

theorem canFrom_bare : ∀ (l : List Ft) (ks : List Int) (r : Int), canFrom ks r (l.map bareF) = canFrom ks r l
  | [], _, _ => rfl
  | f :: l, ks, r => by
    simp only [List.map_cons, canFrom]
    rw [show (bareF f).num = f.num from rfl, show (bareF f).rank = f.rank from rfl, canFrom_bare l]
    rfl

theorem numsB_at (l : List Int) (i : Nat) (hi : i < l.length) : ((numsB l).drop (8 * i)).take 8 = be 8 (u64 l[i]) := by
  have := (flat_get (l.map fun n => be 8 (u64 n)) 8 (by simp)).2 i (be 8 (u64 l[i])) (by simp [hi])
  rw [Nat.mul_comm]
  exact this

theorem numsB_len (f : Ft) : (numsB f.nums).length = 56 := by rw [numsB_length]; rfl

theorem g8_at {f : Ft} (hf : f.fits) (rest : List Nat) (i : Nat) (hi : i < 7) : g8 (numsB f.nums ++ rest) i = f.nums[i]'hi := by
  unfold g8
  rw [List.drop_append_of_le_length (by rw [numsB_len]; omega), List.take_append_of_le_length (by rw [List.length_drop, numsB_len]; omega), numsB_at f.nums i hi, beV_be, Nat.mod_eq_of_lt (by have := u64_lt (f.nums[i]'hi); simpa using this)]
  exact wrap_back (hf _ (List.getElem_mem hi))

theorem rdFt_at {f : Ft} (hf : f.fits) (rest : List Nat) : rdFt (numsB f.nums ++ rest) = bareF f := by
  simp only [rdFt, g8_at hf rest 0 (by omega), g8_at hf rest 1 (by omega), g8_at hf rest 2 (by omega), g8_at hf rest 3 (by omega), g8_at hf rest 4 (by omega), g8_at hf rest 5 (by omega), g8_at hf rest 6 (by omega)]
  rfl

theorem manB_drop : ∀ (l : List Ft) (j : Nat) (hj : j < l.length), ∃ rest, (manB l).drop (56 * j) = numsB l[j].nums ++ rest
  | f :: l, 0, _ => ⟨manB l, rfl⟩
  | f :: l, j + 1, hj => by
    obtain ⟨rest, e⟩ := manB_drop l j (by simpa using hj)
    refine ⟨rest, ?_⟩
    have h1 : manB (f :: l) = numsB f.nums ++ manB l := rfl
    rw [h1, show 56 * (j + 1) = 56 + 56 * j from by omega, ← List.drop_drop, List.drop_left' (numsB_len f), e]
    rfl

theorem rdAll_man (l : List Ft) (hf : ∀ f ∈ l, f.fits) : rdAll l.length (manB l) = l.map bareF := by
  refine List.ext_getElem (by simp [rdAll]) fun j h1 h2 => ?_
  have hj : j < l.length := by simpa using h2
  obtain ⟨rest, e⟩ := manB_drop l j hj
  simp only [rdAll, List.getElem_map, List.getElem_range]
  rw [e, rdFt_at (hf _ (List.getElem_mem hj))]

theorem man_back {l : List Ft} (hc : canFrom [] 0 l = true) (hn : l.length ≤ 1000) (hf : ∀ f ∈ l, f.fits) :
    manOk (be 4 l.length ++ manB l) ∧ rdE (be 4 l.length ++ manB l) = 0 ∧ rdL (be 4 l.length ++ manB l) = l.map bareF := by
  have h1 : (be 4 l.length ++ manB l).take 4 = be 4 l.length := List.take_left' (be_length _ _)
  have h2 : (be 4 l.length ++ manB l).drop 4 = manB l := List.drop_left' (be_length _ _)
  have h3 : beV (be 4 l.length) = l.length := by rw [beV_be, Nat.mod_eq_of_lt (by omega)]
  have ok : manOk (be 4 l.length ++ manB l) := by
    unfold manOk
    rw [h1, h2, h3, rdAll_man l hf, canFrom_bare, List.length_append, be_length, manB_length]
    exact ⟨by omega, hn, by omega, hc⟩
  refine ⟨ok, by rw [rdE, if_pos ok], ?_⟩
  rw [rdL, if_pos ok, h1, h2, h3, rdAll_man l hf]

theorem man_long {l : List Ft} (hn : l.length ≤ 1000) : rdE (be 4 l.length ++ manB l ++ [0]) = 5 := by
  rw [rdE, if_neg]
  intro h
  have h1 : (be 4 l.length ++ manB l ++ [0]).take 4 = be 4 l.length := by rw [List.append_assoc]; exact List.take_left' (be_length _ _)
  have h3 : beV (be 4 l.length) = l.length := by rw [beV_be, Nat.mod_eq_of_lt (by omega)]
  have := h.2.2.1
  rw [h1, h3, List.length_append, List.length_append, be_length, manB_length, List.length_singleton] at this
  omega

theorem manB_lt (l : List Ft) : ∀ x ∈ manB l, x < 256 := by
  intro x hx
  simp only [manB, numsB, List.mem_flatten, List.mem_map] at hx
  obtain ⟨_, ⟨f, _, rfl⟩, hx⟩ := hx
  simp only [List.mem_flatten, List.mem_map] at hx
  obtain ⟨_, ⟨n, _, rfl⟩, hx⟩ := hx
  exact be_lt _ _ x hx

theorem feet_scalar : ∀ (l : List Ft), (∀ f ∈ l, f.par.scalar = true) → allScalar (feet l) = true
  | [], _ => rfl
  | f :: l, h => by
    have h1 := feet_scalar l fun g hg => h g (List.mem_cons_of_mem _ hg)
    have h2 : feet (f :: l) = f.cells ++ feet l := rfl
    rw [h2]
    simp [Ft.cells, h1, h f (by simp)]

theorem feet_append (a b : List Ft) : feet (a ++ b) = feet a ++ feet b := by simp [feet]

theorem feet_bare (l : List Ft) (j : Nat) (hj : j < l.length) : (feet ((l.take j).map bareF ++ l.drop j)).set (j * 8 + 7) .nils = feet ((l.take (j + 1)).map bareF ++ l.drop (j + 1)) := by
  rw [List.drop_eq_getElem_cons hj, List.take_add_one, List.getElem?_eq_getElem hj, Option.toList_some, List.map_append, List.map_singleton, List.append_assoc]
  have hl : (feet ((l.take j).map bareF)).length = j * 8 := by rw [feet_length, List.length_map, List.length_take, Nat.min_eq_left (by omega)]
  rw [feet_append, feet_append, List.set_append_right _ _ (by omega), hl, show j * 8 + 7 - j * 8 = 7 from by omega]
  rfl

theorem law4 {h : AH} {v : AV} {l : List Ft} {n : Nat} (hv : Sl h 8 n v (feet l)) (hn : l.length = n) (hp : ∀ f ∈ l, f.par.scalar = true) (hfit : ∀ f ∈ l, f.fits) : Ev Try.prog S0 (.fn 4) [v] h (fun r h' => r = .bool true ∧ Fr h h') := by
  refine ev_fn comp4 rfl rfl ?_
  obtain ⟨v', a1, s1⟩ := hv.slice (lo := none) (hi := some (.int .i64 ((min n 20 : Nat) : Int))) (a := 0) (b := min n 20) (.inl ⟨rfl, rfl⟩) (.inr ⟨.i64, rfl⟩) (by omega) (by omega)
  have m1 : min (n : Int) 20 = ((min n 20 : Nat) : Int) := by omega
  have s1' : Sl h 8 (min n 20) v' (feet (l.take (min n 20))) := by
    rw [← feet_take _ _ (by omega)]; simpa using s1
  have hn' : (l.take (min n 20)).length = min n 20 := by rw [List.length_take]; omega
  have hp' : ∀ f ∈ l.take (min n 20), f.par.scalar = true := fun f hf => hp f (List.mem_of_mem_take hf)
  have hfit' : ∀ f ∈ l.take (min n 20), f.fits := fun f hf => hfit f (List.mem_of_mem_take hf)
  have hn2 : min n 20 ≤ 20 := by omega
  generalize l.take (min n 20) = l' at *
  generalize min n 20 = n' at *
  simp only [cc4, wpC_seq, wpC_ops, wpOps_row, wpOps_nil, evS_move, evS_lenV, evS_mm, evS_sliceV, CO.evS_t, CO.evS_c, evLS_nil, evLS_cons, evOS_none, evOS_some, wpN_okV, wpN_keep, Kseq_normal, upd_some, argS_0, Nat.reduceEqDiff, if_true, if_false,
    hv.len, mm_min, m1, a1, evS_callV, callVal_fn, List.nil_append, List.append_nil, wpN_enter]
  refine (man6 s1' hn' hp' (by omega)).mono ?_
  rintro r6 h1 p6
  by_cases hok : canFrom [] 0 l' = true ∧ l'.length ≤ 1000
  case neg =>
    have hE : manE l' = 1 := if_neg hok
    have hL : manL l' = [] := if_neg hok
    obtain ⟨f1, x, rfl, o6⟩ := p6.get
    rw [hE]
    rw [hL] at o6
    simp
    refine (man7 (s1'.fr f1) hn' hp' (by omega)).mono ?_
    rintro r7 h2 p7
    obtain ⟨f2, y, rfl, o7⟩ := p7.get
    rw [hE]
    simp [(o6.sl.fr f2).len]
    refine awake12.mono ?_
    rintro r h3 ⟨rfl, f3⟩
    simp [f1.trans (f2.trans f3)]
  have hE : manE l' = 0 := if_pos hok
  have hL : manL l' = be 4 l'.length ++ manB l' := if_pos hok
  obtain ⟨f1, x, rfl, o6⟩ := p6.get
  obtain ⟨bk1, bk2, bk3⟩ := man_back hok.1 hok.2 hfit'
  have hlong := man_long (l := l') hok.2
  have hlt : ∀ x ∈ be 4 l'.length ++ manB l', x < 256 := by
    intro x hx
    rcases List.mem_append.1 hx with hx | hx
    · exact be_lt _ _ x hx
    · exact manB_lt _ x hx
  have hlen : (be 4 l'.length ++ manB l').length ≤ 2000 := by rw [List.length_append, be_length, manB_length]; omega
  rw [hE]
  rw [hL] at o6
  generalize be 4 l'.length ++ manB l' = ms at *
  simp
  refine (read8 o6.sl hlt (by omega)).mono ?_
  rintro r8 h2 p8
  obtain ⟨f2, p, rfl, o8⟩ := p8.get
  rw [bk2]
  rw [bk3] at o8
  simp
  refine (clone5 (o6.sl.fr f2) (by8_scalar _) (by omega)).mono ?_
  rintro r5 h3 ⟨f3, o5⟩
  have hz : Sl (h3.push (.cells [.int .u8 0] false)) 1 1 (.slice h3.next 0 1 1 true 1) (by8 [0]) := (Own.fresh (B := 0) true (Nat.zero_le _) rfl).sl
  obtain ⟨z, h4, b1, b2, b3, _, _⟩ := (o5.fr (Fr.push (.refl h3) (.cells [.int .u8 0] false))).append (bytes := 1) hz (by have := f3.next; simp; omega) (by8_scalar _) (by omega) (by omega)
  have f4 : Fr h2 h4 := ⟨Nat.le_trans (Nat.le_trans f3.next (by simp)) b3.next, fun i hi => (b3.get i hi).trans ((get_push_old (by have := f3.next; omega)).trans (f3.get i hi))⟩
  rw [← by8_append] at b2
  simp [splice_eq, b1]
  have hlt2 : ∀ x ∈ ms ++ [0], x < 256 := by
    intro x hx
    rcases List.mem_append.1 hx with hx | hx
    · exact hlt x hx
    · simp at hx; omega
  refine (read8 b2.sl hlt2 (by omega)).mono ?_
  rintro r9 h5 p9
  obtain ⟨f5, q, rfl, o9⟩ := p9.get
  rw [hlong]
  simp
  have f15 : Fr h1 h5 := f2.trans (f4.trans f5)
  refine (clone13 (s1'.fr (f1.trans f15)) (feet_scalar _ hp') (by omega)).mono ?_
  rintro r13 h6 ⟨f6, o13⟩
  simp [o13.sl.len]
  refine w_count (n := n') (by rfl) (fun j σ ds g => ds = [] ∧ σ 7 = p ∧ σ 8 = .int .i64 0 ∧ σ 10 = .int .i64 5 ∧ σ 11 = r13 ∧ σ 57 = .int .i64 (n' : Int) ∧ Fr h5 g ∧ Own h5.next g 8 n' r13 (feet ((l'.take j).map bareF ++ l'.drop j))) (by omega) (by simp) ?_ (fun j σ ds h' hJ => by simp [hJ.2.2.2.2.2.1]) ?_ ?_
  · simp [f6]; exact o13
  · rintro j σ ds g hj hi ⟨rfl, e7, e8, e10, e11, e57, hf, ho⟩
    obtain ⟨id, o, g', c1, c2, c3, c4, c5⟩ := ho.store (k := .i64) (i := (j : Int)) (j := j) (c := 7) (x := .nils) rfl hj (by omega) rfl
    rw [feet_bare l' j (by omega)] at c3
    simp [e7, e8, e10, e11, e57, hi, c1, c2]
    refine ⟨⟨by rw [c5]; exact hf.next, fun i hi => (c4.get i hi).trans (hf.get i hi)⟩, ?_⟩
    simpa using c3
  · rintro σ ds g ⟨rfl, e7, e8, e10, e11, e57, hf, ho⟩
    rw [List.take_of_length_le (by omega), List.drop_of_length_le (by omega), List.append_nil] at ho
    simp [e7, e8, e10, e11]
    have o8' : Sl g 8 n' p (feet (l'.map bareF)) := by
      have := o8.sl.fr (f4.trans (f5.trans hf))
      rw [List.length_map, hn'] at this
      exact this
    refine (same11 o8' ho.sl (by simp [hn']) (by simp [bareF]) (by omega)).mono ?_
    rintro r11 h7 ⟨rfl, f7⟩
    simp [f1.trans (f15.trans (hf.trans f7))]

end Go.Proofs.Ythkoheaklmgonaa
