import Derived.Test.YthkoheaklmgonaaFmI
namespace Go.Proofs.Ythkoheaklmgonaa
open Go Go.Dr
set_option maxRecDepth 100000

open Classical in
noncomputable def manE (l : List Ft) : Int := if canFrom [] 0 l = true ∧ l.length ≤ 1000 then 0 else 1
open Classical in
noncomputable def manL (l : List Ft) : List Nat := if canFrom [] 0 l = true ∧ l.length ≤ 1000 then be 4 l.length ++ manB l else []
open Classical in
noncomputable def rdE (bs : List Nat) : Int := if manOk bs then 0 else 5
open Classical in
noncomputable def rdL (bs : List Nat) : List Ft := if manOk bs then rdAll (beV (bs.take 4)) (bs.drop 4) else []

theorem numsB_length : ∀ l : List Int, (numsB l).length = l.length * 8
  | [] => rfl
  | x :: l => by
    have := numsB_length l
    simp only [numsB, List.map_cons, List.flatten_cons, List.length_append, be_length, List.length_cons] at this ⊢
    omega

theorem manB_length : ∀ l : List Ft, (manB l).length = l.length * 56
  | [] => rfl
  | f :: l => by
    have := manB_length l
    have h2 : (numsB f.nums).length = 56 := by rw [numsB_length]; rfl
    simp only [manB, List.map_cons, List.flatten_cons, List.length_append, List.length_cons] at this ⊢
    omega

theorem ManPost.get {h h' : AH} {l : List Ft} {r : AV} (p : ManPost h l r h') : Fr h h' ∧ ∃ x, r = .tuple [x, .int .i64 (manE l)] ∧ Own h.next h' 1 (manL l).length x (by8 (manL l)) := by
  obtain ⟨f, ⟨h1, h2, b, rfl, ho⟩ | ⟨hno, rfl⟩⟩ := p
  · refine ⟨f, b, ?_, ?_⟩
    · rw [manE, if_pos ⟨h1, h2⟩]
    · rw [manL, if_pos ⟨h1, h2⟩, List.length_append, be_length, manB_length]; exact ho
  · refine ⟨f, .nils, ?_, ?_⟩
    · rw [manE, if_neg hno]
    · rw [manL, if_neg hno]; exact Own.nil _ _

theorem ReadPost.get {h h' : AH} {bs : List Nat} {r : AV} (p : ReadPost h bs r h') : Fr h h' ∧ ∃ x, r = .tuple [x, .int .i64 (rdE bs)] ∧ Own h.next h' 8 (rdL bs).length x (feet (rdL bs)) := by
  obtain ⟨f, ⟨h1, b, rfl, ho⟩ | ⟨hno, rfl⟩⟩ := p
  · refine ⟨f, b, ?_, ?_⟩
    · rw [rdE, if_pos h1]
    · rw [rdL, if_pos h1, rdAll_length]; exact ho
  · refine ⟨f, .nils, ?_, ?_⟩
    · rw [rdE, if_neg hno]
    · rw [rdL, if_neg hno]; exact Own.nil _ _

theorem rdL_par (bs : List Nat) : ∀ f ∈ rdL bs, f.par = .nils := by
  intro f hf
  unfold rdL at hf
  split at hf
  · simp only [rdAll, List.mem_map] at hf
    obtain ⟨j, _, rfl⟩ := hf
    rfl
  · cases hf

theorem rdL_length (bs : List Nat) : (rdL bs).length ≤ 1000 := by
  unfold rdL
  split
  · rename_i h; rw [rdAll_length]; exact h.2.1
  · simp

theorem manL_length (l : List Ft) : (manL l).length ≤ 56004 := by
  unfold manL
  split
  · rename_i h; rw [List.length_append, be_length, manB_length]; omega
  · simp

theorem feet_take (l : List Ft) (k : Nat) (hk : k ≤ l.length) : (feet l).take (k * 8) = feet (l.take k) := by
  have h1 : feet l = feet (l.take k) ++ feet (l.drop k) := by
    unfold feet; rw [← List.flatten_append, ← List.map_append, List.take_append_drop]
  rw [h1, List.take_left' (by rw [feet_length, List.length_take, Nat.min_eq_left hk])]

theorem law3 {h : AH} {v u : AV} {l : List Ft} {bs : List Nat} {n m : Nat} (hv : Sl h 8 n v (feet l)) (hn : l.length = n) (hp : ∀ f ∈ l, f.par.scalar = true)
    (hu : Sl h 1 m u (by8 bs)) (hb : ∀ x ∈ bs, x < 256) : Ev Try.prog S0 (.fn 3) [v, u] h (fun r h' => r = .bool true ∧ Fr h h') := by
  have hm : bs.length = m := by have := hu.1; simpa using this
  refine ev_fn comp3 rfl rfl ?_
  obtain ⟨v', a1, s1⟩ := hv.slice (lo := none) (hi := some (.int .i64 ((min n 20 : Nat) : Int))) (a := 0) (b := min n 20) (.inl ⟨rfl, rfl⟩) (.inr ⟨.i64, rfl⟩) (by omega) (by omega)
  obtain ⟨u', a2, s2⟩ := hu.slice (lo := none) (hi := some (.int .i64 ((min m 1200 : Nat) : Int))) (a := 0) (b := min m 1200) (.inl ⟨rfl, rfl⟩) (.inr ⟨.i64, rfl⟩) (by omega) (by omega)
  have m1 : min (n : Int) 20 = ((min n 20 : Nat) : Int) := by omega
  have m2 : min (m : Int) 1200 = ((min m 1200 : Nat) : Int) := by omega
  have s1' : Sl h 8 (min n 20) v' (feet (l.take (min n 20))) := by
    rw [← feet_take _ _ (by omega)]; simpa using s1
  have s2' : Sl h 1 (min m 1200) u' (by8 (bs.take (min m 1200))) := by
    rw [← by8_take]; simpa using s2
  have hn' : (l.take (min n 20)).length = min n 20 := by rw [List.length_take]; omega
  have hp' : ∀ f ∈ l.take (min n 20), f.par.scalar = true := fun f hf => hp f (List.mem_of_mem_take hf)
  have hb' : ∀ x ∈ bs.take (min m 1200), x < 256 := fun x hx => hb x (List.mem_of_mem_take hx)
  have hn2 : min n 20 ≤ 20 := by omega
  have hm2 : min m 1200 ≤ 1200 := by omega
  generalize l.take (min n 20) = l' at *
  generalize bs.take (min m 1200) = bs' at *
  generalize min n 20 = n' at *
  generalize min m 1200 = m' at *
  simp only [cc3, wpC_seq, wpC_ops, wpOps_row, wpOps_nil, evS_move, evS_lenV, evS_mm, evS_sliceV, CO.evS_t, CO.evS_c, evLS_nil, evLS_cons, evOS_none, evOS_some, wpN_okV, wpN_keep, Kseq_normal, upd_some, argS_0, argS_1, Nat.reduceEqDiff, if_true, if_false,
    hv.len, hu.len, mm_min, m1, m2, a1, a2, evS_callV, callVal_fn, List.nil_append, List.append_nil, wpN_enter]
  refine (clone5 s2' (by8_scalar _) (by omega)).mono ?_
  rintro r5 h1 ⟨f1, o5⟩
  simp
  refine (man6 (s1'.fr f1) hn' hp' (by omega)).mono ?_
  rintro r6 h2 p6
  obtain ⟨f2, x, rfl, o6⟩ := p6.get
  simp
  refine (man7 (s1'.fr (f1.trans f2)) hn' hp' (by omega)).mono ?_
  rintro r7 h3 p7
  obtain ⟨f3, y, rfl, o7⟩ := p7.get
  simp
  refine (read8 (o5.sl.fr (f2.trans f3)) hb' (by omega)).mono ?_
  rintro r8 h4 p8
  obtain ⟨f4, p, rfl, o8⟩ := p8.get
  simp
  refine (read9 (s2'.fr (f1.trans (f2.trans (f3.trans f4)))) hb' (by omega)).mono ?_
  rintro r9 h5 p9
  obtain ⟨f5, q, rfl, o9⟩ := p9.get
  have hL := manL_length l'
  have hR := rdL_length bs'
  simp [equal10 (h := h5) (o6.sl.fr (f3.trans (f4.trans f5))) (o7.sl.fr (f4.trans f5)) (by omega)]
  refine (same11 (o8.sl.fr f5) o9.sl rfl (rdL_par _) (by omega)).mono ?_
  rintro r11 h6 ⟨rfl, f6⟩
  have ff : Fr h1 h6 := f2.trans (f3.trans (f4.trans (f5.trans f6)))
  simp [equal10 (h := h6) (o5.sl.fr ff) (s2'.fr (f1.trans ff)) (by omega)]
  refine awake12.mono ?_
  rintro r12 h7 ⟨rfl, f7⟩
  simp [f1.trans (ff.trans f7)]

end Go.Proofs.Ythkoheaklmgonaa
