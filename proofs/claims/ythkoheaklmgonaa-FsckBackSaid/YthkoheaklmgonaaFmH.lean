import Derived.Test.YthkoheaklmgonaaFmG
namespace Go.Proofs.Ythkoheaklmgonaa
open Go Go.Dr
set_option maxRecDepth 100000

theorem read8 {h : AH} {v : AV} {bs : List Nat} {n : Nat} (hv : Sl h 1 n v (by8 bs)) (hb : ∀ x ∈ bs, x < 256) (hn : n < 2 ^ 62) : Ev Try.prog S0 (.fn 8) [v] h (ReadPost h bs) := by
  have hl : bs.length = n := by have := hv.1; simpa using this
  refine ev_fn comp8 rfl rfl ?_
  by_cases h4 : n < 4
  · have e1 : (n : Int) < 4 := by omega
    simp [cc8, hv.len, e1, ReadPost, Fr.refl, manOk, hl, show ¬ 4 ≤ n by omega]
  have e1 : ¬ (n : Int) < 4 := by omega
  obtain ⟨v0, f0, s0⟩ := hv.slice (lo := none) (hi := some (.int .i64 (4 : Nat))) (a := 0) (b := 4) (.inl ⟨rfl, rfl⟩) (.inr ⟨.i64, rfl⟩) (by omega) (by omega)
  obtain ⟨v1, f1, s1⟩ := hv.slice (lo := some (.int .i64 (4 : Nat))) (hi := none) (a := 4) (b := n) (.inr ⟨.i64, rfl⟩) (.inl ⟨rfl, rfl⟩) (by omega) (Nat.le_refl _)
  simp only [show ((4 : Nat) : Int) = 4 from rfl] at f0 f1
  have s0' : Sl h 1 4 v0 (by8 (bs.take 4)) := by simpa [by8_take, by8_drop] using s0
  have s1' : Sl h 1 (n - 4) v1 (by8 (bs.drop 4)) := by
    have : (bs.drop 4).take (n - 4) = bs.drop 4 := List.take_of_length_le (by simp <;> omega)
    simpa [by8_take, by8_drop, this] using s1
  have gt := get19 s0' (fun x hx => hb x (List.mem_of_mem_take hx)) (by omega) (by omega)
  have hlt := beV_lt (bs.take 4) (fun x hx => hb x (List.mem_of_mem_take hx))
  rw [List.length_take, Nat.min_eq_left (by omega)] at hlt
  have hb1 : ∀ x ∈ bs.drop 4, x < 256 := fun x hx => hb x (List.mem_of_mem_drop hx)
  have ok : manOk bs ↔ (beV (bs.take 4) ≤ 1000 ∧ n - 4 = 56 * beV (bs.take 4) ∧ canFrom [] 0 (rdAll (beV (bs.take 4)) (bs.drop 4)) = true) := by
    unfold manOk; rw [hl]; constructor
    · rintro ⟨_, h⟩; exact h
    · intro h; exact ⟨by omega, h⟩
  unfold ReadPost
  rw [ok]
  clear ok s0 s1 s0'
  generalize beV (bs.take 4) = k at *
  by_cases hk : k ≤ 1000
  case neg =>
    have e2 : (1000 : Int) < (k : Int) := by omega
    simp [cc8, hv.len, e1, f0, f1, gt, e2, Fr.refl, hk]
  have e2 : ¬ (1000 : Int) < (k : Int) := by omega
  have w1 : wrapF .i64 (k : Int) = (k : Int) := wrap_i64 (by omega) (by omega)
  have w2 : wrapF .i64 ((k : Int) * 8) = (k : Int) * 8 := wrap_i64 (by omega) (by omega)
  have w3 : wrapF .i64 ((k : Int) * 8 * 7) = (k : Int) * 8 * 7 := wrap_i64 (by omega) (by omega)
  by_cases hk2 : n - 4 = 56 * k
  case neg =>
    have e3 : ¬ (((n - 4 : Nat) : Int) = (k : Int) * 8 * 7) := by omega
    simp [cc8, hv.len, e1, f0, f1, gt, e2, s1'.len, w1, w2, w3, e3, Fr.refl, hk2]
  have e3 : (((n - 4 : Nat) : Int) = (k : Int) * 8 * 7) := by omega
  simp [cc8, hv.len, e1, f0, f1, gt, e2, s1'.len, w1, w2, w3, e3, chunk20 s1'.oneCell.1]
  rw [hk2] at s1'
  generalize bs.drop 4 = cs at *
  have hcl : cs.length = 56 * k := by have := s1'.1; simpa using this
  rw [wpC_go]
  simp only [CO.evS_t, upd_some, Nat.reduceEqDiff, if_true, if_false, wpGo_func, List.nil_append, AH.next_push]
  intro tmps ht
  have h6 : valT tmps 6 = .ptr h.next 0 := by rw [ht]; rfl
  simp only [Nat.add_assoc, Nat.reduceAdd]
  generalize hg0 : ((((h.push (.cells [.nils] false)).push (.cells [v1] false)).push (.cells [.int .i64 56] false)).push (.deferred (some []))).push (.loop _) = g0
  have hI0 : RInv h v1 cs tmps 0 g0 := by
    subst hg0
    refine ⟨((((Fr.push (.refl h) _).push _).push _).push _).push _, ⟨.nils, ?_, by simpa [rdAll, feet] using Own.nil _ _⟩, ?_, ?_, ?_, ?_, by simp⟩
    · rw [get_push_old (by simp <;> omega), get_push_old (by simp <;> omega), get_push_old (by simp <;> omega), get_push_old (by simp), get_push_new]
    · rw [get_push_old (by simp <;> omega), get_push_old (by simp <;> omega), get_push_old (by simp)] <;> exact get_push_new _
    · rw [get_push_old (by simp <;> omega), get_push_old (by simp)] <;> exact get_push_new _
    · rw [get_push_old (by simp)] <;> exact get_push_new _
    · exact get_push_new _
  refine (chunk26 hk (RInv h v1 cs tmps) (fun j g hI => ⟨?_, ?_, s1'.fr hI.fr⟩) (fun j g u hj hI hu => round8 h6 hb1 hk hj hI hu) hI0).mono ?_
  · rw [load1_of hI.ps]; rfl
  · rw [load1_of hI.pn]; rfl
  rintro _ g ⟨hF, ⟨x, hc, ox⟩, hps, hpn, hdid, hlid, hnext⟩
  refine ⟨_, by simpa only [Nat.add_assoc, Nat.reduceAdd] using hlid, by simp, ?_⟩
  simp
  simp only [show h.next + 3 + 1 = h.next + 4 from rfl]
  generalize hg1 : g.set (h.next + 4) _ = g1
  have o1 : ∀ i, i ≠ h.next + 4 → g1.get i = g.get i := fun i hi => by rw [← hg1]; exact get_set_old hi
  have n1 : g1.next = g.next := by rw [← hg1]; rfl
  have ox1 : Own (h.next + 5) g1 8 k x (feet (rdAll k cs)) := by rw [← hg1]; exact ox.set _ (ox.ne (by omega))
  have lx : ∀ g2, Fr g1 g2 → load1 g2 h.next 0 = .ok x := fun g2 f2 => by
    rw [load1_of (vs := [x]) (ro := false) (by rw [f2.get _ (by omega), o1 _ (by omega)]; exact hc)]; rfl
  have hF1 : Fr h g1 := ⟨by rw [n1]; exact hF.next, fun i hi => (o1 i (by omega)).trans (hF.get i hi)⟩
  simp [lx g1 (.refl _)]
  refine (can14 ox1.sl (rdAll_length _ _) (rdAll_scalar _ _) (by omega)).mono ?_
  rintro r2 h2 ⟨rfl, f2⟩
  have hd2 : h2.get (h.next + 3) = some (.deferred (some [])) := by rw [f2.get _ (by omega), o1 _ (by omega)]; exact hdid
  have hF2 : Fr h (h2.set (h.next + 3) (.deferred none)) := (hF1.trans f2).set _ (by omega)
  have ox2 : Own h.next (h2.set (h.next + 3) (.deferred none)) 8 k x (feet (rdAll k cs)) := ((ox1.fr f2).set _ (ox1.ne (by omega))).base (by omega)
  cases hcan : canFrom [] 0 (rdAll k cs)
  · simp [Kfin_ret_ds, Defers_collected, hd2, hF2]
  · simp [lx h2 f2, Kfin_ret_ds, Defers_collected, hd2, hF2, hk, hk2, ox2]

end Go.Proofs.Ythkoheaklmgonaa
