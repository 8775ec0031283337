import Derived.Test.YthkoheaklmgonaaDoorIxE
namespace Go.Proofs.YthkoheaklmgonaaDoor
open Go Go.Dr
set_option maxRecDepth 100000

/-- the numbers of a slice, collected -/
theorem appendSeq114 {h : AH} {v : AV} {l : List Int} {n b : Nat} (hv : Sl h 1 n v (iv l)) (hb : b < h.next) (hl1 : load1 h b 0 = .ok v) (hn : n ≤ 2 ^ 30) :
    Ev Tryd.prog SI (.fn 114) [.nils, .func (.func 93) [] [.ptr b 0]] h fun r g => Own h.next g 1 n r (iv l) ∧ Fr h g ∧ (n = 0 → r = .nils) := by
  have hl : l.length = n := by have := hv.1; simpa using this
  refine ev_fn comp114 rfl rfl ?_
  simp [cc114]
  rw [wpC_go]
  simp only [CO.evS_t, upd_some, Nat.reduceEqDiff, if_true, if_false, wpGo_func, List.nil_append, AH.next_push]
  intro tmps ht
  have h2 : valT tmps 2 = .ptr h.next 0 := by rw [ht]; rfl
  simp only [Nat.add_assoc, Nat.reduceAdd]
  generalize hg0 : ((h.push (.cells [.nils] false)).push (.deferred (some []))).push (.loop _) = g0
  have hI0 : RInv h l tmps 0 g0 := by
    subst hg0
    refine ⟨((Fr.push (.refl h) _).push _).push _, ⟨.nils, ?_, by simpa [iv] using Own.nil _ _, fun _ => rfl⟩, ?_, ?_, by simp⟩
    · rw [get_push_old (by simp <;> omega), get_push_old (by simp), get_push_new]
    · rw [get_push_old (by simp)]; exact get_push_new _
    · exact get_push_new _
  have ld : ∀ g, Fr h g → load1 g b 0 = .ok v := fun g f => by
    unfold load1 at hl1 ⊢
    rw [f.get b hb]; exact hl1
  refine (values93 (by omega) (RInv h l tmps) (fun j g hI => ⟨ld g hI.fr, hv.fr hI.fr⟩) (fun j g x hx hI => round114 h2 hx (by omega) hI) hI0).mono ?_
  rintro _ g ⟨hF, ⟨x, hc, ox, hx0⟩, hdid, hlid, hnext⟩
  refine ⟨_, by simpa only [Nat.add_assoc, Nat.reduceAdd] using hlid, by simp, ?_⟩
  simp
  simp only [show h.next + 1 + 1 = h.next + 2 from rfl]
  generalize hg1 : g.set (h.next + 2) _ = g1
  have o1 : ∀ i, i ≠ h.next + 2 → g1.get i = g.get i := fun i hi => by rw [← hg1]; exact get_set_old hi
  have n1 : g1.next = g.next := by rw [← hg1]; rfl
  rw [List.take_of_length_le (by omega)] at ox
  have ox1 : Own (h.next + 3) g1 1 n x (iv l) := by rw [← hg1]; exact ox.set _ (ox.ne (by omega))
  have lx : load1 g1 h.next 0 = .ok x := by
    rw [load1_of (vs := [x]) (ro := false) (by rw [o1 _ (by omega)]; exact hc)]; rfl
  have hF1 : Fr h g1 := ⟨by rw [n1]; exact hF.next, fun i hi => (o1 i (by omega)).trans (hF.get i hi)⟩
  have hd2 : g1.get (h.next + 1) = some (.deferred (some [])) := by rw [o1 _ (by omega)]; exact hdid
  have hF2 : Fr h (g1.set (h.next + 1) (.deferred none)) := hF1.set _ (by omega)
  have ox2 : Own h.next (g1.set (h.next + 1) (.deferred none)) 1 n x (iv l) := (ox1.set _ (ox1.ne (by omega))).base (by omega)
  simp [lx, Kfin_ret_ds, Defers_collected, hd2, hF2, ox2]
  exact hx0

theorem collect91 {h : AH} {v : AV} {l : List Int} {n b : Nat} (hv : Sl h 1 n v (iv l)) (hb : b < h.next) (hl1 : load1 h b 0 = .ok v) (hn : n ≤ 2 ^ 30) :
    Ev Tryd.prog SI (.fn 91) [.func (.func 93) [] [.ptr b 0]] h fun r g => Own h.next g 1 n r (iv l) ∧ Fr h g ∧ (n = 0 → r = .nils) := by
  refine ev_fn comp91 rfl rfl ?_
  simp [cc91]
  refine (appendSeq114 hv hb hl1 hn).mono ?_
  rintro r g ⟨a1, a2, a3⟩
  simp [a1, a2]
  exact a3

theorem sort92 {B : Nat} {h : AH} {v : AV} {l : List Int} {n : Nat} (hv : Own B h 1 n v (iv l)) (h0 : n = 0 → v = .nils) (hn : n ≤ 2 ^ 30) :
    Ev Tryd.prog SI (.fn 92) [v] h fun r g => r = .tuple [] ∧ Own B g 1 n v (iv (sorted l)) ∧ FrB B h g := by
  have hl : l.length = n := by have := hv.1; simpa using this
  have hsl : (sorted l).length = n := by rw [sorted, List.length_mergeSort]; exact hl
  rcases hv.2 with ⟨rfl, rfl⟩ | ⟨id, off, x, vs, rfl, e2, e3, e4, e5, e6⟩
  · obtain rfl : l = [] := List.length_eq_zero_iff.1 hl
    exact ev_sum (g := sortG) (v := .tuple []) (h' := h) rfl rfl ⟨rfl, by simpa [sorted, iv] using hv, .refl _ _⟩
  · have hpos : 0 < n := by
      rcases Nat.eq_zero_or_pos n with e | e
      · have := h0 e; cases this
      · exact e
    rw [Nat.mul_one] at e5 e6
    have hs : sortG [.slice id off n n x 1] h = .ok (.tuple [], h.set id (.cells (splice vs off (iv (sorted l))) false)) := by
      simp only [sortG, e4, e6, iv, intsOf_map]
      rw [if_pos ⟨trivial, hpos, e5, by omega⟩]
    refine ev_sum (g := sortG) (v := .tuple []) rfl hs ⟨rfl, ⟨?_, .inr ⟨id, off, x, _, rfl, e2, e3, get_set_new _ _, ?_, ?_⟩⟩, ⟨Nat.le_refl _, fun i hi => get_set_old (by omega)⟩⟩
    · rw [iv_length]; omega
    · rw [splice_length _ _ _ (by rw [iv_length]; omega)]; omega
    · apply List.ext_getElem?
      intro i
      by_cases hi : i < n
      · rw [List.getElem?_take_of_lt (by omega), List.getElem?_drop, splice_get _ _ _ _ (by rw [iv_length]; omega), if_pos (by rw [iv_length]; omega), show off + i - off = i from by omega]
      · rw [List.getElem?_take_eq_none (by omega), List.getElem?_eq_none (by rw [iv_length]; omega)]

theorem sorted68 {h : AH} {v : AV} {l : List Int} {n b : Nat} (hv : Sl h 1 n v (iv l)) (hb : b < h.next) (hl1 : load1 h b 0 = .ok v) (hn : n ≤ 2 ^ 30) :
    Ev Tryd.prog SI (.fn 68) [.func (.func 93) [] [.ptr b 0]] h fun r g => Own h.next g 1 n r (iv (sorted l)) ∧ Fr h g := by
  refine ev_fn comp68 rfl rfl ?_
  simp [cc68]
  refine (collect91 hv hb hl1 hn).mono ?_
  rintro r g ⟨a1, a2, a3⟩
  simp
  refine (sort92 a1 a3 hn).mono ?_
  rintro _ g2 ⟨rfl, b1, b2⟩
  simp [b1]
  exact ⟨Nat.le_trans a2.next b2.next, fun i hi => (b2.get i hi).trans (a2.get i hi)⟩

theorem rising41 {h : AH} {v : AV} {l : List Int} {n : Nat} (hv : Sl h 1 n v (iv l)) (hn : n ≤ 2 ^ 30) :
    Ev Tryd.prog SI (.fn 41) [v] h fun r g => ∃ m, Wr h.next g m r (iv (rise l)) ∧ m ≤ n ∧ Fr h g := by
  refine ev_fn comp41 rfl rfl ?_
  have v69 : ∀ K : AV → AH → Prop, Ev Tryd.prog SI (.fn 69) [v] h K = K (.func (.func 93) [] [.ptr h.next 0]) (h.push (.cells [v] false)) := fun K => by
    refine Ev.eq (ev_fn comp69 rfl rfl ?_) K
    simp [cc69, hv.oneCell.1]
  simp [cc41, v69]
  have f0 := Fr.push (.refl h) (.cells [v] false)
  refine (sorted68 (hv.fr f0) (b := h.next) (by simp) (by simp) hn).mono ?_
  rintro r g ⟨a1, a2⟩
  have hF := f0.trans a2
  simp
  refine (compact67 (B := h.next) (n := n) (l := sorted l) (Own.wr (Own.base a1 (by simp))) (by omega)).mono ?_
  rintro r2 g2 ⟨m, b1, b2, b3⟩
  simp
  exact ⟨m, b1, b2, ⟨Nat.le_trans hF.next b3.next, fun i hi => (b3.get i hi).trans (hF.get i hi)⟩⟩

end Go.Proofs.YthkoheaklmgonaaDoor
