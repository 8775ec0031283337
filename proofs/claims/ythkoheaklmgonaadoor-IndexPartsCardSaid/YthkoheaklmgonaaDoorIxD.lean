import Derived.Test.YthkoheaklmgonaaDoorIxC
namespace Go.Proofs.YthkoheaklmgonaaDoor
open Go Go.Dr
set_option maxRecDepth 100000

theorem take_succ_snoc {α : Type} (l : List α) (j : Nat) (x : α) (h : l[j]? = some x) : l.take (j + 1) = l.take j ++ [x] := by
  rw [List.take_add_one, h]; rfl

theorem take_set_snoc (m : List Int) (k : Nat) (x : Int) (h : k < m.length) : (m.set k x).take (k + 1) = m.take k ++ [x] := by
  rw [take_succ_snoc (m.set k x) k x (by simp [h]), List.take_set, List.set_eq_of_length_le (by simp; omega)]

def DInv (B n : Nat) (h : AH) (v : AV) (l : List Int) (p : Int → Bool) (F : AV) (r : Nat) (σ : Sg) (ds : List ADef) (g : AH) : Prop :=
  ∃ (j k : Nat) (m : List Int), r + j = n ∧ ds = [] ∧ σ 0 = v ∧ σ 1 = F ∧ σ 5 = .int .i64 (k : Int) ∧ σ 6 = .int .i64 (j : Int) ∧ k < j ∧ j ≤ n ∧ Wr B g n v (iv m) ∧
      m.take k = (l.take j).filter (fun x => !p x) ∧ m.drop j = l.drop j ∧ FrB B h g

theorem deleteFunc40 {h : AH} {B n : Nat} {v : AV} {l : List Int} {f : FuncId} {c : Nat} {p : Int → Bool} (hv : Wr B h n v (iv l)) (hn : n < 2 ^ 62)
    (hp : ∀ g, FrB B h g → ∀ x K, Ev Tryd.prog SI (.fn f) [.int .i64 x, .ptr c 0] g K = K (.bool (p x)) g) :
    Ev Tryd.prog SI (.fn 40) [v, .func (.func f) [] [.ptr c 0]] h fun r g => ∃ m, Wr B g m r (iv (l.filter fun x => !p x)) ∧ m ≤ n ∧ FrB B h g := by
  refine ev_fn comp40 rfl rfl ?_
  have hl : l.length = n := by have := hv.1; simpa using this
  cases hf : l.findIdx? p with
  | none =>
    rw [List.findIdx?_eq_none_iff] at hf
    have e : l.filter (fun x => !p x) = l := by
      rw [List.filter_eq_self]
      intro x hx
      have := hf x hx
      simp [this]
    have hf' : l.findIdx? p = none := by rw [List.findIdx?_eq_none_iff]; exact hf
    simp [cc40, indexFunc66 hv.sl hn hp, hf', e]
    exact ⟨n, hv, Nat.le_refl _, .refl _ _⟩
  | some i0 =>
    have hf2 := hf
    rw [List.findIdx?_eq_some_iff_getElem] at hf2
    obtain ⟨hi0, hpi, hno⟩ := hf2
    have c1 : ¬ ((i0 : Int) = -1) := by omega
    have w0 : wrapF .i64 ((i0 : Int) + 1) = ((i0 + 1 : Nat) : Int) := by rw [wrap_i64 (by omega) (by omega)]; omega
    simp [cc40, indexFunc66 hv.sl hn hp, hf, c1, w0]
    refine w_loop (DInv B n h v l p (.func (.func f) [] [.ptr c 0])) (n - (i0 + 1)) ⟨i0 + 1, i0, l, by omega, rfl, by simp, by simp, by simp, by simp, by omega, by omega, hv, ?_, rfl, .refl _ _⟩ ?_
    · rw [take_succ_snoc l i0 l[i0] (List.getElem?_eq_getElem hi0), List.filter_append]
      have e : (l.take i0).filter (fun x => !p x) = l.take i0 := by
        rw [List.filter_eq_self]
        intro x hx
        obtain ⟨i, hi⟩ := List.mem_iff_getElem?.1 hx
        have hlt : i < i0 := by
          have := (List.getElem?_eq_some_iff.1 hi).1
          rw [List.length_take] at this; omega
        rw [List.getElem?_take_of_lt hlt, List.getElem?_eq_getElem (by omega)] at hi
        cases hi
        have := hno i hlt
        simpa using this
      rw [e]
      simp [hpi]
    · rintro r σ ds g ⟨j, k, m, hr, rfl, e0, e1, e5, e6, hkj, hjn, hw, ht, hd, hF⟩
      have hml : m.length = n := by have := hw.1; simpa using this
      by_cases hj : j < n
      · have c2 : (j : Int) < (n : Int) := by omega
        have hjl : j < l.length := by omega
        have hmj : m[j]? = some l[j] := by
          have : (m.drop j)[0]? = (l.drop j)[0]? := by rw [hd]
          simpa [List.getElem?_drop, List.getElem?_eq_getElem hjl] using this
        obtain ⟨id, o, g1, g2, _⟩ := hw.sl.get1 (k := .i64) (i := (j : Int)) rfl hj (x := .int .i64 l[j]) (by rw [iv_get, hmj]; rfl)
        have hc := hp g hF l[j]
        have w1 : wrapF .i64 ((j : Int) + 1) = ((j + 1 : Nat) : Int) := by rw [wrap_i64 (by omega) (by omega)]; omega
        have w2 : wrapF .i64 ((k : Int) + 1) = ((k + 1 : Nat) : Int) := by rw [wrap_i64 (by omega) (by omega)]; omega
        have hd1 : m.drop (j + 1) = l.drop (j + 1) := by rw [← List.drop_drop, ← List.drop_drop, hd]
        have ht1 : l.take (j + 1) = l.take j ++ [l[j]] := take_succ_snoc l j _ (List.getElem?_eq_getElem hjl)
        cases hx : p l[j] with
        | true =>
          rw [hx] at hc
          simp [e0, e1, e5, e6, hw.sl.len, hj, g1, g2, hc, w1, Kloop_normal]
          refine ⟨r - 1, by omega, j + 1, k, m, by omega, rfl, by simp [e0], by simp [e1], by simp [e5], by simp, by omega, by omega, hw, ?_, hd1, hF⟩
          rw [ht, ht1, List.filter_append]
          simp [hx]
        | false =>
          rw [hx] at hc
          obtain ⟨id', o', g', s1, s2, s3, s4, s5⟩ := hw.store (j := k) (by omega) (x := .int .i64 l[j]) rfl
          simp [e0, e1, e5, e6, hw.sl.len, hj, g1, g2, hc, s1, s2, w1, w2, Kloop_normal]
          refine ⟨r - 1, by omega, j + 1, k + 1, m.set k l[j], by omega, rfl, by simp [e0], by simp [e1], by simp, by simp, by omega, by omega, by rw [iv_set] at s3; exact s3, ?_, ?_, hF.trans s4⟩
          · rw [take_set_snoc _ _ _ (by omega), ht, ht1, List.filter_append]
            simp [hx]
          · rw [List.drop_set, if_pos (by omega)]; exact hd1
      · have hjN : j = n := by omega
        subst hjN
        obtain ⟨u, r', h', o1, o2, o3, o4, o5⟩ := hw.cut (k := k) (by omega)
        simp [e0, e1, e5, e6, hw.sl.len, o1, o2, o3]
        refine ⟨k, ?_, by omega, hF.trans o5⟩
        rw [iv_take, ht, List.take_of_length_le (by omega)] at o4
        exact o4

def CInv1 (n : Nat) (h : AH) (v : AV) (l : List Int) (r : Nat) (σ : Sg) (ds : List ADef) (g : AH) : Prop :=
  ∃ j : Nat, r + j = n ∧ ds = [] ∧ σ 0 = v ∧ σ 3 = .int .i64 (j : Int) ∧ 1 ≤ j ∧ compact (l.take j) = l.take j ∧ g = h

def CInv2 (B n J : Nat) (h : AH) (v u : AV) (l : List Int) (r : Nat) (σ : Sg) (ds : List ADef) (g : AH) : Prop :=
  ∃ (i k : Nat) (m : List Int), r + i = n - J ∧ ds = [] ∧ σ 0 = v ∧ σ 4 = u ∧ σ 3 = .int .i64 (k : Int) ∧ σ 5 = .int .i64 (i : Int) ∧ 1 ≤ i ∧ J + i ≤ n ∧ k < J + i ∧ Wr B g n v (iv m) ∧
    m.take k = compact (l.take (J + i)) ∧ m.drop (J + i - 1) = l.drop (J + i - 1) ∧ FrB B h g

theorem compact67 {h : AH} {B n : Nat} {v : AV} {l : List Int} (hv : Wr B h n v (iv l)) (hn : n < 2 ^ 62) :
    Ev Tryd.prog SI (.fn 67) [v] h fun r g => ∃ m, Wr B g m r (iv (compact l)) ∧ m ≤ n ∧ FrB B h g := by
  refine ev_fn comp67 rfl rfl ?_
  have hl : l.length = n := by have := hv.1; simpa using this
  by_cases h2 : n < 2
  · have c1 : (n : Int) < 2 := by omega
    have e : compact l = l := by
      match l, hl with
      | [], _ => rfl
      | [x], _ => rfl
      | _ :: _ :: _, h => simp at h; omega
    simp [cc67, hv.sl.len, c1, e]
    exact ⟨n, hv, Nat.le_refl _, .refl _ _⟩
  have c1 : ¬ (n : Int) < 2 := by omega
  simp [cc67, hv.sl.len, c1]
  refine w_loop (CInv1 n h v l) (n - 1) ⟨1, by omega, rfl, by simp, by simp, by omega, ?_, rfl⟩ ?_
  · match l, hl with
    | [], h => simp at h; omega
    | x :: l, _ => simp [compact]
  rintro r σ ds g ⟨j, hr, rfl, e0, e3, hj1, hcp, rfl⟩
  by_cases hj : j < n
  case neg =>
    have hjN : j = n := by omega
    subst hjN
    have e : compact l = l := by rw [List.take_of_length_le (by omega)] at hcp; exact hcp
    simp [e0, e3, hv.sl.len, e]
    exact ⟨j, hv, Nat.le_refl _, .refl _ _⟩
  have hjl : j < l.length := by omega
  obtain ⟨q, rfl⟩ : ∃ q, j = q + 1 := ⟨j - 1, by omega⟩
  obtain ⟨id, o, g1, g2, _⟩ := hv.sl.get1 (k := .i64) (i := ((q + 1 : Nat) : Int)) rfl hj (x := .int .i64 l[q + 1]) (by rw [iv_get, List.getElem?_eq_getElem hjl]; rfl)
  obtain ⟨id', o', g1', g2', _⟩ := hv.sl.get1 (k := .i64) (i := (q : Int)) rfl (by omega) (x := .int .i64 l[q]) (by rw [iv_get, List.getElem?_eq_getElem (by omega)]; rfl)
  have w0 : wrapF .i64 (q : Int) = (q : Int) := wrap_i64 (by omega) (by omega)
  have w1 : wrapF .i64 ((q : Int) + 1 + 1) = ((q + 1 + 1 : Nat) : Int) := by rw [wrap_i64 (by omega) (by omega)]; omega
  have hlast : (l.take (q + 1)).getLast? = some l[q] := by
    rw [take_succ_snoc l q l[q] (List.getElem?_eq_getElem (by omega)), List.getLast?_append]; rfl
  have ht1 : l.take (q + 1 + 1) = l.take (q + 1) ++ [l[q + 1]] := take_succ_snoc l (q + 1) _ (List.getElem?_eq_getElem hjl)
  have c2 : (q : Int) + 1 < (n : Int) := by omega
  push_cast at g1
  by_cases hx : l[q + 1] = l[q]
  case neg =>
    have hx' : ¬ l[q] = l[q + 1] := fun e => hx e.symm
    simp [e0, e3, hv.sl.len, c2, g1, g2, w0, g1', g2', hx, w1, Kloop_normal]
    refine ⟨r - 1, by omega, q + 1 + 1, by omega, rfl, by simp [e0], by simp, by omega, ?_, rfl⟩
    rw [ht1, compact_snoc, hlast, if_neg (fun e => hx' (Option.some.inj e)), hcp]
  simp [e0, e3, hv.sl.len, c2, g1, g2, w0, g1', g2', hx]
  have tail : ∃ u, opSliceV 1 v (some (.int .i64 ((q : Int) + 1))) none none = .ok u ∧ ∀ g' m, Wr B g' n v (iv m) → Sl g' 1 (n - (q + 1)) u (iv (m.drop (q + 1))) := by
    obtain ⟨u, f1, _⟩ := hv.sl.slice (lo := some (.int .i64 ((q + 1 : Nat) : Int))) (hi := none) (a := q + 1) (b := n) (.inr ⟨.i64, rfl⟩) (.inl ⟨rfl, rfl⟩) (by omega) (Nat.le_refl _)
    refine ⟨u, by simpa using f1, fun g' m hw => ?_⟩
    have hml : m.length = n := by have := hw.1; simpa using this
    obtain ⟨u', f2, s2⟩ := hw.sl.slice (lo := some (.int .i64 ((q + 1 : Nat) : Int))) (hi := none) (a := q + 1) (b := n) (.inr ⟨.i64, rfl⟩) (.inl ⟨rfl, rfl⟩) (by omega) (Nat.le_refl _)
    rw [f1] at f2
    cases f2
    rw [Nat.mul_one, Nat.mul_one, iv_drop, iv_take, List.take_of_length_le (by simp; omega)] at s2
    exact s2
  obtain ⟨u, fu, hu⟩ := tail
  simp [fu]
  refine w_loop (CInv2 B n (q + 1) g v u l) (n - (q + 1) - 1) ⟨1, q + 1, l, by omega, rfl, by simp [e0], by simp, by simp [e3], by simp, by omega, by omega, by omega, hv, ?_, rfl, .refl _ _⟩ ?_
  · rw [ht1, compact_snoc, hlast, if_pos (by rw [hx]), hcp]
  rintro r2 σ2 ds2 g' ⟨i, k, m, hr2, rfl, a0, a4, a3, a5, hi1, hin, hki, hw, ht, hd, hF⟩
  have hml : m.length = n := by have := hw.1; simpa using this
  have us := hu _ _ hw
  have hkl : k ≤ m.length := by omega
  by_cases hi : i < n - (q + 1)
  case neg =>
    have hiN : q + 1 + i = n := by omega
    have c3 : ¬ ((i : Int) < ((n - (q + 1) : Nat) : Int)) := by omega
    obtain ⟨u2, r', h', o1, o2, o3, o4, o5⟩ := hw.cut (k := k) (by omega)
    simp [a0, a4, a3, a5, us.len, hi, o1, o2, o3]
    refine ⟨k, ?_, by omega, hF.trans o5⟩
    rw [iv_take, ht, List.take_of_length_le (by omega)] at o4
    exact o4
  obtain ⟨s, rfl⟩ : ∃ s, i = s + 1 := ⟨i - 1, by omega⟩
  have hdg : ∀ c, m[q + 1 + (s + 1) - 1 + c]? = l[q + 1 + (s + 1) - 1 + c]? := by
    intro c
    have : (m.drop (q + 1 + (s + 1) - 1))[c]? = (l.drop (q + 1 + (s + 1) - 1))[c]? := by rw [hd]
    simpa [List.getElem?_drop] using this
  have hb1 : q + 1 + s + 1 < l.length := by omega
  have hb0 : q + 1 + s < l.length := by omega
  have v1 : (iv (m.drop (q + 1)))[s + 1]? = some (.int .i64 l[q + 1 + s + 1]) := by
    have := hdg 1
    rw [show q + 1 + (s + 1) - 1 + 1 = q + 1 + (s + 1) from by omega] at this
    rw [iv_get, List.getElem?_drop, this, show q + 1 + (s + 1) = q + 1 + s + 1 from by omega, List.getElem?_eq_getElem hb1]; rfl
  have v0 : (iv (m.drop (q + 1)))[s]? = some (.int .i64 l[q + 1 + s]) := by
    have := hdg 0
    rw [show q + 1 + (s + 1) - 1 + 0 = q + 1 + s from by omega] at this
    rw [iv_get, List.getElem?_drop, this, List.getElem?_eq_getElem hb0]; rfl
  obtain ⟨id1, o1, x1, x2, _⟩ := us.get1 (k := .i64) (i := ((s + 1 : Nat) : Int)) rfl hi v1
  obtain ⟨id0, o0, y1, y2, _⟩ := us.get1 (k := .i64) (i := (s : Int)) rfl (by omega) v0
  push_cast at x1
  have u0 : wrapF .i64 (s : Int) = (s : Int) := wrap_i64 (by omega) (by omega)
  have u1 : wrapF .i64 ((s : Int) + 1 + 1) = ((s + 1 + 1 : Nat) : Int) := by rw [wrap_i64 (by omega) (by omega)]; omega
  have u2 : wrapF .i64 ((k : Int) + 1) = ((k + 1 : Nat) : Int) := by rw [wrap_i64 (by omega) (by omega)]; omega
  have c3 : (s : Int) + 1 < ((n - (q + 1) : Nat) : Int) := by omega
  have hlast2 : (l.take (q + 1 + (s + 1))).getLast? = some l[q + 1 + s] := by
    rw [show q + 1 + (s + 1) = q + 1 + s + 1 from by omega, take_succ_snoc l (q + 1 + s) _ (List.getElem?_eq_getElem hb0), List.getLast?_append]; rfl
  have ht2 : l.take (q + 1 + (s + 1 + 1)) = l.take (q + 1 + (s + 1)) ++ [l[q + 1 + s + 1]] := by
    rw [show q + 1 + (s + 1 + 1) = q + 1 + (s + 1) + 1 from by omega]
    exact take_succ_snoc l _ _ (by rw [show q + 1 + (s + 1) = q + 1 + s + 1 from by omega]; exact List.getElem?_eq_getElem hb1)
  have hd2 : m.drop (q + 1 + (s + 1 + 1) - 1) = l.drop (q + 1 + (s + 1 + 1) - 1) := by
    rw [show q + 1 + (s + 1 + 1) - 1 = (q + 1 + (s + 1) - 1) + 1 from by omega, ← List.drop_drop, ← List.drop_drop, hd]
  by_cases hy : l[q + 1 + s + 1] = l[q + 1 + s]
  · simp [a0, a4, a3, a5, us.len, c3, x1, x2, u0, y1, y2, hy, u1, Kloop_normal]
    refine ⟨r2 - 1, by omega, s + 1 + 1, k, m, by omega, rfl, by simp [a0], by simp [a4], by simp [a3], by simp, by omega, by omega, by omega, hw, ?_, hd2, hF⟩
    rw [ht, ht2, compact_snoc, hlast2, if_pos (by rw [hy])]
  · obtain ⟨id', o', g2, s1, s2, s3, s4, s5⟩ := hw.store (j := k) (by omega) (x := .int .i64 l[q + 1 + s + 1]) rfl
    simp [a0, a4, a3, a5, us.len, c3, x1, x2, u0, y1, y2, hy, s1, s2, u1, u2, Kloop_normal]
    refine ⟨r2 - 1, by omega, s + 1 + 1, k + 1, m.set k l[q + 1 + s + 1], by omega, rfl, by simp [a0], by simp [a4], by simp, by simp, by omega, by omega, by omega, by rw [iv_set] at s3; exact s3, ?_, ?_, hF.trans s4⟩
    · rw [take_set_snoc _ _ _ (by omega), ht, ht2, compact_snoc, hlast2, if_neg (fun e => hy (Option.some.inj e).symm)]
    · rw [List.drop_set, if_pos (by omega)]; exact hd2

end Go.Proofs.YthkoheaklmgonaaDoor
