import Derived.Test.YthkoheaklmgonaaDoorIxG
namespace Go.Proofs.YthkoheaklmgonaaDoor
open Go Go.Dr
set_option maxRecDepth 100000

/-- a list of numbers that stands from h on -/
def Lst (h : AH) (r : AV) (l : List Int) (N : Nat) (g : AH) : Prop := ∃ m, Sl g 1 m r (iv l) ∧ m ≤ N ∧ Fr h g

theorem Lst.mk' {h g : AH} {B m N : Nat} {r : AV} {l : List Int} (s : Wr B g m r (iv l)) (hm : m ≤ N) (f : Fr h g) : Lst h r l N g := ⟨m, s.sl, hm, f⟩

theorem FrB.fr' {h g g' : AH} {B : Nat} (f : Fr h g) (b : FrB B g g') (hB : h.next ≤ B) : Fr h g' := ⟨Nat.le_trans f.next b.next, fun i hi => (b.get i (by omega)).trans (f.get i hi)⟩

theorem union20 {h : AH} {va vb : AV} {a b : List Int} {na nb : Nat} (ha : Sl h 1 na va (iv a)) (hb : Sl h 1 nb vb (iv b)) (hn : na + nb ≤ 2 ^ 30) :
    Ev Tryd.prog SI (.fn 20) [va, vb] h fun r g => Lst h r (rise (a ++ b)) (na + nb) g := by
  refine ev_fn comp20 rfl rfl ?_
  have f0 := Fr.push (.refl h) (.cells [va, vb] false)
  simp [cc20, ha.oneCell.1, hb.oneCell.1, splice_eq]
  refine (concat45 (get_push_new _) (by simp) (ha.fr f0) (hb.fr f0) hn).mono ?_
  rintro r g ⟨a1, a2⟩
  simp
  refine (rising41 a1 hn).mono ?_
  rintro r2 g2 ⟨m, b1, b2, b3⟩
  simp
  exact Lst.mk' b1 b2 ((f0.trans a2).trans b3)

theorem minus17 {h : AH} {va vb : AV} {a b : List Int} {na nb : Nat} (ha : Sl h 1 na va (iv a)) (hb : Sl h 1 nb vb (iv b)) (hn : na ≤ 2 ^ 30) (hnb : nb ≤ 2 ^ 30) :
    Ev Tryd.prog SI (.fn 17) [va, vb] h fun r g => Lst h r (minus a b) na g := by
  refine ev_fn comp17 rfl rfl ?_
  have f0 := Fr.push (.refl h) (.cells [vb] false)
  simp [cc17, hb.oneCell.1]
  refine (rising41 (ha.fr f0) hn).mono ?_
  rintro r g ⟨m, a1, a2, a3⟩
  simp
  have fg := f0.trans a3
  refine (deleteFunc40 a1 (by omega) (p := fun x => decide (x ∈ b)) (fun g' hg' x K => ?_)).mono ?_
  · have fg' := FrB.fr' fg hg' (by simp)
    refine minus42 (hb.fr fg') ?_ (by omega) x K
    rw [load1_of (vs := [vb]) (ro := false) (by rw [hg'.get _ (by simp), a3.get _ (by simp)]; exact get_push_new _)]; rfl
  · rintro r2 g2 ⟨m2, b1, b2, b3⟩
    simp
    exact Lst.mk' b1 (by omega) (FrB.fr' fg b3 (by simp))

theorem meet18 {h : AH} {va vb : AV} {a b : List Int} {na nb : Nat} (ha : Sl h 1 na va (iv a)) (hb : Sl h 1 nb vb (iv b)) (hn : na ≤ 2 ^ 30) (hnb : nb ≤ 2 ^ 30) :
    Ev Tryd.prog SI (.fn 18) [va, vb] h fun r g => Lst h r (meet a b) na g := by
  refine ev_fn comp18 rfl rfl ?_
  have f0 := Fr.push (.refl h) (.cells [vb] false)
  simp [cc18, hb.oneCell.1]
  refine (rising41 (ha.fr f0) hn).mono ?_
  rintro r g ⟨m, a1, a2, a3⟩
  simp
  have fg := f0.trans a3
  refine (deleteFunc40 a1 (by omega) (p := fun x => !decide (x ∈ b)) (fun g' hg' x K => ?_)).mono ?_
  · have fg' := FrB.fr' fg hg' (by simp)
    refine meet44 (hb.fr fg') ?_ (by omega) x K
    rw [load1_of (vs := [vb]) (ro := false) (by rw [hg'.get _ (by simp), a3.get _ (by simp)]; exact get_push_new _)]; rfl
  · rintro r2 g2 ⟨m2, b1, b2, b3⟩
    simp
    have e : (rise a).filter (fun x => !(!decide (x ∈ b))) = meet a b := by simp [meet]
    rw [e] at b1
    exact Lst.mk' b1 (by omega) (FrB.fr' fg b3 (by simp))

theorem awake16 (h : AH) (K : AV → AH → Prop) : Ev Tryd.prog SI (.fn 16) [] h K = K (.bool true) h :=
  Ev.eq ⟨1, .bool true, h, by simp [cl, evCall, SI, closedS], rfl, rfl⟩ K

theorem parts5 {h : AH} {va vb : AV} {a b : List Int} {na nb : Nat} (ha : Sl h 1 na va (iv a)) (hb : Sl h 1 nb vb (iv b)) :
    Ev Tryd.prog SI (.fn 5) [va, vb] h fun r _ => r = .bool true := by
  refine ev_fn comp5 rfl rfl ?_
  have cut : ∀ {v : AV} {l : List Int} {n : Nat}, Sl h 1 n v (iv l) → ∃ u k, opSliceV 1 v none (some (.int .i64 (min (n : Int) 40))) none = .ok u ∧ Sl h 1 k u (iv (l.take k)) ∧ k ≤ 40 := by
    intro v l n hv
    obtain ⟨u, f1, s1⟩ := hv.slice (lo := none) (hi := some (.int .i64 ((min n 40 : Nat) : Int))) (a := 0) (b := min n 40) (.inl ⟨rfl, rfl⟩) (.inr ⟨.i64, rfl⟩) (by omega) (by omega)
    refine ⟨u, min n 40, ?_, ?_, by omega⟩
    · rw [show ((min n 40 : Nat) : Int) = min (n : Int) 40 from by omega] at f1; exact f1
    · simpa [iv_take] using s1
  obtain ⟨ua, ka, fa, sa, la⟩ := cut ha
  obtain ⟨ub, kb, fb, sb, lb⟩ := cut hb
  simp [cc5, ha.len, hb.len, fa, fb]
  generalize a.take ka = A at *
  generalize b.take kb = C at *
  refine (minus17 sa sb (by omega) (by omega)).mono ?_
  rintro left g1 ⟨m1, p1, q1, f1⟩
  simp
  refine (meet18 (sa.fr f1) (sb.fr f1) (by omega) (by omega)).mono ?_
  rintro both g2 ⟨m2, p2, q2, f2⟩
  simp
  have F2 := f1.trans f2
  refine (minus17 (sb.fr F2) (sa.fr F2) (by omega) (by omega)).mono ?_
  rintro right g3 ⟨m3, p3, q3, f3⟩
  have F3 := F2.trans f3
  simp
  refine (union20 ((p1.fr f2).fr f3) (p2.fr f3) (by omega)).mono ?_
  rintro x4 g4 ⟨m4, p4, q4, f4⟩
  have F4 := F3.trans f4
  simp
  refine (union20 (nb := 0) (b := []) (sa.fr F4) (Sl.nil 1 : Sl g4 1 0 .nils (iv [])) (by omega)).mono ?_
  rintro x5 g5 ⟨m5, p5, q5, f5⟩
  have F5 := F4.trans f5
  have e1 := parts1 A C
  rw [← e1] at p5
  simp [equal19 (p4.fr f5) p5 (by omega)]
  refine (union20 (((p1.fr f2).fr f3).fr (f4.trans f5)) ((p2.fr f3).fr (f4.trans f5)) (by omega)).mono ?_
  rintro x6 g6 ⟨m6, p6, q6, f6⟩
  have F6 := F5.trans f6
  simp
  refine (union20 p6 ((p3.fr (f4.trans f5)).fr f6) (by omega)).mono ?_
  rintro x7 g7 ⟨m7, p7, q7, f7⟩
  have F7 := F6.trans f7
  simp
  refine (union20 (sa.fr F7) (sb.fr F7) (by omega)).mono ?_
  rintro x8 g8 ⟨m8, p8, q8, f8⟩
  have F8 := F7.trans f8
  rw [← parts2 A C] at p8
  simp [equal19 (p7.fr f8) p8 (by omega)]
  refine (meet18 (p1.fr (f2.trans (f3.trans (f4.trans (f5.trans (f6.trans (f7.trans f8))))))) (p3.fr (f4.trans (f5.trans (f6.trans (f7.trans f8))))) (by omega) (by omega)).mono ?_
  rintro x9 g9 ⟨m9, p9, q9, f9⟩
  rw [parts3 A C] at p9
  have hm9 : m9 = 0 := by have := p9.1; simpa [iv] using this.symm
  subst hm9
  have F9 := F8.trans f9
  simp [p9.len]
  refine (meet18 (sb.fr F9) (sa.fr F9) (by omega) (by omega)).mono ?_
  rintro x10 g10 ⟨m10, p10, q10, f10⟩
  rw [parts4 A C] at p10
  simp [equal19 p10 (p2.fr (f3.trans (f4.trans (f5.trans (f6.trans (f7.trans (f8.trans (f9.trans f10))))))) ) (by omega), awake16]

end Go.Proofs.YthkoheaklmgonaaDoor
