import Derived.Test.YthkoheaklmgonaaDoorIxF
namespace Go.Proofs.YthkoheaklmgonaaDoor
open Go Go.Dr
set_option maxRecDepth 100000

theorem grow71 {h : AH} {n : Nat} (hn : n ≤ 2 ^ 30) (K : AV → AH → Prop) : Ev Tryd.prog SI (.fn 71) [.nils, .int .i64 (n : Int)] h K =
    if n = 0 then K .nils h else K (.slice h.next 0 0 n false 1) (h.push (.cells (List.replicate n (.int .i64 0)) false)) := by
  by_cases h0 : n = 0
  · subst h0
    rw [if_pos rfl]
    refine Ev.eq (ev_fn comp71 rfl rfl ?_) K
    have w0 : wrapF .i64 0 = 0 := wrap_i64 (by omega) (by omega)
    simp [cc71, opLenV, opCapV, w0]
  · rw [if_neg h0]
    refine Ev.eq (ev_fn comp71 rfl rfl ?_) K
    have c1 : ¬ ((n : Int) < 0) := by omega
    have c2 : (0 : Int) < (n : Int) := by omega
    have w0 : wrapF .i64 0 = 0 := wrap_i64 (by omega) (by omega)
    have w1 : wrapF .i64 (n : Int) = n := wrap_i64 (by omega) (by omega)
    have z : opAppZ 1 8 [.int .i64 0] .nils (.int .i64 (n : Int)) h = okV (.slice h.next 0 n n false 1) (h.push (.cells (List.replicate n (.int .i64 0)) false)) := by
      simp only [opAppZ, Int.toNat_natCast]
      rw [if_pos ⟨by omega, by omega, by omega⟩]
      simp only [appTo]
      rw [if_neg h0, if_pos ⟨by omega, by omega⟩, repl_one]
    have s0 : opSliceV 1 (.nils) none (some (.int .i64 0)) none = .ok .nils := by simp [opSliceV, boundsA, boundO, boundA]
    have s1 : opSliceV 1 (.slice h.next 0 n n false 1) none (some (.int .i64 0)) none = .ok (.slice h.next 0 0 n false 1) := by
      simp [opSliceV, boundsA, boundO, boundA]
    simp [cc71, opLenV, opCapV, w0, w1, c1, c2, h0, s0, z, s1, Nat.pos_of_ne_zero h0]

def sz (na nb : Nat) : Nat → Nat
  | 0 => 0
  | 1 => na
  | _ => na + nb

def CC1 (h : AH) (na nb : Nat) (sl : AV) (j : Nat) (σ : Sg) (ds : List ADef) (g : AH) : Prop :=
  ds = [] ∧ σ 0 = sl ∧ σ 3 = .int .i64 (sz na nb j : Int) ∧ σ 9 = sl ∧ σ 10 = .int .i64 2 ∧ g = h

def CC2 (h : AH) (na nb : Nat) (l : List AV) (sl : AV) (j : Nat) (σ : Sg) (ds : List ADef) (g : AH) : Prop :=
  ds = [] ∧ σ 25 = sl ∧ σ 26 = .int .i64 2 ∧ ((na + nb = 0 ∧ σ 6 = .nils ∧ g = h) ∨
    (0 < na + nb ∧ σ 6 = .slice h.next 0 (sz na nb j) (na + nb) false 1 ∧ ∃ vs, g = h.push (.cells vs false) ∧ vs.length = na + nb ∧ vs.take (sz na nb j) = l.take (sz na nb j)))

theorem app_part {h : AH} {T k m : Nat} {vs : List AV} {u : AV} {l : List AV} (hk : k + m ≤ T) (hv : vs.length = T) (hu : Sl (h.push (.cells vs false)) 1 m u l) (hs : allScalar l = true) :
    ∃ vs', opApp 1 8 (.slice h.next 0 k T false 1) u (h.push (.cells vs false)) = okV (.slice h.next 0 (k + m) T false 1) (h.push (.cells vs' false)) ∧ vs'.length = T ∧ vs'.take (k + m) = vs.take k ++ l := by
  have hl : l.length = m := by have := hu.1; omega
  unfold opApp
  rw [hu.cells]
  simp only [appTo, ne_eq, not_true, if_false, forceN_eq, Nat.ble_eq_true_of_le hk, cond_true, Nat.mul_one, Nat.zero_add]
  cases l with
  | nil =>
    obtain rfl : m = 0 := by simpa using hl.symm
    exact ⟨vs, by simp [storeN], hv, by simp⟩
  | cons x l =>
    refine ⟨splice vs k (x :: l), ?_, by rw [splice_length _ _ _ (by omega)]; exact hv, ?_⟩
    · have hb : Nat.ble (k + (x :: l).length) vs.length = true := Nat.ble_eq_true_of_le (by omega)
      simp only [storeN, get_push_new, hb, hs, Bool.and_self, cond_true, AH.set_push]
    · rw [splice, ← hl, ← List.append_assoc, List.take_left' (by rw [List.length_append, List.length_take]; omega)]

theorem ite_wp {P : Program} {S : Sums} {c : Prop} [Decidable c] {C : CC} {Q : Post} {σ1 σ2 : Sg} {ds : List ADef} {h1 h2 : AH} (J : Sg → List ADef → AH → Prop) (a1 : c → J σ1 ds h1) (a2 : ¬ c → J σ2 ds h2)
    (h : ∀ σ ds h, J σ ds h → wpC P S C Q σ ds h) : if c then wpC P S C Q σ1 ds h1 else wpC P S C Q σ2 ds h2 := by
  split
  · exact h _ _ _ (a1 ‹_›)
  · exact h _ _ _ (a2 ‹_›)

theorem concat45 {h : AH} {s : Nat} {va vb : AV} {a b : List Int} {na nb : Nat} (hg : h.get s = some (.cells [va, vb] false)) (hs : s < h.next) (ha : Sl h 1 na va (iv a)) (hb : Sl h 1 nb vb (iv b)) (hn : na + nb ≤ 2 ^ 30) :
    Ev Tryd.prog SI (.fn 45) [.slice s 0 2 2 true 1] h fun r g => Sl g 1 (na + nb) r (iv (a ++ b)) ∧ Fr h g := by
  refine ev_fn comp45 rfl rfl ?_
  have hla : a.length = na := by have := ha.1; simpa using this
  have hlb : b.length = nb := by have := hb.1; simpa using this
  have elem : ∀ g, Fr h g → ∀ j : Nat, j < 2 → ∃ id o, opIdxV 1 (.slice s 0 2 2 true 1) (.int .i64 (j : Int)) = .ok (.ptr id o) ∧ load1 g id o = .ok (if j = 0 then va else vb) := by
    intro g f j hj
    refine ⟨s, 0 + j, by rw [opIdxV_slice _ _ _ _ _ _ _ _ ⟨by omega, by omega⟩, Int.toNat_natCast, Nat.mul_one], ?_⟩
    rw [load1_of (vs := [va, vb]) (ro := false) (by rw [f.get s hs]; exact hg)]
    rcases j with _ | _ | j
    · rfl
    · rfl
    · omega
  have hlen : opLenV (.slice s 0 2 2 true 1) = .ok (.int .i64 2) := rfl
  simp [cc45, hlen]
  refine w_count (n := 2) (by rfl) (CC1 h na nb (.slice s 0 2 2 true 1)) (by omega) (by simp) ⟨rfl, by simp, by simp [sz], by simp, by simp, rfl⟩ (fun j σ ds h' hJ => by simp [hJ.2.2.2.2.1]) ?_ ?_
  · rintro j σ ds g hj hi ⟨rfl, e0, e3, e9, e10, rfl⟩
    obtain ⟨id, o, g1, g2⟩ := elem g (.refl _) j hj
    have hlenj : opLenV (if j = 0 then va else vb) = .ok (.int .i64 ((if j = 0 then na else nb : Nat) : Int)) := by
      split
      · exact ha.len
      · exact hb.len
    have hsz : (sz na nb j : Int) + ((if j = 0 then na else nb : Nat) : Int) = (sz na nb (j + 1) : Int) := by
      rcases j with _ | _ | j
      · simp [sz]
      · simp [sz]
      · omega
    have hle : sz na nb (j + 1) ≤ na + nb := by
      rcases j with _ | _ | j <;> simp [sz]
    have w1 : wrapF .i64 (sz na nb (j + 1) : Int) = (sz na nb (j + 1) : Int) := wrap_i64 (by omega) (by omega)
    have c1 : ¬ ((sz na nb (j + 1) : Int) < 0) := by omega
    generalize (if j = 0 then va else vb) = vj at *
    generalize (if j = 0 then na else nb) = nj at *
    simp only [CC1]
    simp [e0, e3, e9, e10, hi, g1, g2, hlenj, hsz, w1, c1]
  · rintro σ ds g ⟨rfl, e0, e3, e9, e10, rfl⟩
    have e3' : σ 3 = .int .i64 ((na + nb : Nat) : Int) := e3
    simp only [Int.natCast_add] at e3'
    have gr := grow71 (h := g) hn
    simp only [Int.natCast_add] at gr
    simp [e0, e3', gr]
    have hll : (iv a ++ iv b).length = na + nb := by simp [hla, hlb]
    refine ite_wp (fun σ ds g' => CC2 g na nb (iv a ++ iv b) (.slice s 0 2 2 true 1) 0 σ ds g' ∧ σ 27 = .int .i64 0) (fun hc => ?_) (fun hc => ?_) ?_
    · exact ⟨⟨rfl, by simp, by simp, .inl ⟨by omega, by simp, rfl⟩⟩, by simp⟩
    · exact ⟨⟨rfl, by simp, by simp, .inr ⟨by omega, by simp [sz], _, rfl, by simp, by simp [sz]⟩⟩, by simp⟩
    · rintro σ ds g0 ⟨hJ0, h27⟩
      refine w_count (n := 2) (by rfl) (CC2 g na nb (iv a ++ iv b) (.slice s 0 2 2 true 1)) (by omega) h27 hJ0 (fun j σ ds h' hJ => by simp [hJ.2.2.1]) ?_ ?_
      · rintro j σ ds g' hj hi ⟨rfl, f25, f26, hh⟩
        have hF : Fr g g' := by
          rcases hh with ⟨_, _, rfl⟩ | ⟨_, _, vs, rfl, _⟩
          · exact .refl _
          · exact Fr.push (.refl g) _
        obtain ⟨id, o, g1, g2⟩ := elem g' hF j hj
        have hu : Sl g' 1 (if j = 0 then na else nb) (if j = 0 then va else vb) (iv (if j = 0 then a else b)) := by
          split
          · exact ha.fr hF
          · exact hb.fr hF
        have hk : sz na nb j + (if j = 0 then na else nb) = sz na nb (j + 1) := by
          rcases j with _ | _ | j
          · simp [sz]
          · simp [sz]
          · omega
        have hle : sz na nb (j + 1) ≤ na + nb := by
          rcases j with _ | _ | j <;> simp [sz]
        have htk : (iv a ++ iv b).take (sz na nb j) ++ iv (if j = 0 then a else b) = (iv a ++ iv b).take (sz na nb (j + 1)) := by
          rcases j with _ | _ | j
          · simp [sz, ← hla]
          · have e1 : (iv a).length = na := by simp [hla]
            have e2 : (iv a ++ iv b).take (na + nb) = iv a ++ iv b := List.take_of_length_le (by omega)
            simp [sz, e2, List.take_left' e1]
          · omega
        generalize (if j = 0 then va else vb) = vj at *
        generalize (if j = 0 then na else nb) = nj at *
        generalize (if j = 0 then a else b) = lj at *
        rcases hh with ⟨hz, f6, rfl⟩ | ⟨hz, f6, vs, rfl, hvl, hvt⟩
        · have hnj : nj = 0 := by omega
          subst hnj
          have ap : opApp 1 8 .nils vj g' = okV .nils g' := by
            unfold opApp
            rw [hu.cells]
            simp [appTo]
          simp only [CC2]
          simp [f25, f26, f6, hi, g1, g2, ap, show na = 0 from by omega, show nb = 0 from by omega]
        · obtain ⟨vs', ap, b1, b2⟩ := app_part (k := sz na nb j) (T := na + nb) (by omega) hvl hu (iv_scalar _)
          rw [hk] at ap b2
          rw [hvt, htk] at b2
          simp only [CC2]
          simp [f25, f26, f6, hi, g1, g2, ap]
          exact ⟨by omega, vs', rfl, b1, b2⟩
      · rintro σ ds g' ⟨rfl, f25, f26, hh⟩
        rcases hh with ⟨hz, f6, rfl⟩ | ⟨hz, f6, vs, rfl, hvl, hvt⟩
        · have ea : a = [] := List.length_eq_zero_iff.1 (by omega)
          have eb : b = [] := List.length_eq_zero_iff.1 (by omega)
          subst ea eb
          simp [f6, Fr.refl, hz]
          exact Sl.nil 1
        · simp [f6, Fr.push, Fr.refl]
          have e2 : (iv a ++ iv b).take (na + nb) = iv a ++ iv b := List.take_of_length_le (by omega)
          have hvt' : vs = iv (a ++ b) := by
            have : vs.take (na + nb) = (iv a ++ iv b).take (na + nb) := hvt
            rw [e2, List.take_of_length_le (by omega)] at this
            rw [this, iv_append]
          subst hvt'
          exact (Own.fresh (B := 0) (es := 1) (n := na + nb) false (Nat.zero_le _) (by simp; omega)).sl

end Go.Proofs.YthkoheaklmgonaaDoor
