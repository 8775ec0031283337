/-
  Texts joined: IyR5, IyR6, IyR7, IyChunk9, IyW, IyP1, IyP2, IyP3, IyP4, IyP5, IyP6, IyP7, TrykSort0, IyCmp, IySum, IrJ, IrI.
-/
import Derived.Test.YtkbddcapcjdenaaGreatDoorT6
import Derived.Shelf.SortM.Plain
import Derived.Shelf.SortM.SortNone
import Derived.Shelf.SlSortCmp.WholeK
import Derived.Shelf.SlSortCmp.NoneTotal
import Derived.Shelf.SlicesG.Cmp
import Derived.Ground.SlgmProg
import Derived.Ground.SlsfProg
import Derived.Ground.SlgcProg
import Derived.Test.YtkbddcapcjdenaaGreatDoorProg
import Derived.Test.YtkbddcapcjdenaaGreatDoorT5
import Derived.StillTailTactics
import Derived.Test.YtkbddcapcjdenaaGreatDoorRows
import Derived.Test.YtkbddcapcjdenaaGreatDoorCards
import Derived.Test.YtkbddcapcjdenaaGreatDoorTie
import Derived.Test.YtkbddcapcjdenaaGreatDoorT2
import Derived.Lib.LaidIn
import Derived.SevenTiedAt
import Derived.SizedLaws

namespace Go.Dk
open Go Go.Dr
set_option maxRecDepth 100000

theorem flat_prefix {α β : Type} (f : α → List β) (l : List α) (j : Nat) : ((l.take j).flatMap f).length ≤ (l.flatMap f).length := by
  have : (l.take j).flatMap f <+: l.flatMap f := by
    conv => rhs; rw [← List.take_append_drop j l]
    rw [List.flatMap_append]
    exact List.prefix_append _ _
  exact this.length_le

/-- all values of one name -/
theorem posts_m {Q : Post} {σ : Sg} {h g0 : AH} {n k m : Nat} {v tv ov : AV} {xs : List (AV × Ep)} {T : List Txt} {nm : Txt} {b0 : List Nat} (h0 : σ 0 = tv) (h1 : σ 1 = v) (h5 : σ 5 = ov) (h7 : σ 7 = .str nm) (h20 : σ 20 = tv) (h21 : σ 21 = .int .i64 (k : Int)) (h22 : σ 22 = .int .i64 0)
    (s : Sl h 5 n v (xs.flatMap enC)) (hn : n ≤ 100000) (he : ∀ x ∈ xs, EnOk h x ∧ x.2.ls.length ≤ 8 ∧ Parted x.2.ls) (ht : Sl h 1 k tv (tx T)) (hk : k ≤ 2 ^ 30) (hne : ∀ y ∈ T, y ≠ []) (hnm : nm ∈ T) (f0 : Fr h g0)
    (ho : Own h.next g0 1 m ov (by8 b0)) (hm : b0.length = m) (hb : m + (T.flatMap fun v => post1 T (xs.map fun x => entOf x.2) (nm, v)).length ≤ 2 ^ 39)
    (hQ : ∀ σ' g' ov', σ' 5 = ov' → (∀ t, t ≠ 5 → (t < 9 ∨ (13 < t ∧ t < 20)) → σ' t = σ t) → Fr h g' →
      Own h.next g' 1 (m + (T.flatMap fun v => post1 T (xs.map fun x => entOf x.2) (nm, v)).length) ov' (by8 (b0 ++ T.flatMap fun v => post1 T (xs.map fun x => entOf x.2) (nm, v))) → Q .normal σ' [] g') :
    wpC P SI c_posts_m Q σ [] g0 := by
  have hTl : T.length = k := by have := ht.1; simpa [tx] using this
  have hp4 : ∀ s, s ∈ T → n64 (pl T s : Int) = pl T s := fun s hs => n64_of_nat _ (by have := pl_lt hs; omega)
  generalize hents : (xs.map fun x => entOf x.2) = ents at *
  simp only [c_posts_m, wpC_block]
  refine w_count (n := k) (by rfl) (fun j σ' ds g => ds = [] ∧ (∀ t, t ≠ 5 → (t < 9 ∨ (13 < t ∧ t < 20)) → σ' t = σ t) ∧ σ' 20 = tv ∧ σ' 21 = .int .i64 (k : Int) ∧ Fr h g ∧
      Own h.next g 1 (m + ((T.take j).flatMap fun v => post1 T ents (nm, v)).length) (σ' 5) (by8 (b0 ++ (T.take j).flatMap fun v => post1 T ents (nm, v)))) (by omega) h22
    ⟨rfl, fun _ _ _ => rfl, h20, h21, f0, by rw [h5]; simpa using ho⟩ (fun j σ ds g hJ => by simp [hJ.2.2.2.1]) ?_ ?_
  · rintro j σ' ds g hj hi ⟨rfl, hσ, e20, e21, fr, hoj⟩
    obtain ⟨vl, hx⟩ := at_some (l := T) (j := j) (by omega)
    have hvl := List.mem_of_getElem? hx
    obtain ⟨id, o, a1, a2, _⟩ := (ht.fr fr).get1 (k := .i64) (i := (j : Int)) rfl hj (x := .str vl) (by simp [tx, hx])
    have e0 := (hσ 0 (by omega) (by omega)).trans h0
    have e1 := (hσ 1 (by omega) (by omega)).trans h1
    have e7 := (hσ 7 (by omega) (by omega)).trans h7
    obtain ⟨ov1, hov⟩ : ∃ ov1, σ' 5 = ov1 := ⟨_, rfl⟩
    rw [hov] at hoj
    have hpre := flat_prefix (fun v => post1 T ents (nm, v)) T (j + 1)
    have hsn : (T.take (j + 1)).flatMap (fun v => post1 T ents (nm, v)) = (T.take j).flatMap (fun v => post1 T ents (nm, v)) ++ post1 T ents (nm, vl) := by
      rw [take_snoc _ _ _ hx, List.flatMap_append]; simp
    rw [hsn, List.length_append] at hpre
    generalize hB : (T.take j).flatMap (fun v => post1 T ents (nm, v)) = B at *
    have sl := (s.fr fr).len
    simp only [wpC_seq]
    simp [hi, e20, a1, a2, e1, sl, -List.length_flatMap]
    refine posts_i (h := h) (n := n) (v := v) (xs := xs) (nm := nm) (vl := vl) (by simp [e7]) (by simp) (by simp) (by simp) (by simp [e1]) (by simp) (by simp) s hn he fr (hne vl hvl) ?_
    intro σ2 g2 pv h210 h211 hσ2 f2 op
    rw [hents] at h211 op
    have z0 : σ2 0 = tv := by rw [hσ2 0 (by omega)]; simp [e0]
    have z5 : σ2 5 = ov1 := by rw [hσ2 5 (by omega)]; simp [hov]
    have z7 : σ2 7 = .str nm := by rw [hσ2 7 (by omega)]; simp [e7]
    have z9 : σ2 9 = .str vl := by rw [hσ2 9 (by omega)]; simp
    have z20 : σ2 20 = tv := by rw [hσ2 20 (by omega)]; simp [e20]
    have z21 : σ2 21 = .int .i64 (k : Int) := by rw [hσ2 21 (by omega)]; simp [e21]
    have z22 : σ2 22 = .int .i64 (j : Int) := by rw [hσ2 22 (by omega)]; simp [hi]
    have hpost : post1 T ents (nm, vl) = if plc ents (nm, vl) = [] then [] else be 4 (pl T nm) ++ be 4 (pl T vl) ++ be 4 (plc ents (nm, vl)).length ++ (plc ents (nm, vl)).flatMap (be 4) := rfl
    rw [hsn]
    rw [hpost] at hpre ⊢
    have hplen : (plc ents (nm, vl)).length ≤ n := by
      have := plcJ_le ents (nm, vl) ents.length
      have e : plcJ ents (nm, vl) ents.length = plc ents (nm, vl) := rfl
      rw [e, ← hents, List.length_map] at this
      have hl : xs.length = n := by have := s.1; rw [en_len] at this; omega
      rw [← hents]; omega
    generalize hP : plc ents (nm, vl) = P' at *
    by_cases hPe : P' = []
    · subst hPe
      simp [h211, z20, z21, z22, -List.length_flatMap]
      refine ⟨fun t h1 h2 => ?_, fr.trans f2, ?_⟩
      · repeat rw [if_neg (by omega)]
        rw [hσ2 t (by omega)]
        simp only [upd_some]
        repeat rw [if_neg (by omega)]
        exact hσ t h1 h2
      · rw [z5]; exact hoj.fr f2
    · rw [if_neg hPe] at hpre ⊢
      have hc0 : 0 < P'.length := List.length_pos_iff.2 hPe
      have hc0' : (0 : Int) < (P'.length : Int) := by omega
      have F2 := fr.trans f2
      obtain ⟨b, hb'⟩ : ∃ b, pl T nm = b := ⟨_, rfl⟩
      obtain ⟨c, hc'⟩ : ∃ c, pl T vl = c := ⟨_, rfl⟩
      have hb4 := hp4 nm hnm
      have hc4 := hp4 vl hvl
      have hq4 : n64 (P'.length : Int) = P'.length := n64_of_nat _ (by omega)
      rw [hb'] at hb4 hpre ⊢
      rw [hc'] at hc4 hpre ⊢
      have oj2 := hoj.fr f2
      simp only [List.length_append, be_length, be_flat_len] at hpre
      have hBm : (b0 ++ B).length = m + B.length := by rw [List.length_append, hm]
      obtain ⟨v3, g3, c1, o3, fb3, p3, n3, i3⟩ := app_put (bs := be 4 b) (k := 4) oj2 (by simp) F2.next (by omega)
      obtain ⟨v4, g4, c2, o4, fb4, p4, n4, i4⟩ := app_put (bs := be 4 c) (k := 4) o3 (by simp) (by have := F2.next; omega) (by omega)
      obtain ⟨v5, g5, c3, o5, fb5, p5, n5, i5⟩ := app_put (bs := be 4 P'.length) (k := 4) o4 (by simp) (by have := F2.next; omega) (by omega)
      have F3 : Fr h g3 := ⟨by have := F2.next; omega, fun i hi' => by rw [fb3.get i hi']; exact F2.get i hi'⟩
      have F4 : Fr h g4 := ⟨by have := F3.next; omega, fun i hi' => by rw [fb4.get i hi']; exact F3.get i hi'⟩
      have F5 : Fr h g5 := ⟨by have := F4.next; omega, fun i hi' => by rw [fb5.get i hi']; exact F4.get i hi'⟩
      -- the places stay
      have hpid : ∀ i, idOf pv = some i → g.next ≤ i ∧ i < g2.next := fun i hi' => own_id_lt op hi'
      have hoid : ∀ i, idOf ov1 = some i → i < g.next := fun i hi' => (own_id_lt hoj hi').2
      have d3 : ∀ i, idOf pv = some i → idOf v3 ≠ some i := fun i hi' hv => by
        have := hpid i hi'
        rcases i3 i hv with h | h
        · have := hoid i h; omega
        · omega
      have d4 : ∀ i, idOf pv = some i → idOf v4 ≠ some i := fun i hi' hv => by
        have := hpid i hi'
        rcases i4 i hv with h | h
        · exact d3 i hi' h
        · omega
      have sp5 : Sl g5 1 (4 * P'.length) pv (by8 (P'.flatMap (be 4))) := Sl.same_get op.sl (by omega) (fun i hi' => by
        have := hpid i hi'
        rw [p5 i (by omega) (d4 i hi'), p4 i (by omega) (d3 i hi'), p3 i (by omega) (fun hv => by have := hoid i hv; omega)])
      obtain ⟨v6, g6, c4, o6, fb6, p6, q6⟩ := o5.append (bytes := 1) sp5 (by have := F5.next; omega) (by8_scalar _) (by omega) (by omega)
      have pl1 := fun K => ref13_place (K := K) (ht.fr F2) (by omega) hnm
      have pl2 := fun K => ref13_place (K := K) (ht.fr F3) (by omega) hvl
      rw [hb'] at pl1
      rw [hc'] at pl2
      simp [h211, hc0, z5, z0, z7, pl1, ref13_four, hb4, c1, z9, pl2, hc4, c2, hq4, c3, h210, c4, z20, z21, z22, -List.length_flatMap]
      refine ⟨fun t h1 h2 => ?_, ⟨by have := F5.next; have := fb6.next; omega, fun i hi' => by rw [fb6.get i hi']; exact F5.get i hi'⟩, ?_⟩
      · repeat rw [if_neg (by omega)]
        rw [hσ2 t (by omega)]
        simp only [upd_some]
        repeat rw [if_neg (by omega)]
        exact hσ t h1 h2
      · have e1 : m + (B.length + (4 + (4 + (4 + (P'.flatMap (be 4)).length)))) = m + B.length + 4 + 4 + 4 + 4 * P'.length := by
          rw [be_flat_len]; omega
        have e2 : by8 (b0 ++ (B ++ (be 4 b ++ (be 4 c ++ (be 4 P'.length ++ P'.flatMap (be 4)))))) = by8 (b0 ++ B ++ be 4 b ++ be 4 c ++ be 4 P'.length) ++ by8 (P'.flatMap (be 4)) := by
          rw [← by8_append]; simp only [List.append_assoc]
        rw [e1, e2]
        exact o6
  · rintro σ' ds g ⟨rfl, hσ, e20, e21, fr, hoj⟩
    rw [List.take_of_length_le (by omega)] at hoj
    simp
    exact hQ _ g (σ' 5) (by simp) (fun t h1 h2 => by simp only [upd_some]; rw [if_neg (by omega)]; exact hσ t h1 h2) fr hoj

/-- what postings answers -/
theorem ref13_postings {h : AH} {n k : Nat} {v tv : AV} {xs : List (AV × Ep)} {T : List Txt} (s : Sl h 5 n v (xs.flatMap enC)) (hn : n ≤ 100000) (he : ∀ x ∈ xs, EnOk h x ∧ x.2.ls.length ≤ 8 ∧ Parted x.2.ls) (ht : Sl h 1 k tv (tx T)) (hk : k ≤ 2 ^ 30) (hne : ∀ y ∈ T, y ≠ [])
    (hb : (postsB T (xs.map fun x => entOf x.2)).length ≤ 2 ^ 39) :
    Ev P SI (.fn f_ref13_postings) [tv, v] h fun r g => Own h.next g 1 (postsB T (xs.map fun x => entOf x.2)).length r (by8 (postsB T (xs.map fun x => entOf x.2))) ∧ Fr h g := by
  refine ev_fn k_ref13_postings rfl rfl ?_
  have hTl : T.length = k := by have := ht.1; simpa [tx] using this
  generalize hents : (xs.map fun x => entOf x.2) = ents at *
  simp [c_ref13_postings, ht.len, -List.length_flatMap]
  refine w_count (n := k) (by rfl) (fun j σ ds g => ds = [] ∧ σ 0 = tv ∧ σ 1 = v ∧ σ 14 = tv ∧ σ 15 = .int .i64 (k : Int) ∧ Fr h g ∧
      Own h.next g 1 ((T.take j).flatMap fun nm => T.flatMap fun v => post1 T ents (nm, v)).length (σ 5) (by8 ((T.take j).flatMap fun nm => T.flatMap fun v => post1 T ents (nm, v)))) (by omega) (by simp)
    ⟨rfl, by simp, by simp, by simp, by simp, .refl _, by simpa [by8] using Own.nil (h := h) h.next 1⟩ (fun j σ ds g hJ => by simp [hJ.2.2.2.2.1]) ?_ ?_
  · rintro j σ ds g hj hi ⟨rfl, e0, e1, e14, e15, fr, ho⟩
    obtain ⟨nm, hx⟩ := at_some (l := T) (j := j) (by omega)
    have hnm := List.mem_of_getElem? hx
    obtain ⟨id, o, a1, a2, _⟩ := (ht.fr fr).get1 (k := .i64) (i := (j : Int)) rfl hj (x := .str nm) (by simp [tx, hx])
    have hpre := flat_prefix (fun nm => T.flatMap fun v => post1 T ents (nm, v)) T (j + 1)
    have hsn : (T.take (j + 1)).flatMap (fun nm => T.flatMap fun v => post1 T ents (nm, v)) = (T.take j).flatMap (fun nm => T.flatMap fun v => post1 T ents (nm, v)) ++ T.flatMap fun v => post1 T ents (nm, v) := by
      rw [take_snoc _ _ _ hx, List.flatMap_append]; simp
    rw [hsn, List.length_append] at hpre
    generalize hB : (T.take j).flatMap (fun nm => T.flatMap fun v => post1 T ents (nm, v)) = B at *
    have hpb : (T.flatMap fun nm => T.flatMap fun v => post1 T ents (nm, v)).length ≤ 2 ^ 39 := hb
    have tl := (ht.fr fr).len
    simp only [wpC_seq]
    simp [hi, e14, a1, a2, e0, tl, -List.length_flatMap]
    refine posts_m (h := h) (n := n) (k := k) (m := B.length) (v := v) (tv := tv) (xs := xs) (T := T) (nm := nm) (b0 := B) (by simp [e0]) (by simp [e1]) (by simp) (by simp) (by simp) (by simp) (by simp) s hn he ht hk hne hnm fr ho rfl (by rw [hents]; omega) ?_
    intro σ2 g2 ov' h25 hσ2 f2 o2
    rw [hents] at o2
    have z0 : σ2 0 = tv := by rw [hσ2 0 (by omega) (by omega)]; simp [e0]
    have z1 : σ2 1 = v := by rw [hσ2 1 (by omega) (by omega)]; simp [e1]
    have z14 : σ2 14 = tv := by rw [hσ2 14 (by omega) (by omega)]; simp [e14]
    have z15 : σ2 15 = .int .i64 (k : Int) := by rw [hσ2 15 (by omega) (by omega)]; simp [e15]
    have z16 : σ2 16 = .int .i64 (j : Int) := by rw [hσ2 16 (by omega) (by omega)]; simp [hi]
    rw [hsn, List.length_append]
    simp [z0, z1, z14, z15, z16, h25, -List.length_flatMap]
    exact ⟨f2, o2⟩
  · rintro σ ds g ⟨rfl, e0, e1, e14, e15, fr, ho⟩
    rw [List.take_of_length_le (by omega)] at ho
    simp
    exact ⟨ho, fr⟩

end Go.Dk

namespace Go.Dk
open Go Go.Dr
set_option maxRecDepth 100000

/-! ### the program's bytes are the document's -/

theorem less_lt : ∀ x y : Txt, Op.bytesLess x y = true ↔ x < y
  | x, [] => by
    cases x <;> simp [Op.bytesLess]
  | [], y :: l => by simp [Op.bytesLess]
  | a :: x, b :: y => by
    have ih := less_lt x y
    rw [List.cons_lt_cons_iff, ← ih]
    simp only [Op.bytesLess, Bool.or_eq_true, decide_eq_true_eq, Bool.and_eq_true, beq_iff_eq]

theorem Tof_asc (l : List Ep) : AscT (Tof l) := by
  unfold AscT Tof srtT
  have tr : ∀ a b c : Txt, decide (a ≤ b) = true → decide (b ≤ c) = true → decide (a ≤ c) = true := fun a b c h1 h2 => by simp only [decide_eq_true_eq] at *; exact List.le_trans h1 h2
  have to : ∀ a b : Txt, (decide (a ≤ b) || decide (b ≤ a)) = true := fun a b => by simp only [Bool.or_eq_true, decide_eq_true_eq]; exact List.le_total a b
  have h1 := List.pairwise_mergeSort tr to (addE [] (l.map (·.ls)))
  have h2 : (srtT (addE [] (l.map (·.ls)))).Nodup := Tof_nodup l
  unfold srtT at h2
  refine (h1.and h2).imp fun {a b} h => ?_
  obtain ⟨h3, h4⟩ := h
  simp only [decide_eq_true_eq] at h3
  rcases less_tri a b with h | h | h
  · exact h
  · exact absurd h h4
  · exact absurd ((less_lt b a).1 h) (List.not_lt.2 h3)

theorem Tof_isT (l : List Ep) : IsT (Tof l) (l.map (·.ls)) := ⟨Tof_asc l, fun s => Tof_mem l s⟩

theorem evE_range (T : List Txt) : ∀ (l : List Ep) (off : Nat), evE T off l = (List.range l.length).flatMap fun i => match (l.map entOf)[i]? with | some x => x.ls.map fun k => ((pl T k.1, pl T k.2), off + i) | none => []
  | [], _ => rfl
  | x :: l, off => by
    rw [evE, evE_range T l (off + 1), List.length_cons, List.range_succ_eq_map, List.flatMap_cons, List.flatMap_map]
    congr 1
    rw [List.flatMap_def, List.flatMap_def]
    congr 1
    refine List.map_congr_left fun i _ => ?_
    simp only [List.map_cons, List.getElem?_cons_succ]
    rw [show off + 1 + i = off + (i + 1) by omega]

theorem evs_eq (T : List Txt) (l : List Ep) : evsOf T (l.map entOf) = evE T 0 l := by
  rw [evE_range]
  unfold evsOf
  rw [List.length_map]
  rw [List.flatMap_def, List.flatMap_def]
  congr 1
  refine List.map_congr_left fun i _ => ?_
  cases (l.map entOf)[i]? with
  | none => rfl
  | some x => simp

theorem itE_bytes (T : List Txt) (x : Ep) (h8 : x.ls.length ≤ 8) (hp : ∀ k ∈ x.ls, pl T k.1 < 2 ^ 62 ∧ pl T k.2 < 2 ^ 62) : (itE T x).flatMap itB = entB T (entOf x) := by
  have h1 : ∀ l : List Lab, (∀ k ∈ l, pl T k.1 < 2 ^ 62 ∧ pl T k.2 < 2 ^ 62) → (l.flatMap fun k => [It.w (pl T k.1 : Int) 4, .w (pl T k.2 : Int) 4]).flatMap itB = labsB T l := by
    intro l
    induction l with
    | nil => intro _; rfl
    | cons k l ih =>
      intro h
      obtain ⟨a, b⟩ := h k List.mem_cons_self
      have ih := ih fun y hy => h y (List.mem_cons_of_mem _ hy)
      unfold labsB at ih ⊢
      rw [List.flatMap_cons, List.flatMap_append, ih, List.flatMap_cons]
      congr 1
      simp only [List.flatMap_cons, List.flatMap_nil, List.append_nil, itB, n64_of_nat _ (Nat.lt_trans a (by decide)), n64_of_nat _ (Nat.lt_trans b (by decide))]
  have hb1 : be 1 (n64 (x.ls.length : Int)) = [x.ls.length] := by
    rw [n64_of_nat _ (by omega)]
    simp only [be, List.nil_append, List.cons.injEq, and_true]
    omega
  unfold itE entB
  rw [List.cons_append, List.flatMap_cons, List.flatMap_append, h1 x.ls hp]
  simp only [List.flatMap_cons, List.flatMap_nil, List.append_nil, itB, hb1, entOf, List.append_assoc, List.cons_append, List.nil_append]

/-- **the program's bytes are the document's** -/
theorem bytes_eq {l : List Ep} (hn : l.length ≤ 10000) (hc : canE l = true) {T : List Txt} (hT : IsT T (l.map (·.ls))) : bytesI l = encB T (l.map entOf) := by
  have h8 := canE_ls8 hc
  have hTT : T = Tof l := hT.unique (Tof_isT l)
  subst hTT
  have hTl := Tof_len l h8
  have hmem : ∀ x ∈ l, ∀ k ∈ x.ls, k.1 ∈ Tof l ∧ k.2 ∈ Tof l := fun x hx k hk =>
    ⟨(Tof_mem l _).2 ⟨x.ls, List.mem_map.2 ⟨x, hx, rfl⟩, k, hk, .inl rfl⟩, (Tof_mem l _).2 ⟨x.ls, List.mem_map.2 ⟨x, hx, rfl⟩, k, hk, .inr rfl⟩⟩
  have hpl : ∀ s ∈ Tof l, pl (Tof l) s < 2 ^ 62 := fun s hs => by have := pl_lt hs; omega
  have hplist : l.map (·.ls) = (l.map entOf).map (·.ls) := by rw [List.map_map]; rfl
  have e1 : ([It.w ((Tof l).length : Int) 4]).flatMap itB = be 4 (Tof l).length := by
    simp only [List.flatMap_cons, List.flatMap_nil, List.append_nil, itB, n64_of_nat _ (show (Tof l).length < 2 ^ 64 by omega)]
  have e2 : ((Tof l).map It.t).flatMap itB = (Tof l).flatMap fun s => s.length :: bT s := by
    rw [List.flatMap_map, List.flatMap_def, List.flatMap_def]
    congr 1
    refine List.map_congr_left fun s hs => ?_
    obtain ⟨y, hy, k, hk, hsk⟩ := (Tof_mem l s).1 hs
    obtain ⟨x, hx, rfl⟩ := List.mem_map.1 hy
    obtain ⟨a, b, _⟩ := (canL_mem (canE_mem hc x hx).1).2 k hk
    have : s.length ≤ 40 := by rcases hsk with rfl | rfl <;> omega
    simp only [itB]
    rw [Nat.mod_eq_of_lt (by omega)]
  have e3 : ([It.w (l.length : Int) 4]).flatMap itB = be 4 l.length := by
    simp only [List.flatMap_cons, List.flatMap_nil, List.append_nil, itB, n64_of_nat _ (show l.length < 2 ^ 64 by omega)]
  have e4 : (l.flatMap (itE (Tof l))).flatMap itB = (l.map entOf).flatMap (entB (Tof l)) := by
    rw [List.flatMap_assoc, List.flatMap_map, List.flatMap_def, List.flatMap_def]
    congr 1
    exact List.map_congr_left fun x hx => itE_bytes _ x (h8 x hx) fun k hk => ⟨hpl _ (hmem x hx k hk).1, hpl _ (hmem x hx k hk).2⟩
  have hevs : evsOf (Tof l) (l.map entOf) = evE (Tof l) 0 l := evs_eq _ l
  have hmm : mmOf l = gath (evsOf (Tof l) (l.map entOf)) := by rw [hevs]; rfl
  have hpart : ∀ x ∈ l.map entOf, Parted x.ls := fun x hx => by
    obtain ⟨y, hy, rfl⟩ := List.mem_map.1 hx
    exact canL_parted (canE_mem hc y hy).1
  have hkey : ∀ p ∈ (mmOf l).map (·.1), p.1 < 2 ^ 62 ∧ p.2 < 2 ^ 62 := by
    intro p hp
    unfold mmOf at hp
    rw [gath_keys, ← hevs] at hp
    obtain ⟨e, he, rfl⟩ := List.mem_map.1 hp
    unfold evsOf at he
    obtain ⟨i, _, hi⟩ := List.mem_flatMap.1 he
    cases hx : (l.map entOf)[i]? with
    | none => rw [hx] at hi; cases hi
    | some x =>
      rw [hx] at hi
      obtain ⟨k, hk, rfl⟩ := List.mem_map.1 hi
      obtain ⟨y, hy, rfl⟩ := List.mem_map.1 (List.mem_of_getElem? hx)
      have := hmem y hy k hk
      exact ⟨hpl _ this.1, hpl _ this.2⟩
  have e5 : (itP (mmOf l) (srtP ((mmOf l).map (·.1)))).flatMap itB = postsB (Tof l) (l.map entOf) := by
    have hnd : ((mmOf l).map (·.1)).Nodup := gath_nodup _
    rw [← posts_eq (by rw [← hplist]; exact Tof_isT l) hpart (srtP_asc hnd) (fun p => by rw [srtP_mem, hmm])]
    unfold itP
    rw [List.flatMap_assoc, List.flatMap_def, List.flatMap_def]
    congr 1
    refine List.map_congr_left fun p hp => ?_
    obtain ⟨a, b⟩ := hkey p ((srtP_mem _ p).1 hp)
    rw [← hmm]
    simp only [List.flatMap_cons, List.flatMap_nil, List.append_nil, itB, pairB, n64_of_nat _ (Nat.lt_trans a (show (2:Nat) ^ 62 < 2 ^ 64 by decide)), n64_of_nat _ (Nat.lt_trans b (show (2:Nat) ^ 62 < 2 ^ 64 by decide)), List.append_assoc]
  unfold bytesI itemsOf encB headB
  rw [List.flatMap_append, List.flatMap_append, List.flatMap_append, List.flatMap_append, e1, e2, e3, e4, e5, List.length_map]

end Go.Dk

namespace Go.Dk
open Go Go.Dr
set_option maxRecDepth 100000

/-- more put behind ours, out of a slice -/
theorem app_sl {B n k : Nat} {g : AH} {v x : AV} {l bs : List Nat} (o : Own B g 1 n v (by8 l)) (s : Sl g 1 k x (by8 bs)) (hB : B ≤ g.next) (hb : n + k ≤ 2 ^ 40) :
    ∃ v' g', opApp 1 1 v x g = okV v' g' ∧ Own B g' 1 (n + k) v' (by8 (l ++ bs)) ∧ FrB B g g' := by
  obtain ⟨v', g', e, o2, f, p, q⟩ := o.append (bytes := 1) s hB (by8_scalar _) (by omega) (by omega)
  exact ⟨v', g', e, by rw [by8_append]; exact o2, f⟩

theorem ref13_Encode {h : AH} {n : Nat} {v : AV} {xs : List (AV × Ep)} (s : Sl h 5 n v (xs.flatMap enC)) (hn : n ≤ 10000) (he : ∀ x ∈ xs, EnOk h x ∧ Short x.2.ls ∧ x.2.ls.length < 2 ^ 62) :
    Ev P SI (.fn f_ref13_Encode) [v] h (EncIK h (xs.map (·.2))) := by
  refine ev_fn k_ref13_Encode rfl rfl ?_
  have hl : xs.length = n := by have := s.1; rw [en_len] at this; omega
  simp only [c_ref13_Encode, wpC_seq]
  simp
  refine (ref13_Can s (by omega) he).mono ?_
  rintro r g ⟨rfl, f1⟩
  cases hc : canE (xs.map (·.2)) with
  | false =>
    simp [EncIK, hc]
    exact f1
  | true =>
    have hll : (xs.map (·.2)).length ≤ 10000 := by rw [List.length_map]; omega
    have h8 := canE_ls8 hc
    have h8x : ∀ x ∈ xs, x.2.ls.length ≤ 8 := fun x hx => h8 x.2 (List.mem_map.2 ⟨x, hx, rfl⟩)
    have hcx : ∀ x ∈ xs, canL x.2.ls = true := fun x hx => (canE_mem hc x.2 (List.mem_map.2 ⟨x, hx, rfl⟩)).1
    simp
    refine (ref13_texts (s.fr f1) (by omega) (fun x hx => ⟨(he x hx).1.fr f1, h8x x hx⟩)).mono ?_
    rintro tv g2 ⟨T, k, ht, hT, f2, hk⟩
    have F2 := f1.trans f2
    have hTl : T.length = k := by have := ht.1; simpa [tx] using this
    have hT' : IsT T ((xs.map (·.2)).map (·.ls)) := by rw [List.map_map]; exact hT
    have hbe := bytes_eq hll hc hT'
    have hBl := bytesI_len hll hc
    have hents : (xs.map (·.2)).map entOf = xs.map fun x => entOf x.2 := by rw [List.map_map]; rfl
    rw [hents] at hbe
    have hel : (xs.map fun x => entOf x.2).length = n := by rw [List.length_map, hl]
    have hmemT : ∀ x ∈ xs, ∀ y ∈ x.2.ls, y.1 ∈ T ∧ y.2 ∈ T := fun x hx y hy =>
      ⟨(hT.2 _).2 ⟨x.2.ls, List.mem_map.2 ⟨x, hx, rfl⟩, y, hy, .inl rfl⟩, (hT.2 _).2 ⟨x.2.ls, List.mem_map.2 ⟨x, hx, rfl⟩, y, hy, .inr rfl⟩⟩
    have hTs : ∀ y ∈ T, y.length ≤ 40 ∧ y ≠ [] := fun y hy => by
      obtain ⟨z, hz, k, hk, hyk⟩ := (hT.2 y).1 hy
      obtain ⟨x, hx, rfl⟩ := List.mem_map.1 hz
      obtain ⟨a, b, c, d⟩ := (canL_mem (hcx x hx)).2 k hk
      rcases hyk with rfl | rfl
      · exact ⟨by omega, c⟩
      · exact ⟨b, d⟩
    have hkn : n64 (k : Int) = k := n64_of_nat _ (by omega)
    have hnn : n64 (n : Int) = n := n64_of_nat _ (by omega)
    have hfin : encB T (xs.map fun x => entOf x.2) = be 4 k ++ (T.flatMap fun s => s.length :: bT s) ++ be 4 n ++ (xs.map fun x => entOf x.2).flatMap (entB T) ++ postsB T (xs.map fun x => entOf x.2) := by
      unfold encB headB; rw [hTl, hel]
    rw [hfin] at hbe
    rw [hbe] at hBl
    simp only [List.length_append, be_length] at hBl
    have o1 := Own.fresh (B := g2.next) (h := g2) (es := 1) (n := 4) (l := by8 (be 4 k)) true (Nat.le_refl _) (by simp)
    have tl := ht.len
    have tl2 := (ht.fr (Fr.push (.refl g2) (.cells (by8 (be 4 k)) false))).len
    simp [tl, ref13_four, hkn, tl2, -List.length_flatMap]
    refine w_count (n := k) (by rfl) (fun j σ ds g => ds = [] ∧ σ 0 = v ∧ σ 4 = tv ∧ σ 18 = tv ∧ σ 19 = .int .i64 (k : Int) ∧ Fr g2 g ∧ Own g2.next g 1 (4 + ((T.take j).flatMap fun s => s.length :: bT s).length) (σ 5) (by8 (be 4 k ++ (T.take j).flatMap fun s => s.length :: bT s))) (by omega) (by simp)
      ⟨rfl, by simp, by simp, by simp, by simp, Fr.push (.refl g2) _, by simpa using o1⟩ (fun j σ ds g hJ => by simp [hJ.2.2.2.2.1]) ?_ ?_
    · rintro j σ ds g' hj hi ⟨rfl, e0, e4, e18, e19, fr, ho⟩
      obtain ⟨y, hy⟩ := at_some (l := T) (j := j) (by omega)
      obtain ⟨id, o, a1, a2, _⟩ := (ht.fr fr).get1 (k := .i64) (i := (j : Int)) rfl hj (x := .str y) (by simp [tx, hy])
      obtain ⟨hy40, _⟩ := hTs y (List.mem_of_getElem? hy)
      obtain ⟨bv, hbv⟩ : ∃ bv, σ 5 = bv := ⟨_, rfl⟩
      rw [hbv] at ho
      have hpre := flat_prefix (fun s => s.length :: bT s) T (j + 1)
      have hsn : (T.take (j + 1)).flatMap (fun s => s.length :: bT s) = (T.take j).flatMap (fun s => s.length :: bT s) ++ (y.length :: bT y) := by
        rw [take_snoc _ _ _ hy, List.flatMap_append]; simp
      have hyl : (y.length :: bT y).length = 1 + y.length := by simp [bT]; omega
      rw [hsn, List.length_append, hyl] at hpre
      generalize hB : (T.take j).flatMap (fun s => s.length :: bT s) = B at *
      have w8 : wrapF .u8 (y.length : Int) = (y.length : Int) := wrap_u8 (by omega) (by omega)
      obtain ⟨v3, g3, c1, o3, fb3, p3, n3, i3⟩ := app_put (bs := [y.length]) (k := 1) ho rfl fr.next (by omega)
      have c1' : opApp 1 1 bv (.slice g'.next 0 1 1 true 1) (g'.push (.cells [.int .u8 (y.length : Int)] false)) = okV v3 g3 := c1
      obtain ⟨v4, g4, c2, o4, fb4, p4, q4⟩ := o3.append_src (bytes := 1) (src_str y) (by simp) (by have := fr.next; omega) (by8_scalar _) (by omega) (by omega)
      simp [e18, hi, a1, a2, hbv, w8, splice_eq, c1', c2, e0, e4, e19, -List.length_flatMap]
      rw [hsn]
      refine ⟨⟨by have := fr.next; have := fb4.next; omega, fun i hi' => by rw [fb4.get i hi', fb3.get i hi']; exact fr.get i hi'⟩, ?_⟩
      have e1 : 4 + (B ++ y.length :: bT y).length = 4 + B.length + 1 + y.length := by rw [List.length_append, hyl]; omega
      rw [e1]
      have e2 : by8 (be 4 k ++ (B ++ y.length :: bT y)) = by8 (be 4 k ++ B ++ [y.length]) ++ by8 (y.map UInt8.toNat) := by
        rw [← by8_append]; simp [bT]
      rw [e2]
      exact o4
    · rintro σ ds g3 ⟨rfl, e0, e4, e18, e19, fr, ho⟩
      rw [List.take_of_length_le (by omega)] at ho
      obtain ⟨bv, hbv⟩ : ∃ bv, σ 5 = bv := ⟨_, rfl⟩
      rw [hbv] at ho
      generalize hH : (T.flatMap fun s => s.length :: bT s) = H at *
      have sl3 := (s.fr (F2.trans fr)).len
      obtain ⟨v4, g4, c1, o4, fb4, p4, n4, i4⟩ := app_put (bs := be 4 n) (k := 4) ho (by simp) fr.next (by omega)
      have fr4 : Fr g2 g4 := ⟨by have := fr.next; omega, fun i hi' => by rw [fb4.get i hi']; exact fr.get i hi'⟩
      have sl4 := (s.fr (F2.trans fr4)).len
      simp [hbv, e0, sl3, ref13_four, hnn, c1, sl4, -List.length_flatMap]
      refine w_count (n := n) (by rfl) (fun j σ ds g => ds = [] ∧ σ 0 = v ∧ σ 4 = tv ∧ σ 38 = v ∧ σ 39 = .int .i64 (n : Int) ∧ Fr g2 g ∧ Own g2.next g 1 (8 + H.length + (((xs.map fun x => entOf x.2).take j).flatMap (entB T)).length) (σ 5) (by8 (be 4 k ++ H ++ be 4 n ++ ((xs.map fun x => entOf x.2).take j).flatMap (entB T)))) (by omega) (by simp)
        ⟨rfl, by simp [e0], by simp [e4], by simp, by simp, fr4, ?_⟩ (fun j σ ds g hJ => by simp [hJ.2.2.2.2.1]) ?_ ?_
      · have e1 : 8 + H.length = 4 + H.length + 4 := by omega
        simpa [e1] using o4
      · rintro j σ' ds g' hj hi ⟨rfl, f0, f4, f38, f39, fr', ho'⟩
        obtain ⟨x, hx⟩ := at_some (l := xs) (j := j) (by omega)
        have hxm := List.mem_of_getElem? hx
        have hxe : (xs.map fun x => entOf x.2)[j]? = some (entOf x.2) := by simp [hx]
        have fh := F2.trans fr'
        obtain ⟨id, o, a1, a2, _⟩ := en_at (s.fr fh) hx
        have okg := (he x hxm).1.fr fh
        have hlc := Sl.oneCell okg
        have stn := opStore_new (h := g') (n := 5) (z := [.nils, .int .i64 0, .int .i64 0, .int .i64 0, .int .i64 0]) (l := enC x) rfl rfl (by simp [enC, allScalar, hlc.2])
        have fp := Fr.push (.refl g') (.cells (enC x) false)
        have ln : loadN (g'.push (.cells (enC x) false)) g'.next 0 5 = .ok (enC x) := loadN_of (get_push_new _) rfl
        obtain ⟨bv', hbv'⟩ : ∃ bv, σ' 5 = bv := ⟨_, rfl⟩
        rw [hbv'] at ho'
        have hpre := flat_prefix (entB T) (xs.map fun x => entOf x.2) (j + 1)
        have hsn : ((xs.map fun x => entOf x.2).take (j + 1)).flatMap (entB T) = ((xs.map fun x => entOf x.2).take j).flatMap (entB T) ++ entB T (entOf x.2) := by
          rw [take_snoc _ _ _ hxe, List.flatMap_append]; simp
        rw [hsn, List.length_append] at hpre
        simp only [wpC_seq]
        simp [f38, hi, a1, opLoadN, a2, stn, f4, ln, -List.length_flatMap]
        refine (ref13_entry (ht.fr (fr'.trans fp)) (by omega) (okg.fr fp) (h8x x hxm) (hmemT x hxm)).mono ?_
        rintro r g5 ⟨o5, f5⟩
        have el := entB_len T x.2
        generalize hB : ((xs.map fun x => entOf x.2).take j).flatMap (entB T) = B at *
        generalize hE : entB T (entOf x.2) = E at *
        obtain ⟨v6, g6, c6, o6, fb6⟩ := app_sl ((ho'.fr fp).fr f5) o5.sl (by have := fr'.next; have := f5.next; have : (g'.push (.cells (enC x) false)).next = g'.next + 1 := rfl; omega) (by omega)
        simp [hbv', c6, f0, f4, f38, f39, hi, -List.length_flatMap]
        rw [hsn]
        have gn : (g'.push (.cells (enC x) false)).next = g'.next + 1 := rfl
        refine ⟨⟨by have := fr'.next; have := f5.next; have := fb6.next; omega, fun i hi' => ?_⟩, ?_⟩
        · have := fr'.next
          rw [fb6.get i hi', f5.get i (by omega), get_push_old (by omega)]; exact fr'.get i hi'
        · have e1 : 8 + H.length + (B ++ E).length = 8 + H.length + B.length + (21 + 8 * x.2.ls.length) := by rw [List.length_append, el]; omega
          rw [e1]
          simp only [List.append_assoc] at o6 ⊢
          exact o6
      · rintro σ' ds g' ⟨rfl, f0, f4, f38, f39, fr', ho'⟩
        rw [List.take_of_length_le (by omega)] at ho'
        obtain ⟨bv', hbv'⟩ : ∃ bv, σ' 5 = bv := ⟨_, rfl⟩
        rw [hbv'] at ho'
        simp [hbv', f0, f4, -List.length_flatMap]
        have fh := F2.trans fr'
        refine (ref13_postings (s.fr fh) (by omega) (fun x hx => ⟨(he x hx).1.fr fh, h8x x hx, canL_parted (hcx x hx)⟩) (ht.fr fr') (by omega) (fun y hy => (hTs y hy).2) (by omega)).mono ?_
        rintro r g5 ⟨o5, f5⟩
        generalize hE : (xs.map fun x => entOf x.2).flatMap (entB T) = E at *
        generalize hP : postsB T (xs.map fun x => entOf x.2) = Q at *
        obtain ⟨v6, g6, c6, o6, fb6⟩ := app_sl (ho'.fr f5) o5.sl (by have := fr'.next; have := f5.next; omega) (by omega)
        simp [c6, EncIK, hc, -List.length_flatMap]
        have f6 : Fr h g6 := ⟨by have := F2.next; have := fr'.next; have := f5.next; have := fb6.next; omega, fun i hi' => by
          have h1 := F2.next
          have h2 := fr'.next
          rw [fb6.get i (by omega), f5.get i (by omega)]; exact fh.get i hi'⟩
        refine ⟨?_, f6⟩
        rw [hbe]
        have e1 : (be 4 k ++ H ++ be 4 n ++ E ++ Q).length = 8 + H.length + E.length + Q.length := by simp only [List.length_append, be_length]; omega
        rw [e1]
        exact o6.sl

end Go.Dk

namespace Go.Dk
open Go Go.Dr
set_option maxRecDepth 100000

theorem guard_lab : P.eqGuardType P.depth t_api_Label = false := by kernel_rfl
theorem eq_lab (a b c d : Txt) : eqAt P 20 t_api_Label (.agg [.str a, .str b]) (.agg [.str c, .str d]) =
   (match (.ok (a == c) : R Bool) with | .ok true => (match (.ok (b == d) : R Bool) with | .ok true => .ok true | .ok false => .ok false | .error e => .error e) | .ok false => .ok false | .error e => .error e) := by kernel_rfl

theorem neq_lab (a b : Txt) (lit : Bool) : opBin P .neq t_api_Label lit (.agg [.str a, .str b]) (.agg [.str a, .str b]) = .ok (.bool false) := by
  have h := eq_lab a b a b
  simp at h
  simp [opBin, binSlow, guard_lab, h, eqNeq]

theorem eqAV_lab (a b : Txt) : eqAV 12 (.agg [.str a, .str b]) (.agg [.str a, .str b]) = true := by
  show Bool.and (decide (a = a)) (Bool.and (decide (b = b)) true) = true
  simp

theorem equal_labels {h : AH} {n : Nat} {va vb : AV} {l : List Lab} (sa : Sl h 2 n va (l.flatMap labC)) (sb : Sl h 2 n vb (l.flatMap labC)) (hn : n < 2 ^ 62) (K : AV → AH → Prop) :
    Ev P SI (.fn f_slices_Equal_api_Label_api_Label) [va, vb] h K = K (.bool true) h := by
  refine Ev.eq (ev_fn k_slices_Equal_api_Label_api_Label rfl rfl ?_) K
  have hl := lab_len sa
  simp [c_slices_Equal_api_Label_api_Label, sa.len, sb.len]
  refine w_count (n := n) (by rfl) (fun j σ ds g => ds = [] ∧ σ 0 = va ∧ σ 1 = vb ∧ σ 12 = .int .i64 (n : Int) ∧ g = h) (by omega) (by simp) (by simp) (fun j σ ds g hJ => by simp [hJ.2.2.2.1]) ?_ ?_
  · rintro j σ ds g hj hi ⟨rfl, e0, e1, e12, rfl⟩
    obtain ⟨⟨nm, vl⟩, hx⟩ := at_some (l := l) (j := j) (by omega)
    obtain ⟨i1, o1, a1, a2, _⟩ := lab_at sa (k := .i64) (i := (j : Int)) rfl hx
    obtain ⟨i2, o2, b1, b2, _⟩ := lab_at sb (k := .i64) (i := (j : Int)) rfl hx
    simp only at a2 b2
    simp [e0, e1, e12, hi, a1, a2, b1, b2, opLoadN, neq_lab, eqAV_lab]
  · rintro σ ds g ⟨rfl, e0, e1, e12, rfl⟩
    simp

theorem same_1 {h : AH} {x y : AV × Ep} (hx : EnOk h x) (hy : EnOk h y) (e : x.2 = y.2) (hl : x.2.ls.length < 2 ^ 62) : Ev P SI (.fn f_plain_SameEntries_1) [.agg (enC x), .agg (enC y)] h fun r g => r = .bool true ∧ Fr h g := by
  obtain ⟨xv, p⟩ := x
  obtain ⟨yv, q⟩ := y
  simp only at e hl
  subst e
  refine ev_fn k_plain_SameEntries_1 rfl rfl ?_
  have f1 := Fr.push (.refl h) (.cells (enC (xv, p)) false)
  have f2 := f1.push (.cells (enC (yv, p)) false)
  have gx : ((h.push (.cells (enC (xv, p)) false)).push (.cells (enC (yv, p)) false)).get h.next = some (.cells (enC (xv, p)) false) := by
    rw [get_push_old (Nat.ne_of_lt (Nat.lt_succ_self _)), get_push_new]
  have gy : ((h.push (.cells (enC (xv, p)) false)).push (.cells (enC (yv, p)) false)).get (h.next + 1) = some (.cells (enC (yv, p)) false) := get_push_new _
  generalize hg : (h.push (.cells (enC (xv, p)) false)).push (.cells (enC (yv, p)) false) = g at *
  have x0 : load1 g h.next 0 = .ok xv := load1_of gx
  have x1 : load1 g h.next 1 = .ok (.int .i64 p.pl) := load1_of gx
  have x2 : load1 g h.next 2 = .ok (.int .i64 p.sz) := load1_of gx
  have x3 : load1 g h.next 3 = .ok (.int .i64 p.mn) := load1_of gx
  have x4 : load1 g h.next 4 = .ok (.int .i64 p.mx) := load1_of gx
  have y0 : load1 g (h.next + 1) 0 = .ok yv := load1_of gy
  have y1 : load1 g (h.next + 1) 1 = .ok (.int .i64 p.pl) := load1_of gy
  have y2 : load1 g (h.next + 1) 2 = .ok (.int .i64 p.sz) := load1_of gy
  have y3 : load1 g (h.next + 1) 3 = .ok (.int .i64 p.mn) := load1_of gy
  have y4 : load1 g (h.next + 1) 4 = .ok (.int .i64 p.mx) := load1_of gy
  have hx2 : Sl g 2 p.ls.length xv (p.ls.flatMap labC) := EnOk.fr (x := (xv, p)) hx f2
  have hy2 : Sl g 2 p.ls.length yv (p.ls.flatMap labC) := EnOk.fr (x := (yv, p)) hy f2
  have el := equal_labels hx2 hy2 hl
  simp [c_plain_SameEntries_1, hg, x0, x1, x2, x3, x4, y0, y1, y2, y3, y4, el]
  exact f2

theorem same_entries {h : AH} {n : Nat} {va vb : AV} {xs ys : List (AV × Ep)} (sa : Sl h 5 n va (xs.flatMap enC)) (sb : Sl h 5 n vb (ys.flatMap enC)) (hn : n < 2 ^ 62)
    (hx : ∀ x ∈ xs, EnOk h x ∧ x.2.ls.length < 2 ^ 62) (hy : ∀ x ∈ ys, EnOk h x) (he : xs.map (·.2) = ys.map (·.2)) :
    Ev P SI (.fn f_plain_SameEntries) [va, vb] h fun r g => r = .bool true ∧ Fr h g := by
  refine ev_fn k_plain_SameEntries rfl rfl ?_
  simp [c_plain_SameEntries]
  refine ev_fn k_slices_EqualFunc_api_Entry_api_Entry_api_Entry_api_Entry rfl rfl ?_
  have hl : xs.length = n := by have := sa.1; rw [en_len] at this; omega
  have hl2 : ys.length = n := by have := sb.1; rw [en_len] at this; omega
  simp [c_slices_EqualFunc_api_Entry_api_Entry_api_Entry_api_Entry, sa.len, sb.len]
  refine w_count (n := n) (by rfl) (fun j σ ds g => ds = [] ∧ σ 0 = va ∧ σ 15 = va ∧ σ 1 = vb ∧ σ 2 = .func (.func f_plain_SameEntries_1) [] [] ∧ σ 16 = .int .i64 (n : Int) ∧ Fr h g) (by omega) (by simp) ⟨rfl, by simp, by simp, by simp, by simp, by simp, .refl _⟩ (fun j σ ds g hJ => by simp [hJ.2.2.2.2.2.1]) ?_ ?_
  · rintro j σ ds g hj hi ⟨rfl, e0, e15, e1, e2, e16, F⟩
    obtain ⟨x, hxj⟩ := at_some (l := xs) (j := j) (by omega)
    obtain ⟨y, hyj⟩ := at_some (l := ys) (j := j) (by omega)
    obtain ⟨hx1, hx2⟩ := hx x (List.mem_of_getElem? hxj)
    have hy1 := hy y (List.mem_of_getElem? hyj)
    have hxy : x.2 = y.2 := by
      have h1 : (xs.map (·.2))[j]? = (ys.map (·.2))[j]? := by rw [he]
      rw [List.getElem?_map, List.getElem?_map, hxj, hyj] at h1
      exact Option.some.inj h1
    obtain ⟨i1, o1, a1, a2, _⟩ := en_at (sa.fr F) hxj
    have hxc := Sl.oneCell hx1
    have hyc := Sl.oneCell hy1
    have st1 := opStore_new (h := g) (n := 5) (z := [.nils, .int .i64 0, .int .i64 0, .int .i64 0, .int .i64 0]) (l := enC x) rfl rfl (by simp [enC, allScalar, hxc.2])
    have f1 := Fr.push (.refl g) (.cells (enC x) false)
    have gx : (g.push (.cells (enC x) false)).get g.next = some (.cells (enC x) false) := get_push_new _
    have gxn : (g.push (.cells (enC x) false)).next = g.next + 1 := rfl
    generalize hg1 : g.push (.cells (enC x) false) = g1 at *
    obtain ⟨i2, o2, b1, b2, _⟩ := en_at ((sb.fr F).fr f1) hyj
    have st2 := opStore_new (h := g1) (n := 5) (z := [.nils, .int .i64 0, .int .i64 0, .int .i64 0, .int .i64 0]) (l := enC y) rfl rfl (by simp [enC, allScalar, hyc.2])
    have f2 := Fr.push (.refl g1) (.cells (enC y) false)
    have gy : (g1.push (.cells (enC y) false)).get g1.next = some (.cells (enC y) false) := get_push_new _
    have gx2 := f2.get g.next (by omega)
    rw [gx] at gx2
    generalize hg2 : g1.push (.cells (enC y) false) = g2 at *
    have ldx := loadN_of gx2 (n := 5) rfl
    have ldy := loadN_of gy (n := 5) rfl
    have F2 := (F.trans f1).trans f2
    simp [e1, e2, e15, hi, a1, a2, opLoadN, st1, b1, b2, st2, ldx, ldy]
    refine (same_1 (hx1.fr F2) (hy1.fr F2) hxy hx2).mono ?_
    rintro r g3 ⟨rfl, f3⟩
    simp [e0, e1, e2, e15, e16, hi]
    exact F2.trans f3
  · rintro σ ds g ⟨rfl, e0, e15, e1, e2, e16, F⟩
    simp
    exact F

end Go.Dk

namespace Go.Dk
open Go Go.Dr
set_option maxRecDepth 100000

theorem equal_bytes {h : AH} {n : Nat} {va vb : AV} {l : List Nat} (sa : Sl h 1 n va (by8 l)) (sb : Sl h 1 n vb (by8 l)) (hn : n < 2 ^ 62) (K : AV → AH → Prop) :
    Ev P SI (.fn f_slices_Equal_byte_byte) [va, vb] h K = K (.bool true) h := by
  refine Ev.eq (ev_fn k_slices_Equal_byte_byte rfl rfl ?_) K
  have hl : l.length = n := by have := sa.1; simpa using this
  simp [c_slices_Equal_byte_byte, sa.len, sb.len]
  refine w_count (n := n) (by rfl) (fun j σ ds g => ds = [] ∧ σ 0 = va ∧ σ 1 = vb ∧ σ 12 = .int .i64 (n : Int) ∧ g = h) (by omega) (by simp) (by simp) (fun j σ ds g hJ => by simp [hJ.2.2.2.1]) ?_ ?_
  · rintro j σ ds g hj hi ⟨rfl, e0, e1, e12, rfl⟩
    obtain ⟨x, hx⟩ := at_some (l := l) (j := j) (by omega)
    obtain ⟨i1, o1, a1, a2, _⟩ := sa.get1 (k := .i64) (i := (j : Int)) rfl hj (x := .int .u8 (x : Int)) (by rw [by8_get, hx]; rfl)
    obtain ⟨i2, o2, b1, b2, _⟩ := sb.get1 (k := .i64) (i := (j : Int)) rfl hj (x := .int .u8 (x : Int)) (by rw [by8_get, hx]; rfl)
    simp [e0, e1, e12, hi, a1, a2, b1, b2]
  · rintro σ ds g ⟨rfl, e0, e1, e12, rfl⟩
    simp

end Go.Dk

namespace Go.Dk
open Go Go.Dr
set_option maxRecDepth 100000

/-! ### what bytes say, plain -/

/-- so many bytes, and the rest -/
def tk (k : Nat) (r : List Nat) : Option (List Nat × List Nat) := if k ≤ r.length then some (r.take k, r.drop k) else none
/-- a number of so many bytes, and the rest -/
def num (k : Nat) (r : List Nat) : Option (Nat × List Nat) := if k ≤ r.length then some (beV (r.take k), r.drop k) else none

theorem num_tk (k : Nat) (r : List Nat) : num k r = (tk k r).map fun p => (beV p.1, p.2) := by
  unfold num tk
  split <;> rfl

theorem piece_tk (r : List Nat) : piece r = (num 1 r).bind fun p => (tk p.1 p.2).map fun q => (txtOf q.1, q.2) := by
  cases r with
  | nil => rfl
  | cons k t =>
    have h1 : num 1 (k :: t) = some (k, t) := by simp [num, beV]
    rw [h1, Option.bind_some]
    simp only [piece, tk]
    by_cases hk : k ≤ t.length
    · rw [if_pos hk, if_pos hk]; rfl
    · rw [if_neg hk, if_neg hk]; rfl

def rdT : Nat → List Nat → Option (List Txt × List Nat)
  | 0, r => some ([], r)
  | n + 1, r => (piece r).bind fun p => (rdT n p.2).map fun q => (p.1 :: q.1, q.2)

def labAt (T : List Txt) (a b : Nat) : Option Lab := match T[a]?, T[b]? with
  | some x, some y => some (x, y)
  | _, _ => none

def rdL (T : List Txt) : Nat → List Nat → Option (List Lab × List Nat)
  | 0, r => some ([], r)
  | n + 1, r => (num 4 r).bind fun a => (num 4 a.2).bind fun b => (labAt T a.1 b.1).bind fun x => (rdL T n b.2).map fun q => (x :: q.1, q.2)

def s64 (n : Nat) : Int := wrapF .i64 (n : Int)

def rd1 (T : List Txt) (at' : Int) (r : List Nat) : Option (Ep × List Nat) :=
  (num 1 r).bind fun k => (rdL T k.1 k.2).bind fun l => (num 4 l.2).bind fun sz => (num 8 sz.2).bind fun mn => (num 8 mn.2).map fun mx =>
    (⟨l.1, at', s64 sz.1, s64 mn.1, s64 mx.1⟩, mx.2)

def rdE (T : List Txt) : Nat → Int → List Nat → Option (List Ep × List Nat)
  | 0, _, r => some ([], r)
  | n + 1, at', r => (rd1 T at' r).bind fun e => (rdE T n (wrapF .i64 (at' + e.1.sz)) e.2).map fun q => (e.1 :: q.1, q.2)

/-- the entries that bytes say -/
def rdI (b : List Nat) : Option (List Ep) :=
  (num 4 b).bind fun n => (rdT n.1 n.2).bind fun t => (num 4 t.2).bind fun m => (rdE t.1 m.1 0 m.2).map (·.1)

theorem tk_len {k : Nat} {r : List Nat} {p : List Nat × List Nat} (h : tk k r = some p) : p.1.length = k ∧ p.2.length + k = r.length ∧ (∀ y ∈ p.2, y ∈ r) ∧ (∀ y ∈ p.1, y ∈ r) := by
  unfold tk at h
  split at h
  · cases h
    simp only [List.length_take, List.length_drop]
    exact ⟨by omega, by omega, fun y hy => List.mem_of_mem_drop hy, fun y hy => List.mem_of_mem_take hy⟩
  · cases h

theorem num_len {k : Nat} {r : List Nat} {p : Nat × List Nat} (h : num k r = some p) : p.2.length + k = r.length := by
  rw [num_tk] at h
  obtain ⟨q, h1, h2⟩ := Option.map_eq_some_iff.1 h
  cases h2
  exact (tk_len h1).2.1

theorem rdL_len {T : List Txt} : ∀ {n : Nat} {r : List Nat} {p : List Lab × List Nat}, rdL T n r = some p → p.2.length ≤ r.length
  | 0, r, p, h => by cases h; exact Nat.le_refl _
  | n + 1, r, p, h => by
    simp only [rdL] at h
    obtain ⟨a, h1, h⟩ := Option.bind_eq_some_iff.1 h
    obtain ⟨b, h2, h⟩ := Option.bind_eq_some_iff.1 h
    obtain ⟨x, _, h⟩ := Option.bind_eq_some_iff.1 h
    obtain ⟨q, h3, h4⟩ := Option.map_eq_some_iff.1 h
    cases h4
    have := num_len h1
    have := num_len h2
    have := rdL_len h3
    simp only
    omega

theorem rd1_len {T : List Txt} {at' : Int} {r : List Nat} {p : Ep × List Nat} (h : rd1 T at' r = some p) : p.2.length + 1 ≤ r.length := by
  simp only [rd1] at h
  obtain ⟨a, h1, h⟩ := Option.bind_eq_some_iff.1 h
  obtain ⟨b, h2, h⟩ := Option.bind_eq_some_iff.1 h
  obtain ⟨c, h3, h⟩ := Option.bind_eq_some_iff.1 h
  obtain ⟨d, h4, h⟩ := Option.bind_eq_some_iff.1 h
  obtain ⟨e, h5, h6⟩ := Option.map_eq_some_iff.1 h
  cases h6
  have := num_len h1
  have := rdL_len h2
  have := num_len h3
  have := num_len h4
  have := num_len h5
  simp only
  omega

/-! ### a reader's block -/

/-- a reader: the bytes that are left, or bad -/
def SrcO (h g : AH) (id : Nat) (st : Option (List Nat)) : Prop :=
  ∃ w r bad, g.get id = some (.cells [w, .bool bad] false) ∧ id < g.next ∧ h.next ≤ id ∧ Fr h g ∧ Sl h 1 r.length w (by8 r) ∧ r.length ≤ 2 ^ 20 ∧ (∀ y ∈ r, y < 256) ∧ st = if bad = true then none else some r

theorem SrcO.fr {h g g' : AH} {id : Nat} {st : Option (List Nat)} (s : SrcO h g id st) (f : Fr g g') : SrcO h g' id st := by
  obtain ⟨w, r, bad, h1, h2, h3, h4, h5⟩ := s
  exact ⟨w, r, bad, by rw [f.get _ h2, h1], Nat.lt_of_lt_of_le h2 f.next, h3, h4.trans f, h5⟩

theorem SrcO.frB {B : Nat} {h g g' : AH} {id : Nat} {st : Option (List Nat)} (s : SrcO h g id st) (f : FrB B g g') (hid : id < B) : SrcO h g' id st := by
  obtain ⟨w, r, bad, h1, h2, h3, h4, h5⟩ := s
  exact ⟨w, r, bad, by rw [f.get _ hid, h1], Nat.lt_of_lt_of_le h2 f.next, h3, ⟨Nat.le_trans h4.next f.next, fun i hi => by rw [f.get i (by omega), h4.get i hi]⟩, h5⟩

theorem SrcO.set {h g : AH} {id e : Nat} {st : Option (List Nat)} (s : SrcO h g id st) (o : AObj) (he : id < e) : SrcO h (g.set e o) id st := by
  obtain ⟨w, r, bad, h1, h2, h3, h4, h5⟩ := s
  exact ⟨w, r, bad, by rw [get_set_old (by omega), h1], h2, h3, h4.set _ (by omega), h5⟩

theorem SrcO.frame {h g : AH} {id : Nat} {st : Option (List Nat)} (s : SrcO h g id st) : Fr h g := by
  obtain ⟨w, r, bad, h1, h2, h3, h4, h5⟩ := s
  exact h4
theorem SrcO.lt {h g : AH} {id : Nat} {st : Option (List Nat)} (s : SrcO h g id st) : id < g.next := by
  obtain ⟨w, r, bad, h1, h2, h3, h4, h5⟩ := s
  exact h2
theorem SrcO.bad {h g : AH} {id : Nat} {st : Option (List Nat)} (s : SrcO h g id st) : load1 g id 1 = .ok (.bool st.isNone) := by
  obtain ⟨w, r, bad, h1, h2, h3, h4, _, _, _, rfl⟩ := s
  rw [load1_of h1]
  cases bad <;> rfl

def TakeK (h g : AH) (id k : Nat) (st : Option (List Nat)) (ret : AV) (g' : AH) : Prop :=
  FrX id g g' ∧ match st.bind (tk k) with
    | some p => Sl h 1 k ret (by8 p.1) ∧ (∀ y ∈ p.1, y < 256) ∧ SrcO h g' id (some p.2)
    | none => ret = .nils ∧ SrcO h g' id none

theorem source_take {h g : AH} {id k : Nat} {st : Option (List Nat)} (s : SrcO h g id st) : Ev P SI (.fn f_index_source_take) [.ptr id 0, .int .i64 (k : Int)] g (TakeK h g id k st) := by
  refine ev_fn k_index_source_take rfl rfl ?_
  obtain ⟨w, r, bad, hg, hlt, hid, F, sl, hr, h256, rfl⟩ := s
  have l0 : load1 g id 0 = .ok w := load1_of hg
  have l1 : load1 g id 1 = .ok (.bool bad) := load1_of hg
  have hwc := sl.oneCell
  have hwid : ∀ i, idOf w = some i → i < h.next := fun i e => Sl.idLt sl e
  cases bad with
  | true =>
    have s1 := storeN_one (v := .bool true) (off := 1) hg (by simp) rfl
    simp [splice_eq] at s1
    have hg2 : (g.set id (.cells [w, .bool true] false)).get id = some (.cells [w, .bool true] false) := get_set_new _ _
    have l3 : load1 (g.set id (.cells [w, .bool true] false)) id 1 = .ok (.bool true) := load1_of hg2
    simp [c_index_source_take, l0, l1, s1, l3, TakeK]
    exact ⟨⟨Nat.le_refl _, fun i hi hn => get_set_old hn⟩, w, r, true, hg2, hlt, hid, F.set _ hid, sl, hr, h256, by simp⟩
  | false =>
    by_cases hk : k ≤ r.length
    · have hk' : ¬ (r.length : Int) < (k : Int) := by omega
      have s1 := storeN_one (v := .bool false) (off := 1) hg (by simp) rfl
      simp [splice_eq] at s1
      have hg2 : (g.set id (.cells [w, .bool false] false)).get id = some (.cells [w, .bool false] false) := get_set_new _ _
      have l3 : load1 (g.set id (.cells [w, .bool false] false)) id 1 = .ok (.bool false) := load1_of hg2
      have l4 : load1 (g.set id (.cells [w, .bool false] false)) id 0 = .ok w := load1_of hg2
      obtain ⟨u, e1, su⟩ := sl.slice (lo := none) (hi := some (.int .i64 (k : Int))) (a := 0) (b := k) (.inl ⟨rfl, rfl⟩) (.inr ⟨.i64, rfl⟩) (by omega) hk
      obtain ⟨v, e2, sv⟩ := sl.slice (lo := some (.int .i64 (k : Int))) (hi := none) (a := k) (b := r.length) (.inr ⟨.i64, rfl⟩) (.inl ⟨rfl, rfl⟩) hk (Nat.le_refl _)
      rw [Nat.mul_one, Nat.mul_one, by8_drop, by8_take, List.take_of_length_le (by simp)] at sv
      have su' : Sl h 1 k u (by8 (r.take k)) := by simpa [by8_take, by8_drop] using su
      have hvc := sv.oneCell
      have s2 := storeN_one (v := v) (off := 0) hg2 (by simp) hvc.2
      simp [splice_eq] at s2
      have hg3 : ((g.set id (.cells [w, .bool false] false)).set id (.cells [v, .bool false] false)).get id = some (.cells [v, .bool false] false) := get_set_new _ _
      simp [c_index_source_take, l0, l1, sl.len, hk', s1, l3, l4, e1, e2, s2, hvc.1, TakeK, tk, hk]
      refine ⟨⟨Nat.le_refl _, fun i hi hn => by rw [get_set_old hn]⟩, su', fun y hy => h256 y (List.mem_of_mem_take hy), v, r.drop k, false, get_set_new _ _, hlt, hid, F.set _ hid, ?_, ?_, fun y hy => h256 y (List.mem_of_mem_drop hy), by simp⟩
      · rw [List.length_drop]; exact sv
      · rw [List.length_drop]; omega
    · have hk' : (r.length : Int) < (k : Int) := by omega
      have s1 := storeN_one (v := .bool true) (off := 1) hg (by simp) rfl
      simp [splice_eq] at s1
      have hg2 : (g.set id (.cells [w, .bool true] false)).get id = some (.cells [w, .bool true] false) := get_set_new _ _
      have l3 : load1 (g.set id (.cells [w, .bool true] false)) id 1 = .ok (.bool true) := load1_of hg2
      simp [c_index_source_take, l0, l1, sl.len, hk', s1, l3, TakeK, tk, hk]
      exact ⟨⟨Nat.le_refl _, fun i hi hn => get_set_old hn⟩, w, r, true, hg2, hlt, hid, F.set _ hid, sl, hr, h256, by simp⟩

/-- a number that is read -/
def NumK (h g : AH) (id k : Nat) (st : Option (List Nat)) (ret : AV) (g' : AH) : Prop :=
  FrX id g g' ∧ ∃ m, ret = .int .i64 (s64 m) ∧ m < 256 ^ k ∧ match st.bind (num k) with
    | some p => m = p.1 ∧ SrcO h g' id (some p.2)
    | none => SrcO h g' id none

theorem crc_Get_nil (h : AH) (K : AV → AH → Prop) : Ev P SI (.fn f_crc_Get) [.nils] h K = K (.tuple [.int .u64 0, .bool false]) h := by
  refine Ev.eq (ev_fn k_crc_Get rfl rfl ?_) K
  simp [c_crc_Get]

theorem source_number {h g : AH} {id k : Nat} {st : Option (List Nat)} (s : SrcO h g id st) (h1 : 1 ≤ k) (h8 : k ≤ 8) : Ev P SI (.fn f_index_source_number) [.ptr id 0, .int .i64 (k : Int)] g (NumK h g id k st) := by
  refine ev_fn k_index_source_number rfl rfl ?_
  simp [c_index_source_number]
  refine (source_take s).mono ?_
  rintro r g1 ⟨f1, hr⟩
  cases hst : st.bind (tk k) with
  | none =>
    rw [hst] at hr
    obtain ⟨rfl, s1⟩ := hr
    have hn : st.bind (num k) = none := by
      cases st with
      | none => rfl
      | some r => simp only [Option.bind_some] at hst ⊢; rw [num_tk, hst]; rfl
    simp [crc_Get_nil]
    exact ⟨f1, 0, by simp [s64, wrap_i64], Nat.pow_pos (by decide), by rw [hn]; exact s1⟩
  | some p =>
    rw [hst] at hr
    obtain ⟨s0, h256, s1⟩ := hr
    have hn : st.bind (num k) = some (beV p.1, p.2) := by
      cases st with
      | none => cases hst
      | some r => simp only [Option.bind_some] at hst ⊢; rw [num_tk, hst]; rfl
    have hpl : p.1.length = k := by have := s0.1; simpa using this
    have hlt := beV_lt p.1 h256
    rw [hpl] at hlt
    simp [crc_Get (s0.fr s1.frame) h256 h1 h8]
    exact ⟨f1, beV p.1, rfl, hlt, by rw [hn]; exact ⟨rfl, s1⟩⟩

end Go.Dk

namespace Go.Dk
open Go Go.Dr
set_option maxRecDepth 100000

theorem ref13_reader_int {h g : AH} {id k : Nat} {st : Option (List Nat)} (s : SrcO h g id st) (h1 : 1 ≤ k) (h8 : k ≤ 8) : Ev P SI (.fn f_ref13_reader_int) [.ptr id 0, .int .i64 (k : Int)] g (NumK h g id k st) := by
  refine ev_fn k_ref13_reader_int rfl rfl ?_
  obtain ⟨w, r, bad, hg, hlt, hid, F, sl, hr, h256, rfl⟩ := s
  have l0 : load1 g id 0 = .ok w := load1_of hg
  have l1 : load1 g id 1 = .ok (.bool bad) := load1_of hg
  have sg := sl.fr F
  by_cases hk : k ≤ r.length
  · obtain ⟨v', sv, ev⟩ := ref10_Int sg h256 h1 h8 hk
    have sv' := sv h sl
    rw [show r.length - k = (r.drop k).length from by simp] at sv'
    have hvc := sv'.oneCell
    have hlt2 := beV_lt (r.take k) (fun y hy => h256 y (List.mem_of_mem_take hy))
    rw [List.length_take, Nat.min_eq_left hk] at hlt2
    cases bad with
    | true =>
      have s1 := storeN_one (v := .bool true) (off := 1) hg (by simp) rfl
      simp [splice_eq] at s1
      have hg2 : (g.set id (.cells [w, .bool true] false)).get id = some (.cells [w, .bool true] false) := get_set_new _ _
      have s2 := storeN_one (v := v') (off := 0) hg2 (by simp) hvc.2
      simp [splice_eq] at s2
      simp [c_ref13_reader_int, l0, l1, ev, s1, s2, hvc.1, NumK]
      exact ⟨⟨Nat.le_refl _, fun i hi hn => by rw [get_set_old hn]⟩, _, rfl, hlt2, v', r.drop k, true, get_set_new _ _, hlt, hid, F.set _ hid, sv', by rw [List.length_drop]; omega, fun y hy => h256 y (List.mem_of_mem_drop hy), by simp⟩
    | false =>
      have s1 := storeN_one (v := .bool false) (off := 1) hg (by simp) rfl
      simp [splice_eq] at s1
      have hg2 : (g.set id (.cells [w, .bool false] false)).get id = some (.cells [w, .bool false] false) := get_set_new _ _
      have s2 := storeN_one (v := v') (off := 0) hg2 (by simp) hvc.2
      simp [splice_eq] at s2
      simp [c_ref13_reader_int, l0, l1, ev, s1, s2, hvc.1, NumK, num, hk]
      exact ⟨⟨Nat.le_refl _, fun i hi hn => by rw [get_set_old hn]⟩, _, rfl, hlt2, rfl, v', r.drop k, false, get_set_new _ _, hlt, hid, F.set _ hid, sv', by rw [List.length_drop]; omega, fun y hy => h256 y (List.mem_of_mem_drop hy), by simp⟩
  · have ev := ref10_Int_short (k := k) sg (by omega)
    have s1 := storeN_one (v := .bool true) (off := 1) hg (by simp) rfl
    simp [splice_eq] at s1
    have hg2 : (g.set id (.cells [w, .bool true] false)).get id = some (.cells [w, .bool true] false) := get_set_new _ _
    have s2 := storeN_one (v := .nils) (off := 0) hg2 (by simp) rfl
    simp [splice_eq] at s2
    have hK : NumK h g id k (if bad = true then none else some r) (.int .i64 0) (g.set id (.cells [.nils, .bool true] false)) := by
      refine ⟨⟨Nat.le_refl _, fun i hi hn => by rw [get_set_old hn]⟩, 0, by simp [s64, wrap_i64], Nat.pow_pos (by decide), ?_⟩
      have hn : (if bad = true then none else some r).bind (num k) = none := by
        cases bad <;> simp [num, hk]
      rw [hn]
      exact ⟨.nils, [], true, get_set_new _ _, hlt, hid, F.set _ hid, Sl.nil 1, by simp, by simp, by simp⟩
    cases bad with
    | true => simp [c_ref13_reader_int, l0, l1, ev, s1, s2]; exact hK
    | false => simp [c_ref13_reader_int, l0, l1, ev, s1, s2]; exact hK

/-- a text that is read -/
def TextK (h g : AH) (id : Nat) (st : Option (List Nat)) (ret : AV) (g' : AH) : Prop :=
  FrX id g g' ∧ ∃ s : Txt, ret = .str s ∧ s.length ≤ 2 ^ 20 ∧ match st.bind piece with
    | some p => s = p.1 ∧ SrcO h g' id (some p.2)
    | none => SrcO h g' id none

theorem ref13_reader_text {h g : AH} {id : Nat} {st : Option (List Nat)} (s : SrcO h g id st) : Ev P SI (.fn f_ref13_reader_text) [.ptr id 0] g (TextK h g id st) := by
  refine ev_fn k_ref13_reader_text rfl rfl ?_
  obtain ⟨w, r, bad, hg, hlt, hid, F, sl, hr, h256, rfl⟩ := s
  have l0 : load1 g id 0 = .ok w := load1_of hg
  have l1 : load1 g id 1 = .ok (.bool bad) := load1_of hg
  have sg := sl.fr F
  simp only [c_ref13_reader_text, wpC_seq]
  simp [l0]
  refine (ref07_Piece sg (by omega) h256).mono ?_
  rintro ret g1 ⟨rfl, hp⟩
  cases hpr : piece r with
  | some p =>
    rw [hpr] at hp
    obtain ⟨v', rfl, sv⟩ := hp
    have sv' := sv h sl
    have hvc := sv'.oneCell
    have pl := piece_len hpr
    have pm := fun y hy => h256 y (piece_mem hpr y hy)
    have ptl : p.1.length ≤ 2 ^ 20 := by omega
    cases bad with
    | true =>
      have s1 := storeN_one (v := .bool true) (off := 1) hg (by simp) rfl
      simp [splice_eq] at s1
      have hg2 : (g1.set id (.cells [w, .bool true] false)).get id = some (.cells [w, .bool true] false) := get_set_new _ _
      have s2 := storeN_one (v := v') (off := 0) hg2 (by simp) hvc.2
      simp [splice_eq] at s2
      simp [l1, s1, s2, hvc.1, TextK]
      exact ⟨⟨Nat.le_refl _, fun i hi hn => by rw [get_set_old hn]⟩, ptl, v', p.2, true, get_set_new _ _, hlt, hid, F.set _ hid, sv', by omega, pm, by simp⟩
    | false =>
      have s1 := storeN_one (v := .bool false) (off := 1) hg (by simp) rfl
      simp [splice_eq] at s1
      have hg2 : (g1.set id (.cells [w, .bool false] false)).get id = some (.cells [w, .bool false] false) := get_set_new _ _
      have s2 := storeN_one (v := v') (off := 0) hg2 (by simp) hvc.2
      simp [splice_eq] at s2
      simp [l1, s1, s2, hvc.1, TextK, hpr]
      exact ⟨⟨Nat.le_refl _, fun i hi hn => by rw [get_set_old hn]⟩, ptl, v', p.2, false, get_set_new _ _, hlt, hid, F.set _ hid, sv', by omega, pm, by simp⟩
  | none =>
    rw [hpr] at hp
    simp only at hp
    subst hp
    have s1 := storeN_one (v := .bool true) (off := 1) hg (by simp) rfl
    simp [splice_eq] at s1
    have hg2 : (g1.set id (.cells [w, .bool true] false)).get id = some (.cells [w, .bool true] false) := get_set_new _ _
    have s2 := storeN_one (v := .nils) (off := 0) hg2 (by simp) rfl
    simp [splice_eq] at s2
    have hK : TextK h g1 id (if bad = true then none else some r) (.str []) (g1.set id (.cells [.nils, .bool true] false)) := by
      refine ⟨⟨Nat.le_refl _, fun i hi hn => by rw [get_set_old hn]⟩, [], rfl, by simp, ?_⟩
      have hn : (if bad = true then none else some r).bind piece = none := by
        cases bad <;> simp [hpr]
      rw [hn]
      exact ⟨.nils, [], true, get_set_new _ _, hlt, hid, F.set _ hid, Sl.nil 1, by simp, by simp, by simp⟩
    cases bad with
    | true => simp [l1, s1, s2]; exact hK
    | false => simp [l1, s1, s2]; exact hK

/-- a label's places and its texts -/
def lab4 (T : List Txt) (r : List Nat) : Option (Lab × List Nat) := (num 4 r).bind fun a => (num 4 a.2).bind fun b => (labAt T a.1 b.1).map fun x => (x, b.2)

def LabK (h g : AH) (id : Nat) (T : List Txt) (st : Option (List Nat)) (ret : AV) (g' : AH) : Prop :=
  FrX id g g' ∧ ∃ x : Lab, ret = .agg (labC x) ∧ x.1.length ≤ 2 ^ 20 ∧ x.2.length ≤ 2 ^ 20 ∧ match st.bind (lab4 T) with
    | some p => x = p.1 ∧ SrcO h g' id (some p.2)
    | none => SrcO h g' id none

end Go.Dk

namespace Go.Dk
open Go Go.Dr
set_option maxRecDepth 100000

theorem NumK.st {h g g' : AH} {id k : Nat} {st : Option (List Nat)} {ret : AV} (x : NumK h g id k st ret g') :
    FrX id g g' ∧ ∃ m st', ret = .int .i64 (s64 m) ∧ m < 256 ^ k ∧ SrcO h g' id st' ∧ st.bind (num k) = st'.map fun r => (m, r) := by
  obtain ⟨f, m, e, hm, hh⟩ := x
  refine ⟨f, m, ?_⟩
  cases hs : st.bind (num k) with
  | none => rw [hs] at hh; exact ⟨none, e, hm, hh, rfl⟩
  | some p => rw [hs] at hh; obtain ⟨rfl, hh⟩ := hh; exact ⟨some p.2, e, hm, hh, rfl⟩

theorem TextK.st {h g g' : AH} {id : Nat} {st : Option (List Nat)} {ret : AV} (x : TextK h g id st ret g') :
    FrX id g g' ∧ ∃ s st', ret = .str s ∧ s.length ≤ 2 ^ 20 ∧ SrcO h g' id st' ∧ st.bind piece = st'.map fun r => (s, r) := by
  obtain ⟨f, m, e, hm, hh⟩ := x
  refine ⟨f, m, ?_⟩
  cases hs : st.bind piece with
  | none => rw [hs] at hh; exact ⟨none, e, hm, hh, rfl⟩
  | some p => rw [hs] at hh; obtain ⟨rfl, hh⟩ := hh; exact ⟨some p.2, e, hm, hh, rfl⟩

theorem LabK.st {h g g' : AH} {id : Nat} {T : List Txt} {st : Option (List Nat)} {ret : AV} (x : LabK h g id T st ret g') :
    FrX id g g' ∧ ∃ s st', ret = .agg (labC s) ∧ s.1.length ≤ 2 ^ 20 ∧ s.2.length ≤ 2 ^ 20 ∧ SrcO h g' id st' ∧ st.bind (lab4 T) = st'.map fun r => (s, r) := by
  obtain ⟨f, m, e, hm, hm2, hh⟩ := x
  refine ⟨f, m, ?_⟩
  cases hs : st.bind (lab4 T) with
  | none => rw [hs] at hh; exact ⟨none, e, hm, hm2, hh, rfl⟩
  | some p => rw [hs] at hh; obtain ⟨rfl, hh⟩ := hh; exact ⟨some p.2, e, hm, hm2, hh, rfl⟩

theorem s64_small {m : Nat} (h : m < 256 ^ 4) : s64 m = (m : Int) := wrap_i64 (by omega) (by omega)

theorem lab4_two {T : List Txt} {st st1 st2 : Option (List Nat)} {a b : Nat} (h1 : st.bind (num 4) = st1.map fun r => (a, r)) (h2 : st1.bind (num 4) = st2.map fun r => (b, r)) :
    st.bind (lab4 T) = st2.bind fun r => (labAt T a b).map fun x => (x, r) := by
  have e : st.bind (lab4 T) = (st.bind (num 4)).bind fun p => (num 4 p.2).bind fun q => (labAt T p.1 q.1).map fun x => (x, q.2) := by cases st <;> rfl
  rw [e, h1]
  have e2 : ((st1.map fun r => (a, r)).bind fun p => (num 4 p.2).bind fun q => (labAt T p.1 q.1).map fun x => (x, q.2)) = (st1.bind (num 4)).bind fun q => (labAt T a q.1).map fun x => (x, q.2) := by cases st1 <;> rfl
  rw [e2, h2]
  cases st2 <;> rfl

theorem labAt_none {T : List Txt} {a b : Nat} (h : T.length ≤ a ∨ T.length ≤ b) : labAt T a b = none := by
  unfold labAt
  rcases h with h | h
  · rw [List.getElem?_eq_none h]
  · rw [List.getElem?_eq_none h]
    cases T[a]? <;> rfl

theorem store2 {g : AH} {e : Nat} {l2 c : List AV} (hg : g.get e = some (.cells l2 false)) (h2 : l2.length = 2) (hc : c.length = 2) (hs : allScalar c = true) : opStore 2 (.ptr e 0) (.agg c) g = skipH (.ok (g.set e (.cells c false))) := by
  rw [opStore_agg 2 _ _ c hc]
  cases c with
  | nil => simp at hc
  | cons x l => rw [storeN_all hg (by rw [h2]; exact hc.symm) hs]

theorem ref13_reader_label {h g : AH} {id : Nat} {T : List Txt} {tv : AV} {st : Option (List Nat)} (s : SrcO h g id st) (t : Sl g 1 T.length tv (tx T)) (hT : ∀ x ∈ T, x.length ≤ 2 ^ 20) (htv : idOf tv ≠ some id) :
    Ev P SI (.fn f_ref13_reader_label) [.ptr id 0, tv] g (LabK h g id T st) := by
  refine ev_fn k_ref13_reader_label rfl rfl ?_
  have fp := Fr.push (.refl g) (.cells [.str [], .str []] false)
  have gz : (g.push (.cells [.str [], .str []] false)).get g.next = some (.cells [.str [], .str []] false) := get_push_new _
  have gn : (g.push (.cells [.str [], .str []] false)).next = g.next + 1 := rfl
  have hlt := s.lt
  simp only [c_ref13_reader_label, wpC_seq]
  simp
  generalize hg0 : g.push (.cells [.str [], .str []] false) = g0 at *
  have s0 := s.fr fp
  refine (ref13_reader_int (k := 4) s0 (by omega) (by omega)).mono ?_
  intro r g1 hr
  obtain ⟨f1, a, st1, rfl, ha, s1, q1⟩ := hr.st
  rw [s64_small ha]
  simp
  refine (ref13_reader_int (k := 4) s1 (by omega) (by omega)).mono ?_
  intro r g2 hr
  obtain ⟨f2, b, st2, rfl, hb, s2, q2⟩ := hr.st
  rw [s64_small hb]
  have key := lab4_two (T := T) q1 q2
  have f12 := f1.trans f2
  have t2 : Sl g2 1 T.length tv (tx T) := Sl.frX (t.fr fp) f12 htv
  have gz2 : g2.get g.next = some (.cells [.str [], .str []] false) := by rw [f12.get _ (by omega) (by omega), gz]
  have h2n := f12.next
  have tl := t2.len
  by_cases hin : T.length ≤ a ∨ T.length ≤ b
  · rw [labAt_none hin] at key
    have key0 : st.bind (lab4 T) = none := by rw [key]; cases st2 <;> rfl
    obtain ⟨w2, r2, bad2, hc2, hlt2, hid2, F2, sl2, hr2, h256, rfl⟩ := s2
    have s3 := storeN_one (v := .bool true) (off := 1) hc2 (by simp) rfl
    simp [splice_eq] at s3
    have gz3 : (g2.set id (.cells [w2, .bool true] false)).get g.next = some (.cells [.str [], .str []] false) := by rw [get_set_old (by omega), gz2]
    have s4 := store2 gz3 rfl (c := [.str [], .str []]) rfl rfl
    have gx : ((g2.set id (.cells [w2, .bool true] false)).set g.next (.cells [.str [], .str []] false)).get g.next = some (.cells [.str [], .str []] false) := get_set_new _ _
    have ldx := loadN_of gx (n := 2) rfl
    have hK : LabK h g id T st (.agg [.str [], .str []]) ((g2.set id (.cells [w2, .bool true] false)).set g.next (.cells [.str [], .str []] false)) := by
      refine ⟨⟨by show g.next ≤ g2.next; omega, fun i hi hn => ?_⟩, ([], []), rfl, by simp, by simp, ?_⟩
      · rw [get_set_old (by omega), get_set_old hn, f12.get i (by omega) hn, fp.get i hi]
      · rw [key0]
        have : SrcO h (g2.set id (.cells [w2, .bool true] false)) id none := ⟨w2, r2, true, get_set_new _ _, hlt2, hid2, F2.set _ hid2, sl2, hr2, h256, by simp⟩
        exact this.set _ hlt
    by_cases ha2 : T.length ≤ a
    · simp [tl, ha2, s3, s4]
      rw [resS_many (id := g.next) (off := 0) (v := [.str [], .str []]) _ (by simp) ldx]
      simp
      exact hK
    · have hb2 : T.length ≤ b := by omega
      simp [tl, ha2, hb2, s3, s4]
      rw [resS_many (id := g.next) (off := 0) (v := [.str [], .str []]) _ (by simp) ldx]
      simp
      exact hK
  · have ha2 : ¬ T.length ≤ a := by omega
    have hb2 : ¬ T.length ≤ b := by omega
    obtain ⟨x, hx⟩ := at_some (l := T) (j := a) (by omega)
    obtain ⟨y, hy⟩ := at_some (l := T) (j := b) (by omega)
    have hl : labAt T a b = some (x, y) := by simp [labAt, hx, hy]
    rw [hl] at key
    obtain ⟨i1, o1, a1, a2, _⟩ := t2.get1 (k := .i64) (i := (a : Int)) rfl (by omega) (x := .str x) (by simp [tx, hx])
    obtain ⟨i2, o2, b1, b2, _⟩ := t2.get1 (k := .i64) (i := (b : Int)) rfl (by omega) (x := .str y) (by simp [tx, hy])
    have s4 := store2 gz2 rfl (c := [.str x, .str y]) rfl rfl
    have gx : (g2.set g.next (.cells [.str x, .str y] false)).get g.next = some (.cells [.str x, .str y] false) := get_set_new _ _
    have ldx := loadN_of gx (n := 2) rfl
    simp [tl, ha2, hb2, a1, a2, b1, b2, splice_eq, s4]
    rw [resS_many (id := g.next) (off := 0) (v := [.str x, .str y]) _ (by simp) ldx]
    simp
    refine ⟨⟨by show g.next ≤ g2.next; omega, fun i hi hn => ?_⟩, (x, y), rfl, hT x (List.mem_of_getElem? hx), hT y (List.mem_of_getElem? hy), ?_⟩
    · rw [get_set_old (by omega), f12.get i (by omega) hn, fp.get i hi]
    · rw [key]
      cases st2 with
      | none => exact s2.set _ hlt
      | some r => exact ⟨rfl, s2.set _ hlt⟩

/-! ### inside an entry that is read -/

def entC (lv : AV) (at' sz mn mx : Int) : List AV := [lv, .int .i64 at', .int .i64 sz, .int .i64 mn, .int .i64 mx]

structure InE (h g0 g : AH) (id : Nat) (at' sz mn mx : Int) (st : Option (List Nat)) (lv : AV) (ls : List Lab) : Prop where
  src : SrcO h g id st
  fx : FrX id g0 g
  lt : id < g0.next
  up : g0.next < g.next
  cells : g.get g0.next = some (.cells (entC lv at' sz mn mx) false)
  own : Own (g0.next + 1) g 2 ls.length lv (ls.flatMap labC)
  short : ∀ x ∈ ls, x.1.length ≤ 2 ^ 20 ∧ x.2.length ≤ 2 ^ 20

theorem InE.start {h g : AH} {id : Nat} {st : Option (List Nat)} (s : SrcO h g id st) (at' : Int) : InE h g (g.push (.cells (entC .nils at' 0 0 0) false)) id at' 0 0 0 st .nils [] :=
  ⟨s.fr (Fr.push (.refl g) _), Fr.x (Fr.push (.refl g) _), s.lt, Nat.lt_succ_self _, get_push_new _, by simpa using Own.nil _ _, fun x hx => by simp at hx⟩

theorem InE.step {h g0 g g' : AH} {id : Nat} {at' sz mn mx : Int} {st st' : Option (List Nat)} {lv : AV} {ls : List Lab} (i : InE h g0 g id at' sz mn mx st lv ls) (f : FrX id g g') (s : SrcO h g' id st') : InE h g0 g' id at' sz mn mx st' lv ls := by
  have h1 := i.up
  have h2 := i.lt
  have h3 := f.next
  exact ⟨s, i.fx.trans f, i.lt, by omega, by rw [f.get _ h1 (by omega), i.cells], Own.frX i.own f (by omega), i.short⟩

theorem InE.put {h g0 g : AH} {id : Nat} {at' sz mn mx : Int} {st : Option (List Nat)} {lv : AV} {ls : List Lab} (i : InE h g0 g id at' sz mn mx st lv ls) (sz' mn' mx' : Int) : InE h g0 (g.set g0.next (.cells (entC lv at' sz' mn' mx') false)) id at' sz' mn' mx' st lv ls := by
  have h1 := i.up
  have h2 := i.lt
  exact ⟨i.src.set _ h2, ⟨i.fx.next, fun j hj hn => by rw [get_set_old (by omega), i.fx.get j hj hn]⟩, i.lt, i.up, get_set_new _ _, i.own.set _ (i.own.ne (by omega)), i.short⟩

/-- one label more -/
theorem InE.lab {h g0 g : AH} {id : Nat} {at' sz mn mx : Int} {st : Option (List Nat)} {lv : AV} {ls : List Lab} (i : InE h g0 g id at' sz mn mx st lv ls) {x : Lab} (h1 : x.1.length ≤ 2 ^ 20) (h2 : x.2.length ≤ 2 ^ 20) (hn : ls.length ≤ 2 ^ 20) :
    ∃ lv' g1, opApp 2 32 lv (.slice g.next 0 1 1 true 2) (g.push (.cells (labC x) false)) = okV lv' g1 ∧ lv'.cells = [lv'] ∧
      opStore 1 (.ptr g0.next 0) lv' g1 = skipH (.ok (g1.set g0.next (.cells (entC lv' at' sz mn mx) false))) ∧ InE h g0 (g1.set g0.next (.cells (entC lv' at' sz mn mx) false)) id at' sz mn mx st lv' (ls ++ [x]) := by
  have u := i.up
  have l := i.lt
  obtain ⟨lv', g1, e, o, f⟩ := i.own.snoc (bytes := 32) (x := labC x) (by omega) rfl rfl (by omega) (by omega)
  have hc := o.sl.oneCell
  have hg1 : g1.get g0.next = some (.cells (entC lv at' sz mn mx) false) := by rw [f.get _ (by omega), i.cells]
  have s1 := storeN_one (v := lv') (off := 0) hg1 (by simp [entC]) hc.2
  simp [splice_eq, entC] at s1
  have hn1 := f.next
  refine ⟨lv', g1, e, hc.1, by simp [s1, hc.1, entC], ⟨(i.src.frB f (by omega)).set _ l, ⟨by show g0.next ≤ g1.next; omega, fun j hj hn => by rw [get_set_old (by omega), f.get j (by omega), i.fx.get j hj hn]⟩, l, by show g0.next < g1.next; omega, get_set_new _ _, ?_, ?_⟩⟩
  · refine Own.set ?_ _ (o.ne (by omega))
    rw [List.length_append, List.flatMap_append]
    simpa using o
  · intro y hy
    rcases List.mem_append.1 hy with hy | hy
    · exact i.short y hy
    · simp at hy
      subst hy
      exact ⟨h1, h2⟩

/-- the entry, put behind the others -/
theorem InE.fin {h g0 g : AH} {id B : Nat} {at' sz mn mx : Int} {st : Option (List Nat)} {lv acc : AV} {ls : List Lab} {xs : List (AV × Ep)} (i : InE h g0 g id at' sz mn mx st lv ls) (ha : AccI B g0 acc xs) (hid : id < B) (hB : B ≤ g0.next) (hn : xs.length ≤ 2 ^ 21) (hl : ls.length ≤ 2 ^ 20) :
    ∃ acc' g', loadN g g0.next 0 5 = .ok (entC lv at' sz mn mx) ∧ opApp 5 56 acc (.slice g.next 0 1 1 true 5) (g.push (.cells (entC lv at' sz mn mx) false)) = okV acc' g' ∧
      AccI B g' acc' (xs ++ [(lv, ⟨ls, at', sz, mn, mx⟩)]) ∧ SrcO h g' id st ∧ FrB B g g' := by
  have u := i.up
  have l := i.lt
  have ha2 : AccI B g acc xs := ha.frX i.fx hid
  have hlv : ∀ j, idOf lv = some j → g0.next < j := fun j e => by
    by_cases hj : j < g0.next + 1
    · exact absurd e (i.own.ne hj)
    · omega
  obtain ⟨acc', g', e, a', f, _, _⟩ := ha2.snoc (by omega) (x := (lv, ⟨ls, at', sz, mn, mx⟩)) i.own.sl (fun j e => ⟨by have := hlv j e; omega, fun e2 => by have := Sl.idLt ha.1.sl e2; have := hlv j e; omega⟩) (fun y hy => by have := i.short y hy; omega) (by show ls.length < _; omega) (by omega)
  exact ⟨acc', g', loadN_of i.cells (n := 5) rfl, e, a', i.src.frB f hid, f⟩

end Go.Dk

namespace Go.Dk
open Go Go.Dr
set_option maxRecDepth 100000

theorem TakeK.st {h g g' : AH} {id k : Nat} {st : Option (List Nat)} {ret : AV} (x : TakeK h g id k st ret g') :
    FrX id g g' ∧ ∃ l st', Sl g' 1 l.length ret (by8 l) ∧ (l.length = k ∨ l = []) ∧ SrcO h g' id st' ∧ st.bind (tk k) = st'.map fun r => (l, r) := by
  obtain ⟨f, hh⟩ := x
  refine ⟨f, ?_⟩
  cases hs : st.bind (tk k) with
  | none => rw [hs] at hh; obtain ⟨rfl, hh⟩ := hh; exact ⟨[], none, Sl.nil 1, .inr rfl, hh, rfl⟩
  | some p =>
    rw [hs] at hh
    obtain ⟨h1, h2, hh⟩ := hh
    have hl : p.1.length = k := by have := h1.1; simpa using this
    exact ⟨p.1, some p.2, by rw [hl]; exact h1.fr hh.frame, .inl hl, hh, rfl⟩

theorem SrcO.bads {h g : AH} {id : Nat} {st : Option (List Nat)} (s : SrcO h g id st) : ∃ w, (∀ c, storeN g id 1 [.bool c] = .ok (g.set id (.cells [w, .bool c] false))) ∧ SrcO h (g.set id (.cells [w, .bool true] false)) id none ∧
    (∀ r, st = some r → SrcO h (g.set id (.cells [w, .bool false] false)) id st) ∧ ∀ c, FrX id g (g.set id (.cells [w, .bool c] false)) := by
  obtain ⟨w, r, bad, hg, hlt, hid, F, sl, hr, h256, rfl⟩ := s
  refine ⟨w, fun c => ?_, ⟨w, r, true, get_set_new _ _, hlt, hid, F.set _ hid, sl, hr, h256, by simp⟩, fun r' hr' => ?_, fun c => ⟨Nat.le_refl _, fun i hi hn => get_set_old hn⟩⟩
  · have s1 := storeN_one (v := .bool c) (off := 1) hg (by simp) rfl
    simpa [splice_eq] using s1
  · cases bad with
    | true => cases hr'
    | false => exact ⟨w, r, false, get_set_new _ _, hlt, hid, F.set _ hid, sl, hr, h256, by simp⟩

theorem SrcO.len {h g : AH} {id : Nat} {r : List Nat} (s : SrcO h g id (some r)) : r.length ≤ 2 ^ 20 := by
  obtain ⟨w, r2, bad, hg, hlt, hid, F, sl, hr, h256, e⟩ := s
  cases bad with
  | true => cases e
  | false => cases e; exact hr

theorem piece_two {r : List Nat} {st1 st2 : Option (List Nat)} {k : Nat} {x : List Nat} (h1 : num 1 r = st1.map fun r => (k, r)) (h2 : st1.bind (tk k) = st2.map fun r => (x, r)) : piece r = st2.map fun r => (txtOf x, r) := by
  rw [piece_tk, h1]
  have e : ((st1.map fun r => (k, r)).bind fun p => (tk p.1 p.2).map fun q => (txtOf q.1, q.2)) = (st1.bind (tk k)).map fun q => (txtOf q.1, q.2) := by cases st1 <;> rfl
  rw [e, h2]
  cases st2 <;> rfl

theorem rdT_step {q : Nat} {r : List Nat} {ts : List Txt} {s : Txt} {st : Option (List Nat)} (h : piece r = st.map fun r => (s, r)) :
    ((rdT (q + 1) r).map fun p => (ts ++ p.1, p.2)) = st.bind fun r => (rdT q r).map fun p => ((ts ++ [s]) ++ p.1, p.2) := by
  rw [rdT, h]
  cases st with
  | none => rfl
  | some r =>
    simp only [Option.map_some, Option.bind_some]
    cases rdT q r <;> simp

theorem rdL_lab4 (T : List Txt) (q : Nat) (r : List Nat) : rdL T (q + 1) r = (lab4 T r).bind fun p => (rdL T q p.2).map fun z => (p.1 :: z.1, z.2) := by
  rw [rdL, lab4]
  cases num 4 r with
  | none => rfl
  | some a =>
    simp only [Option.bind_some]
    cases num 4 a.2 with
    | none => rfl
    | some b =>
      simp only [Option.bind_some]
      cases labAt T a.1 b.1 <;> rfl

theorem rdL_step {T : List Txt} {q : Nat} {r : List Nat} {ls : List Lab} {x : Lab} {st : Option (List Nat)} (h : lab4 T r = st.map fun r => (x, r)) :
    ((rdL T (q + 1) r).map fun p => (ls ++ p.1, p.2)) = st.bind fun r => (rdL T q r).map fun p => ((ls ++ [x]) ++ p.1, p.2) := by
  rw [rdL_lab4, h]
  cases st with
  | none => rfl
  | some r =>
    simp only [Option.map_some, Option.bind_some]
    cases rdL T q r <;> simp

theorem rdE_step {T : List Txt} {q : Nat} {at' : Int} {r : List Nat} {es : List Ep} {x : Ep} {st : Option (List Nat)} (h : rd1 T at' r = st.map fun r => (x, r)) :
    ((rdE T (q + 1) at' r).map fun p => (es ++ p.1, p.2)) = st.bind fun r => (rdE T q (wrapF .i64 (at' + x.sz)) r).map fun p => ((es ++ [x]) ++ p.1, p.2) := by
  rw [rdE, h]
  cases st with
  | none => rfl
  | some r =>
    simp only [Option.map_some, Option.bind_some]
    cases rdE T q (wrapF .i64 (at' + x.sz)) r <;> simp

theorem rd1_of {T : List Txt} {at' : Int} {r : List Nat} {ls : List Lab} {a b c : Nat} {s0 s1 s2 s3 : Option (List Nat)} (h0 : ((num 1 r).bind fun k => rdL T k.1 k.2) = s0.map fun r => (ls, r))
    (h1 : s0.bind (num 4) = s1.map fun r => (a, r)) (h2 : s1.bind (num 8) = s2.map fun r => (b, r)) (h3 : s2.bind (num 8) = s3.map fun r => (c, r)) :
    rd1 T at' r = s3.map fun r => (⟨ls, at', s64 a, s64 b, s64 c⟩, r) := by
  have e : rd1 T at' r = ((num 1 r).bind fun k => rdL T k.1 k.2).bind fun l => (num 4 l.2).bind fun sz => (num 8 sz.2).bind fun mn => (num 8 mn.2).map fun mx => (⟨l.1, at', s64 sz.1, s64 mn.1, s64 mx.1⟩, mx.2) := by
    rw [rd1]
    cases num 1 r <;> rfl
  rw [e, h0]
  have e1 : ((s0.map fun r => (ls, r)).bind fun l => (num 4 l.2).bind fun sz => (num 8 sz.2).bind fun mn => (num 8 mn.2).map fun mx => ((⟨l.1, at', s64 sz.1, s64 mn.1, s64 mx.1⟩ : Ep), mx.2)) =
      (s0.bind (num 4)).bind fun sz => (num 8 sz.2).bind fun mn => (num 8 mn.2).map fun mx => (⟨ls, at', s64 sz.1, s64 mn.1, s64 mx.1⟩, mx.2) := by cases s0 <;> rfl
  rw [e1, h1]
  have e2 : ((s1.map fun r => (a, r)).bind fun sz => (num 8 sz.2).bind fun mn => (num 8 mn.2).map fun mx => ((⟨ls, at', s64 sz.1, s64 mn.1, s64 mx.1⟩ : Ep), mx.2)) =
      (s1.bind (num 8)).bind fun mn => (num 8 mn.2).map fun mx => (⟨ls, at', s64 a, s64 mn.1, s64 mx.1⟩, mx.2) := by cases s1 <;> rfl
  rw [e2, h2]
  have e3 : ((s2.map fun r => (b, r)).bind fun mn => (num 8 mn.2).map fun mx => ((⟨ls, at', s64 a, s64 mn.1, s64 mx.1⟩ : Ep), mx.2)) = (s2.bind (num 8)).map fun mx => (⟨ls, at', s64 a, s64 b, s64 mx.1⟩, mx.2) := by cases s2 <;> rfl
  rw [e3, h3]
  cases s3 <;> rfl

/-- how many bytes are left, at most -/
def Left (n k : Nat) (st : Option (List Nat)) : Prop := ∀ r, st = some r → k + r.length ≤ n

theorem Left.map {α : Type} {n k j : Nat} {st : Option (List Nat)} {r : List Nat} {f : List Nat → Option (α × List Nat)} {x : α} (l : k + r.length ≤ n) (h : f r = st.map fun r => (x, r)) (hf : ∀ p, f r = some p → p.2.length + j ≤ r.length) : Left n (k + j) st := by
  intro r' e
  subst e
  have := hf _ h
  simp only at this
  omega

theorem Left.bind {α : Type} {n k j : Nat} {st st' : Option (List Nat)} {f : List Nat → Option (α × List Nat)} {x : α} (l : Left n k st) (h : st.bind f = st'.map fun r => (x, r)) (hf : ∀ r p, f r = some p → p.2.length + j ≤ r.length) : Left n (k + j) st' := by
  cases st with
  | none =>
    intro r' e
    subst e
    cases h
  | some r => exact Left.map (l r rfl) h (hf r)

/-- what Decode answers -/
def DecIK (h : AH) (b : List Nat) (r : AV) (g : AH) : Prop :=
  Fr h g ∧ match rdI b with
    | some l => if canE l = true ∧ bytesI l = b then ∃ (v : AV) (xs : List (AV × Ep)), r = .tuple [v, .int .i64 0] ∧ xs.map (·.2) = l ∧ Sl g 5 xs.length v (xs.flatMap enC) ∧ xs.length ≤ 2 ^ 20 ∧ (∀ x ∈ xs, EnOk g x ∧ Short x.2.ls ∧ x.2.ls.length < 2 ^ 62) else r = .tuple [.nils, .int .i64 5]
    | none => r = .tuple [.nils, .int .i64 5]

theorem bytesI_256 (l : List Ep) : ∀ x ∈ bytesI l, x < 256 := by
  intro x hx
  obtain ⟨it, _, h⟩ := List.mem_flatMap.1 hx
  cases it with
  | t s =>
    simp only [itB, List.mem_cons] at h
    rcases h with rfl | h
    · omega
    · simp only [bT, List.mem_map] at h
      obtain ⟨y, _, rfl⟩ := h
      exact y.toNat_lt
  | w n k => exact be_lt _ _ x h
  | p l =>
    simp only [itB, List.mem_append, List.mem_flatMap] at h
    rcases h with h | ⟨y, _, h⟩
    · exact be_lt _ _ x h
    · exact be_lt _ _ x h

theorem rdI_eq (b : List Nat) : rdI b = (((num 4 b).bind fun n => rdT n.1 n.2).bind fun t => (num 4 t.2).bind fun m => rdE t.1 m.1 0 m.2).map (·.1) := by
  unfold rdI
  cases num 4 b with
  | none => rfl
  | some n =>
    simp only [Option.bind_some]
    cases rdT n.1 n.2 with
    | none => rfl
    | some t =>
      simp only [Option.bind_some]
      cases num 4 t.2 <;> rfl

end Go.Dk

namespace Go.Dk
open Go Go.Dr
set_option maxRecDepth 100000

/-- texts, so far; q more to come -/
def TxJ (h g0 : AH) (id n : Nat) (b : List Nat) (q : Nat) (tv : AV) (g : AH) : Prop :=
  ∃ st ts, SrcO h g id st ∧ FrX id g0 g ∧ Own (id + 1) g 1 ts.length tv (tx ts) ∧ (∀ x ∈ ts, x.length ≤ 2 ^ 20) ∧
    ((num 4 b).bind fun n => rdT n.1 n.2) = (st.bind fun r => (rdT q r).map fun p => (ts ++ p.1, p.2)) ∧ Left n ts.length st

/-- texts, all -/
def TxE (h g0 : AH) (id n : Nat) (b : List Nat) (tv : AV) (g : AH) : Prop :=
  ∃ st ts, SrcO h g id st ∧ FrX id g0 g ∧ Own (id + 1) g 1 ts.length tv (tx ts) ∧ (∀ x ∈ ts, x.length ≤ 2 ^ 20) ∧
    ((num 4 b).bind fun n => rdT n.1 n.2) = st.map (fun r => (ts, r)) ∧ Left n 0 st

/-- labels, so far; q more to come -/
def LbJ (h g0 : AH) (id n : Nat) (T : List Txt) (RL : Option (List Lab × List Nat)) (q : Nat) (at' : Int) (g : AH) : Prop :=
  ∃ st ls lv, InE h g0 g id at' 0 0 0 st lv ls ∧ RL = (st.bind fun r => (rdL T q r).map fun p => (ls ++ p.1, p.2)) ∧ ls.length + q ≤ 256

def LbE (h g0 : AH) (id : Nat) (RL : Option (List Lab × List Nat)) (at' : Int) (g : AH) : Prop :=
  ∃ st ls lv, InE h g0 g id at' 0 0 0 st lv ls ∧ RL = (st.map fun r => (ls, r)) ∧ ls.length ≤ 256

/-- entries, so far; q more to come -/
def EnJ (h gT : AH) (id n : Nat) (T : List Txt) (RE : Option (List Ep × List Nat)) (q : Nat) (at' : Int) (acc : AV) (g : AH) : Prop :=
  ∃ st xs, SrcO h g id st ∧ FrX id gT g ∧ AccI gT.next g acc xs ∧ RE = (st.bind fun r => (rdE T q at' r).map fun p => (xs.map (·.2) ++ p.1, p.2)) ∧ Left n xs.length st ∧ xs.length ≤ n + 1

def EnE (h gT : AH) (id n : Nat) (RE : Option (List Ep × List Nat)) (acc : AV) (g : AH) : Prop :=
  ∃ st xs, SrcO h g id st ∧ FrX id gT g ∧ AccI gT.next g acc xs ∧ RE = (st.map fun r => (xs.map (·.2), r)) ∧ xs.length ≤ n + 1

theorem FrX.b {id : Nat} {g g' : AH} {B : Nat} (f : FrB B g g') (g0 : AH) (h : g0.next ≤ B) (hx : FrX id g0 g) : FrX id g0 g' :=
  ⟨Nat.le_trans hx.next f.next, fun i hi hn => by rw [f.get i (by omega), hx.get i hi hn]⟩

theorem index_Decode {h : AH} {n : Nat} {v : AV} {b : List Nat} (s : Sl h 1 n v (by8 b)) (hn : n ≤ 800) (hb : ∀ x ∈ b, x < 256) : Ev P SI (.fn f_index_Decode) [v] h (DecIK h b) := by
  refine ev_fn k_index_Decode rfl rfl ?_
  have hbl : b.length = n := by have := s.1; simpa using this
  have hc := s.oneCell
  have f0 := Fr.push (.refl h) (.cells [v, .bool false] false)
  have s0 : SrcO h (h.push (.cells [v, .bool false] false)) h.next (some b) := ⟨v, b, false, get_push_new _, Nat.lt_succ_self _, Nat.le_refl _, f0, by rw [hbl]; exact s, by omega, hb, by simp⟩
  obtain ⟨id, hid⟩ : ∃ id, h.next = id := ⟨_, rfl⟩
  simp [c_index_Decode, hc.1, splice_eq]
  generalize hg0 : h.push (.cells [v, .bool false] false) = g0 at *
  rw [hid] at s0 ⊢
  refine (source_number (k := 4) s0 (by omega) (by omega)).mono ?_
  intro r g1 hr
  obtain ⟨f1, m0, st1, rfl, hm0, s1, q1⟩ := hr.st
  rw [s64_small hm0]
  rw [Option.bind_some] at q1
  have l1 : Left n 0 st1 := by
    have := Left.map (n := n) (k := 0) (j := 0) (by omega) q1 (fun p hp => by have := num_len hp; omega)
    simpa using this
  simp
  refine w_mono (Q := fun x σ ds g => x = .exit 0 ∧ ds = [] ∧ σ 0 = v ∧ σ 4 = .ptr id 0 ∧ TxE h g0 id n b (σ 5) g) ?_ ?_
  · refine w_loop (fun q σ ds g => ds = [] ∧ σ 0 = v ∧ σ 4 = .ptr id 0 ∧ σ 6 = .int .i64 (q : Int) ∧ q < 256 ^ 4 ∧ TxJ h g0 id n b q (σ 5) g) m0
      ⟨rfl, by simp, by simp, by simp, hm0, st1, [], s1, f1, by simpa [tx] using Own.nil _ _, fun x hx => by simp at hx, by rw [q1]; cases st1 <;> simp, l1⟩ ?_
    rintro q σ ds g ⟨rfl, e0, e4, e6, hq, st, ts, S, F, O, hs, R, L⟩
    have Sb := S.bad
    by_cases hq0 : q = 0
    · subst hq0
      simp [e6, e0, e4]
      exact ⟨st, ts, S, F, O, hs, by rw [R]; cases st <;> simp [rdT], fun r e => by have := L r e; omega⟩
    have hq0' : 0 < q := by omega
    cases st with
    | none =>
      simp at Sb
      simp [e6, e0, e4, hq0', Sb]
      exact ⟨none, ts, S, F, O, hs, by rw [R]; rfl, fun r e => by cases e⟩
    | some r =>
      simp at Sb
      generalize h5 : σ 5 = tv at *
      have L0 := L r rfl
      simp [e6, e4, hq0', Sb, h5]
      refine (source_number (k := 1) S (by omega) (by omega)).mono ?_
      intro r1 g2 hr
      obtain ⟨f2, k, sa, rfl, hk, S2, q2⟩ := hr.st
      rw [s64_small (by omega)]
      simp [e4]
      refine (source_take S2).mono ?_
      intro r1 g3 hr
      obtain ⟨f3, x, sb, sx, hx, S3, q3⟩ := hr.st
      have cs := conv_strB sx
      have f23 := f2.trans f3
      have hid3 := S3.lt
      have O3 := Own.frX O f23 (by omega)
      obtain ⟨tv', g4, ap, O4, fb⟩ := O3.snoc (bytes := 16) (x := [.str (txtOf x)]) (by omega) rfl rfl (by omega) (by omega)
      have hp := piece_two q2 q3
      have wq : wrapF .i64 ((q : Int) - 1) = ((q - 1 : Nat) : Int) := by rw [wrap_i64 (by omega) (by omega)]; omega
      have hqq : q = (q - 1) + 1 := by omega
      simp [cs, splice_eq, ap, h5, e6, wq, e0, e4, Kloop_normal]
      have hg0n : g0.next = id + 1 := by rw [← hg0, ← hid]; rfl
      refine ⟨q - 1, by omega, rfl, by omega, sb, ts ++ [txtOf x], S3.frB fb (by omega), FrX.b fb g0 (by omega) (F.trans f23), by simpa [tx] using O4, ?_, ?_, ?_⟩
      · intro y hy
        rcases List.mem_append.1 hy with hy | hy
        · exact hs y hy
        · simp at hy
          subst hy
          have : (txtOf x).length = x.length := by simp [txtOf]
          rw [this]
          rcases hx with hx | hx
          · omega
          · rw [hx]; simp
      · have h2 := rdT_step (ts := ts) (q := q - 1) hp
        rw [← hqq] at h2
        rw [R, Option.bind_some, h2]
      · rw [List.length_append]
        exact Left.map L0 hp (fun p hp => by have := piece_len hp; simp only [List.length_cons, List.length_nil]; omega)
  · rintro x σ ds g ⟨rfl, rfl, e0, e4, st, ts, S, F, O, hs, R, L⟩
    generalize h5 : σ 5 = tv at *
    simp [e0, e4, h5]
    refine (source_number (k := 4) S (by omega) (by omega)).mono ?_
    intro r gT hr
    obtain ⟨fT, m, stB, rfl, hm, SB, qB⟩ := hr.st
    rw [s64_small hm]
    have LB : Left n 0 stB := by
      have := Left.bind (j := 0) L qB (fun r p hp => by have := num_len hp; omega)
      simpa using this
    have hidT := SB.lt
    have sT : Sl gT 1 ts.length tv (tx ts) := (Own.frX O fT (by omega)).sl
    have htv : ∀ i, idOf tv = some i → id < i := fun i e => by
      by_cases hi : i < id + 1
      · exact absurd e (O.ne hi)
      · omega
    have FT := F.trans fT
    have R1 : (((num 4 b).bind fun n => rdT n.1 n.2).bind fun t => (num 4 t.2).bind fun m => rdE t.1 m.1 0 m.2) = stB.bind fun r => rdE ts m 0 r := by
      rw [R]
      have e : ((st.map fun r => (ts, r)).bind fun t => (num 4 t.2).bind fun m => rdE t.1 m.1 0 m.2) = (st.bind (num 4)).bind fun m => rdE ts m.1 0 m.2 := by cases st <;> rfl
      rw [e, qB]
      cases stB <;> rfl
    simp [e0, e4]
    obtain ⟨RE, hRE⟩ : ∃ RE, RE = (((num 4 b).bind fun n => rdT n.1 n.2).bind fun t => (num 4 t.2).bind fun m => rdE t.1 m.1 0 m.2) := ⟨_, rfl⟩
    rw [← hRE] at R1
    refine w_mono (Q := fun x σ ds g => x = .exit 2 ∧ ds = [] ∧ σ 0 = v ∧ σ 4 = .ptr id 0 ∧ EnE h gT id n RE (σ 7) g) ?_ ?_
    · refine w_loop (fun q σ ds g => ds = [] ∧ σ 0 = v ∧ σ 4 = .ptr id 0 ∧ σ 5 = tv ∧ σ 9 = .int .i64 (q : Int) ∧ q < 256 ^ 4 ∧ ∃ at', σ 8 = .int .i64 at' ∧ EnJ h gT id n ts RE q at' (σ 7) g) m
        ⟨rfl, by simp [e0], by simp [e4], by simp [h5], by simp, hm, 0, by simp, stB, [], SB, .refl _ _, by simpa using AccI.nil _ _, by rw [R1]; cases stB <;> simp, LB, by simp⟩ ?_
      clear R1 LB SB qB hm hr
      rintro q σ ds g ⟨rfl, e0, e4, e5, e9, hq, at', e8, st, xs, S, FX, A, R1, L, hxl⟩
      have Sb := S.bad
      generalize h7 : σ 7 = acc at *
      by_cases hq0 : q = 0
      · subst hq0
        simp [e9, e0, e4, h7]
        exact ⟨st, xs, S, FX, A, by rw [R1]; cases st <;> simp [rdE], hxl⟩
      have hq0' : 0 < q := by omega
      cases st with
      | none =>
        simp at Sb
        simp [e9, e0, e4, hq0', Sb, h7]
        exact ⟨none, xs, S, FX, A, by rw [R1]; rfl, hxl⟩
      | some r =>
        simp at Sb
        have L0 := L r rfl
        have hx1 : (xs.length : Int) ≤ 100000 := by omega
        have I0 := InE.start S at'
        simp only [entC] at I0
        simp [e4, e8, e9, hq0', Sb, h7, A.1.sl.len, hx1, splice_eq]
        generalize hgE : g.push (.cells [.nils, .int .i64 at', .int .i64 0, .int .i64 0, .int .i64 0] false) = gE at *
        refine (source_number (k := 1) I0.src (by omega) (by omega)).mono ?_
        intro r1 g2 hr
        obtain ⟨f2, k, sa, rfl, hk, S2, q2⟩ := hr.st
        rw [s64_small (by omega)]
        have I2 := I0.step f2 S2
        rw [Option.bind_some] at q2
        obtain ⟨RL, hRL⟩ : ∃ RL, RL = ((num 1 r).bind fun k => rdL ts k.1 k.2) := ⟨_, rfl⟩
        have RL0 : RL = (sa.bind fun r => (rdL ts k r).map fun p => (([] : List Lab) ++ p.1, p.2)) := by rw [hRL, q2]; cases sa <;> simp
        simp [e4]
        refine w_mono (Q := fun x σ' ds g' => x = .exit 4 ∧ ds = [] ∧ σ' 0 = v ∧ σ' 4 = .ptr id 0 ∧ σ' 5 = tv ∧ σ' 7 = acc ∧ σ' 8 = .int .i64 at' ∧ σ' 9 = .int .i64 (q : Int) ∧ σ' 10 = .ptr g.next 0 ∧ LbE h g id RL at' g') ?_ ?_
        · refine w_loop (fun q3 σ' ds g' => ds = [] ∧ σ' 0 = v ∧ σ' 4 = .ptr id 0 ∧ σ' 5 = tv ∧ σ' 7 = acc ∧ σ' 8 = .int .i64 at' ∧ σ' 9 = .int .i64 (q : Int) ∧ σ' 10 = .ptr g.next 0 ∧ σ' 11 = .int .i64 (q3 : Int) ∧ LbJ h g id n ts RL q3 at' g') k
            ⟨rfl, by simp [e0], by simp [e4], by simp [e5], by simp [h7], by simp [e8], by simp [e9], by simp, by simp, sa, [], .nils, I2, RL0, by simp; omega⟩ ?_
          clear RL0 I2 S2 q2 hk hr f2 I0
          rintro q3 σ' ds g' ⟨rfl, e0, e4, e5, e7, e8, e9, e10, e11, st, ls, lv, I, R3, hl3⟩
          have Sb := I.src.bad
          by_cases hq0 : q3 = 0
          · subst hq0
            simp [e0, e4, e5, e7, e8, e9, e10, e11]
            exact ⟨st, ls, lv, I, by rw [R3]; cases st <;> simp [rdL], by omega⟩
          have hq0' : 0 < q3 := by omega
          cases st with
          | none =>
            simp at Sb
            simp [e0, e4, e5, e7, e8, e9, e10, e11, hq0', Sb]
            exact ⟨none, ls, lv, I, by rw [R3]; rfl, by omega⟩
          | some r3 =>
            simp at Sb
            simp [e4, e11, hq0', Sb]
            refine (source_number (k := 4) I.src (by omega) (by omega)).mono ?_
            intro r1 g3 hr
            obtain ⟨f3, a, sb, rfl, ha, S3, q4⟩ := hr.st
            rw [s64_small ha]
            simp [e4]
            refine (source_number (k := 4) S3 (by omega) (by omega)).mono ?_
            intro r1 g4 hr
            obtain ⟨f4, c, sc, rfl, hc, S4, q5⟩ := hr.st
            rw [s64_small hc]
            have I4 := (I.step f3 S3).step f4 S4
            have key := lab4_two (T := ts) q4 q5
            rw [Option.bind_some] at key
            have Sb4 := S4.bad
            obtain ⟨w, B1, B2, B3, B4⟩ := S4.bads
            have wq3 : wrapF .i64 ((q3 : Int) - 1) = ((q3 - 1 : Nat) : Int) := by rw [wrap_i64 (by omega) (by omega)]; omega
            have hqq : q3 = (q3 - 1) + 1 := by omega
            cases sc with
            | none =>
              simp at Sb4
              have B2b := B2.bad
              simp at B2b
              simp [Sb4, B1, e4, B2b, e11, wq3, Kloop_normal]
              refine ⟨q3 - 1, by omega, e0, e5, e7, e8, e9, e10, rfl, none, ls, lv, I4.step (B4 true) B2, ?_, by omega⟩
              have h2 := rdL_step (st := none) (x := ([], [])) (ls := ls) (q := q3 - 1) (by rw [key]; rfl)
              rw [← hqq] at h2
              rw [R3, Option.bind_some, h2]
              rfl
            | some r4 =>
              simp at Sb4
              obtain ⟨mx, hmx⟩ : ∃ mx, max a c = mx := ⟨_, rfl⟩
              have hmx2 : max (a : Int) (c : Int) = (mx : Int) := by omega
              have tl4 : Sl g4 1 ts.length tv (tx ts) := Sl.frX sT (FX.trans I4.fx) (fun e => by have := htv _ e; omega)
              by_cases hin : ts.length ≤ mx
              · have hk : labAt ts a c = none := labAt_none (by omega)
                rw [hk] at key
                have B2b := B2.bad
                simp at B2b
                simp [Sb4, e4, e5, hmx2, tl4.len, hin, B1, B2b, e11, wq3, Kloop_normal]
                refine ⟨q3 - 1, by omega, e0, e7, e8, e9, e10, rfl, none, ls, lv, I4.step (B4 true) B2, ?_, by omega⟩
                have h2 := rdL_step (st := none) (x := ([], [])) (ls := ls) (q := q3 - 1) (by rw [key]; rfl)
                rw [← hqq] at h2
                rw [R3, Option.bind_some, h2]
                rfl
              · obtain ⟨x, hx⟩ := at_some (l := ts) (j := a) (by omega)
                obtain ⟨y, hy⟩ := at_some (l := ts) (j := c) (by omega)
                have hk : labAt ts a c = some (x, y) := by simp [labAt, hx, hy]
                rw [hk] at key
                have S5 := B3 r4 rfl
                have I5 := I4.step (B4 false) S5
                have tl5 : Sl (g4.set id (.cells [w, .bool false] false)) 1 ts.length tv (tx ts) := Sl.frX sT (FX.trans I5.fx) (fun e => by have := htv _ e; omega)
                generalize hg5 : g4.set id (.cells [w, .bool false] false) = g5 at *
                have S5b := S5.bad
                simp at S5b
                obtain ⟨i1, o1, a1, a2, a3⟩ := tl5.get1 (k := .i64) (i := (a : Int)) rfl (by omega) (x := .str x) (by simp [tx, hx])
                obtain ⟨i2, o2, b1, b2, b3⟩ := tl5.get1 (k := .i64) (i := (c : Int)) rfl (by omega) (x := .str y) (by simp [tx, hy])
                have f6 := Fr.push (.refl g5) (.cells (labC (x, y)) false)
                have hxs := hs x (List.mem_of_getElem? hx)
                have hys := hs y (List.mem_of_getElem? hy)
                obtain ⟨lv', g6, ap, hlc, stv, I6⟩ := I5.lab (x := (x, y)) hxs hys (by omega)
                have a4 := a3 _ f6
                have b4 := b3 _ f6
                have lve : load1 g5 g.next 0 = .ok lv := load1_of I5.cells
                have lve2 : load1 (g5.push (.cells (labC (x, y)) false)) g.next 0 = .ok lv := by
                  have : (g5.push (.cells (labC (x, y)) false)).get g.next = some (.cells (entC lv at' 0 0 0) false) := by rw [f6.get _ I5.up, I5.cells]
                  exact load1_of this
                have hsm := I5.own.sl.same
                simp only [labC] at a4 b4 lve2 ap
                simp [Sb4, e4, e5, e10, hmx2, tl4.len, hin, B1, hg5, S5b, lve, a1, a2, b1, b2, splice_eq, a4, b4, lve2, hsm, ap, hlc, stv, e11, wq3, Kloop_normal]
                refine ⟨q3 - 1, by omega, e0, e7, e8, e9, rfl, some r4, ls ++ [(x, y)], lv', I6, ?_, by simp; omega⟩
                have h2 := rdL_step (st := some r4) (x := (x, y)) (ls := ls) (q := q3 - 1) (by rw [key]; rfl)
                rw [← hqq] at h2
                rw [R3, Option.bind_some, h2]
        · rintro x σ' ds g' ⟨rfl, rfl, e0, e4, e5, e7, e8, e9, e10, st, ls, lv, I, R3, hl3⟩
          simp [e0, e4, e5, e7, e8, e9, e10]
          refine (source_number (k := 4) I.src (by omega) (by omega)).mono ?_
          intro r1 g3 hr
          obtain ⟨f3, a, sb, rfl, ha, S3, q4⟩ := hr.st
          simp [e0, e4, e5, e7, e8, e9, e10]
          refine (source_number (k := 8) S3 (by omega) (by omega)).mono ?_
          intro r1 g4 hr
          obtain ⟨f4, c, sc, rfl, hc, S4, q5⟩ := hr.st
          simp [e0, e4, e5, e7, e8, e9, e10]
          refine (source_number (k := 8) S4 (by omega) (by omega)).mono ?_
          intro r1 g5 hr
          obtain ⟨f5, d, sd, rfl, hd, S5, q6⟩ := hr.st
          have I5 := ((I.step f3 S3).step f4 S4).step f5 S5
          have hR := rd1_of (at' := at') (hRL.symm.trans R3) q4 q5 q6
          have I6 := I5.put (s64 a) (s64 c) (s64 d)
          have t1 := storeN_one (v := .int .i64 (s64 a)) (off := 2) I5.cells (by simp [entC]) rfl
          simp [splice_eq, entC] at t1
          have t2 := storeN_one (v := .int .i64 (s64 c)) (off := 3) (I5.put (s64 a) 0 0).cells (by simp [entC]) rfl
          simp [splice_eq, entC] at t2
          have t3 := storeN_one (v := .int .i64 (s64 d)) (off := 4) (I5.put (s64 a) (s64 c) 0).cells (by simp [entC]) rfl
          simp [splice_eq, entC] at t3
          simp only [entC] at I6
          generalize hg6 : g5.set g.next (.cells [lv, .int .i64 at', .int .i64 (s64 a), .int .i64 (s64 c), .int .i64 (s64 d)] false) = g6 at *
          obtain ⟨acc', g7, ld, ap, A', S7, fb⟩ := I6.fin A (by omega) FX.next (by omega) (by omega)
          have ld2 : load1 g6 g.next 2 = .ok (.int .i64 (s64 a)) := load1_of I6.cells
          simp only [entC] at ld ap
          have wq : wrapF .i64 ((q : Int) - 1) = ((q - 1 : Nat) : Int) := by rw [wrap_i64 (by omega) (by omega)]; omega
          have hqq : q = (q - 1) + 1 := by omega
          simp [e0, e4, e5, e7, e8, e9, e10, t1, t2, t3, hg6, ld2, opLoadN, ld, splice_eq, ap, wq, Kloop_normal]
          refine ⟨q - 1, by omega, rfl, by omega, sd, xs ++ [(lv, ⟨ls, at', s64 a, s64 c, s64 d⟩)], S7, FrX.b fb gT (Nat.le_refl _) (FX.trans I6.fx), A', ?_, ?_, by simp; omega⟩
          · have h2 := rdE_step (es := xs.map (·.2)) (q := q - 1) hR
            rw [← hqq] at h2
            rw [R1, Option.bind_some, h2, List.map_append]
            rfl
          · rw [List.length_append]
            exact Left.map L0 hR (fun p hp => by have := rd1_len hp; simpa using this)
    · rintro x σ ds g ⟨rfl, rfl, e0, e4, st, xs, S, FX, A, R2, hxl⟩
      have Sb := S.bad
      generalize h7 : σ 7 = acc at *
      have hI : rdI b = RE.map (·.1) := by rw [hRE]; exact rdI_eq b
      have F1 := S.frame
      cases st with
      | none =>
        have hI2 : rdI b = none := by rw [hI, R2]; rfl
        simp at Sb
        simp [e0, e4, h7, Sb, DecIK, hI2]
        exact F1
      | some r =>
        have hI2 : rdI b = some (xs.map (·.2)) := by rw [hI, R2]; rfl
        simp at Sb
        simp [e0, e4, h7, Sb]
        refine (index_Encode A.1.sl (by omega) (fun x hx => ⟨(A.2 x hx).1, (A.2 x hx).2.2⟩)).mono ?_
        intro r1 g3 hr
        unfold EncIK at hr
        cases hcn : canE (xs.map (·.2)) with
        | false =>
          rw [if_neg (by rw [hcn]; simp)] at hr
          obtain ⟨rfl, f3⟩ := hr
          simp
          refine ⟨F1.trans f3, ?_⟩
          rw [hI2]
          simp only
          rw [if_neg (by rw [hcn]; simp)]
          trivial
        | true =>
          rw [if_pos hcn] at hr
          obtain ⟨u, rfl, su, f3⟩ := hr
          have F3 := F1.trans f3
          have be := bytes_Equal su (s.fr F3) (bytesI_256 _) hb
          by_cases hbe : bytesI (xs.map (·.2)) = b
          · simp [be, hbe, h7, e0]
            refine ⟨F3, ?_⟩
            rw [hI2]
            simp only
            rw [if_pos ⟨hcn, hbe⟩]
            exact ⟨acc, xs, rfl, rfl, A.1.sl.fr f3, by omega, fun x hx => ⟨EnOk.fr (A.2 x hx).1 f3, (A.2 x hx).2.2⟩⟩
          · simp [be, hbe, e0]
            refine ⟨F3, ?_⟩
            rw [hI2]
            simp only
            rw [if_neg (fun h => hbe h.2)]
            trivial

end Go.Dk

namespace Go.Dk
open Go Go.Dr
set_option maxRecDepth 100000

theorem rdL_step2 {T : List Txt} {q : Nat} {ls : List Lab} {x : Lab} {st st' : Option (List Nat)} (h : st.bind (lab4 T) = st'.map fun r => (x, r)) :
    (st.bind fun r => (rdL T (q + 1) r).map fun p => (ls ++ p.1, p.2)) = st'.bind fun r => (rdL T q r).map fun p => ((ls ++ [x]) ++ p.1, p.2) := by
  cases st with
  | none => cases st' with
    | none => rfl
    | some r => cases h
  | some r => exact rdL_step h

theorem ref13_Decode {h : AH} {n : Nat} {v : AV} {b : List Nat} (s : Sl h 1 n v (by8 b)) (hn : n ≤ 800) (hb : ∀ x ∈ b, x < 256) : Ev P SI (.fn f_ref13_Decode) [v] h (DecIK h b) := by
  refine ev_fn k_ref13_Decode rfl rfl ?_
  have hbl : b.length = n := by have := s.1; simpa using this
  have hc := s.oneCell
  have f0 := Fr.push (.refl h) (.cells [v, .bool false] false)
  have s0 : SrcO h (h.push (.cells [v, .bool false] false)) h.next (some b) := ⟨v, b, false, get_push_new _, Nat.lt_succ_self _, Nat.le_refl _, f0, by rw [hbl]; exact s, by omega, hb, by simp⟩
  obtain ⟨id, hid⟩ : ∃ id, h.next = id := ⟨_, rfl⟩
  have hg0n : (h.push (.cells [v, .bool false] false)).next = id + 1 := by rw [← hid]; rfl
  simp [c_ref13_Decode, hc.1, splice_eq]
  generalize hg0 : h.push (.cells [v, .bool false] false) = g0 at *
  rw [hid] at s0 ⊢
  refine (ref13_reader_int (k := 4) s0 (by omega) (by omega)).mono ?_
  intro r g1 hr
  obtain ⟨f1, m0, st1, rfl, hm0, s1, q1⟩ := hr.st
  rw [s64_small hm0]
  rw [Option.bind_some] at q1
  have l1 : Left n 0 st1 := by
    have := Left.map (n := n) (k := 0) (j := 0) (by omega) q1 (fun p hp => by have := num_len hp; omega)
    simpa using this
  have hI := rdI_eq b
  simp
  refine w_count (n := m0) (by rfl) (fun j σ ds g => ds = [] ∧ σ 0 = v ∧ σ 4 = .ptr id 0 ∧ σ 15 = .int .i64 (m0 : Int) ∧ TxJ h g0 id n b (m0 - j) (σ 5) g) (by omega) (by simp)
    ⟨rfl, by simp, by simp, by simp, st1, [], s1, f1, by simpa [tx] using Own.nil _ _, fun x hx => by simp at hx, by rw [q1]; cases st1 <;> simp, l1⟩ (fun j σ ds g hJ => by simp [hJ.2.2.2.1]) ?_ ?_
  · rintro j σ ds g hj hi ⟨rfl, e0, e4, e15, st, ts, S, F, O, hs, R, L⟩
    have Sb := S.bad
    have F1 := S.frame
    cases st with
    | none =>
      have hI2 : rdI b = none := by rw [hI, R]; rfl
      simp at Sb
      simp [e4, Sb, DecIK, hI2]
      exact F1
    | some r =>
      simp at Sb
      generalize h5 : σ 5 = tv at *
      have L0 := L r rfl
      simp [e4, Sb, h5]
      refine (ref13_reader_text S).mono ?_
      intro r1 g3 hr
      obtain ⟨f3, x, sb, rfl, hx, S3, hp⟩ := hr.st
      rw [Option.bind_some] at hp
      have hid3 := S3.lt
      have O3 := Own.frX O f3 (by omega)
      obtain ⟨tv', g4, ap, O4, fb⟩ := O3.snoc (bytes := 16) (x := [.str x]) (by omega) rfl rfl (by omega) (by omega)
      have hqq : m0 - j = (m0 - (j + 1)) + 1 := by omega
      simp [splice_eq, ap, hi, e0, e4, e15]
      refine ⟨sb, ts ++ [x], S3.frB fb (by omega), FrX.b fb g0 (by omega) (F.trans f3), by simpa [tx] using O4, ?_, ?_, ?_⟩
      · intro y hy
        rcases List.mem_append.1 hy with hy | hy
        · exact hs y hy
        · simp at hy
          subst hy
          exact hx
      · have h2 := rdT_step (ts := ts) (q := m0 - (j + 1)) hp
        rw [← hqq] at h2
        rw [R, Option.bind_some, h2]
      · rw [List.length_append]
        exact Left.map L0 hp (fun p hp => by have := piece_len hp; simp only [List.length_cons, List.length_nil]; omega)
  · rintro σ ds g ⟨rfl, e0, e4, e15, st, ts, S, F, O, hs, R0, L1⟩
    have R : ((num 4 b).bind fun n => rdT n.1 n.2) = st.map fun r => (ts, r) := by rw [R0, Nat.sub_self]; cases st <;> simp [rdT]
    have L : Left n 0 st := fun r e => by have := L1 r e; omega
    clear R0 L1
    generalize h5 : σ 5 = tv at *
    simp [e4]
    refine (ref13_reader_int (k := 4) S (by omega) (by omega)).mono ?_
    intro r gT hr
    obtain ⟨fT, m, stB, rfl, hm, SB, qB⟩ := hr.st
    rw [s64_small hm]
    have LB : Left n 0 stB := by
      have := Left.bind (j := 0) L qB (fun r p hp => by have := num_len hp; omega)
      simpa using this
    have hidT := SB.lt
    have sT : Sl gT 1 ts.length tv (tx ts) := (Own.frX O fT (by omega)).sl
    have htv : ∀ i, idOf tv = some i → id < i := fun i e => by
      by_cases hi : i < id + 1
      · exact absurd e (O.ne hi)
      · omega
    have FT := F.trans fT
    have R1 : (((num 4 b).bind fun n => rdT n.1 n.2).bind fun t => (num 4 t.2).bind fun m => rdE t.1 m.1 0 m.2) = stB.bind fun r => rdE ts m 0 r := by
      rw [R]
      have e : ((st.map fun r => (ts, r)).bind fun t => (num 4 t.2).bind fun m => rdE t.1 m.1 0 m.2) = (st.bind (num 4)).bind fun m => rdE ts m.1 0 m.2 := by cases st <;> rfl
      rw [e, qB]
      cases stB <;> rfl
    simp
    obtain ⟨RE, hRE⟩ : ∃ RE, RE = (((num 4 b).bind fun n => rdT n.1 n.2).bind fun t => (num 4 t.2).bind fun m => rdE t.1 m.1 0 m.2) := ⟨_, rfl⟩
    rw [← hRE] at R1 hI
    refine w_count (n := m) (by rfl) (fun j σ ds g => ds = [] ∧ σ 0 = v ∧ σ 4 = .ptr id 0 ∧ σ 5 = tv ∧ σ 29 = .int .i64 (m : Int) ∧ ∃ at', σ 7 = .int .i64 at' ∧ EnJ h gT id n ts RE (m - j) at' (σ 6) g) (by omega) (by simp)
      ⟨rfl, by simp [e0], by simp [e4], by simp [h5], by simp, 0, by simp, stB, [], SB, .refl _ _, by simpa using AccI.nil _ _, by rw [R1]; cases stB <;> simp, LB, by simp⟩ (fun j σ ds g hJ => by simp [hJ.2.2.2.2.1]) ?_ ?_
    · clear R1 LB SB qB hr
      rintro j σ ds g hj hi ⟨rfl, e0, e4, e5, e29, at', e7, st, xs, S, FX, A, R1, L, hxl⟩
      have Sb := S.bad
      have F1 := S.frame
      generalize h6 : σ 6 = acc at *
      cases st with
      | none =>
        have hI2 : rdI b = none := by rw [hI, R1]; rfl
        simp at Sb
        simp [e4, Sb, DecIK, hI2]
        exact F1
      | some r =>
        simp at Sb
        have L0 := L r rfl
        have hx1 : ¬ (100000 ≤ (xs.length : Int)) := by omega
        have I0 := InE.start S at'
        simp only [entC] at I0
        simp [e4, e7, Sb, h6, A.1.sl.len, hx1, splice_eq]
        generalize hgE : g.push (.cells [.nils, .int .i64 at', .int .i64 0, .int .i64 0, .int .i64 0] false) = gE at *
        refine (ref13_reader_int (k := 1) I0.src (by omega) (by omega)).mono ?_
        intro r1 g2 hr
        obtain ⟨f2, k, sa, rfl, hk, S2, q2⟩ := hr.st
        rw [s64_small (by omega)]
        have I2 := I0.step f2 S2
        rw [Option.bind_some] at q2
        obtain ⟨RL, hRL⟩ : ∃ RL, RL = ((num 1 r).bind fun k => rdL ts k.1 k.2) := ⟨_, rfl⟩
        have RL0 : RL = (sa.bind fun r => (rdL ts k r).map fun p => (([] : List Lab) ++ p.1, p.2)) := by rw [hRL, q2]; cases sa <;> simp
        simp
        refine w_count (n := k) (by rfl) (fun j3 σ' ds g' => ds = [] ∧ σ' 0 = v ∧ σ' 4 = .ptr id 0 ∧ σ' 5 = tv ∧ σ' 6 = acc ∧ σ' 7 = .int .i64 at' ∧ σ' 29 = .int .i64 (m : Int) ∧ σ' 30 = .int .i64 (j : Int) ∧ σ' 8 = .ptr g.next 0 ∧ σ' 44 = .int .i64 (k : Int) ∧ LbJ h g id n ts RL (k - j3) at' g') (by omega) (by simp)
          ⟨rfl, by simp [e0], by simp [e4], by simp [e5], by simp [h6], by simp [e7], by simp [e29], by simp [hi], by simp, by simp, sa, [], .nils, I2, RL0, by simp; omega⟩ (fun j σ ds g hJ => by simp [hJ.2.2.2.2.2.2.2.2.2.1]) ?_ ?_
        · clear RL0 I2 S2 q2 hr f2 I0
          rintro j3 σ' ds g' hj3 hi3 ⟨rfl, e0, e4, e5, e6, e7, e29, e30, e8, e44, st, ls, lv, I, R3, hl3⟩
          have hqq : k - j3 = (k - (j3 + 1)) + 1 := by omega
          have lve : load1 g' g.next 0 = .ok lv := load1_of I.cells
          have hsm := I.own.sl.same
          have tl : Sl g' 1 ts.length tv (tx ts) := Sl.frX sT (FX.trans I.fx) (fun e => by have := htv _ e; omega)
          simp [e4, e5, e8, lve, hsm]
          refine (ref13_reader_label I.src tl hs (fun e => by have := htv _ e; omega)).mono ?_
          intro r1 g3 hr
          obtain ⟨f3, x, st', rfl, hx1, hx2, S3, q3⟩ := hr.st
          have I3 := I.step f3 S3
          obtain ⟨lv', g6, ap, hlc, stv, I6⟩ := I3.lab hx1 hx2 (by omega)
          have f6 := Fr.push (.refl g3) (.cells (labC x) false)
          have lve2 : load1 (g3.push (.cells (labC x) false)) g.next 0 = .ok lv := by
            have : (g3.push (.cells (labC x) false)).get g.next = some (.cells (entC lv at' 0 0 0) false) := by rw [f6.get _ I3.up, I3.cells]
            exact load1_of this
          simp only [labC] at lve2 ap ⊢
          simp [splice_eq, lve2, hsm, ap, hlc, stv, e0, e4, e5, e6, e7, e8, e29, e30, e44, hi3]
          refine ⟨st', ls ++ [x], lv', I6, ?_, by simp; omega⟩
          have h2 := rdL_step2 (ls := ls) (q := k - (j3 + 1)) q3
          rw [← hqq] at h2
          rw [R3, h2]
        · rintro σ' ds g' ⟨rfl, e0, e4, e5, e6, e7, e29, e30, e8, e44, st, ls, lv, I, R30, hl3⟩
          have R3 : RL = st.map fun r => (ls, r) := by rw [R30, Nat.sub_self]; cases st <;> simp [rdL]
          simp [e4]
          refine (ref13_reader_int (k := 4) I.src (by omega) (by omega)).mono ?_
          intro r1 g3 hr
          obtain ⟨f3, a, sb, rfl, ha, S3, q4⟩ := hr.st
          simp [e4]
          refine (ref13_reader_int (k := 8) S3 (by omega) (by omega)).mono ?_
          intro r1 g4 hr
          obtain ⟨f4, c, sc, rfl, hc, S4, q5⟩ := hr.st
          simp [e4]
          refine (ref13_reader_int (k := 8) S4 (by omega) (by omega)).mono ?_
          intro r1 g5 hr
          obtain ⟨f5, d, sd, rfl, hd, S5, q6⟩ := hr.st
          have I5 := ((I.step f3 S3).step f4 S4).step f5 S5
          have hR := rd1_of (at' := at') (hRL.symm.trans R3) q4 q5 q6
          have I6 := I5.put (s64 a) (s64 c) (s64 d)
          have t1 := storeN_one (v := .int .i64 (s64 a)) (off := 2) I5.cells (by simp [entC]) rfl
          simp [splice_eq, entC] at t1
          have t2 := storeN_one (v := .int .i64 (s64 c)) (off := 3) (I5.put (s64 a) 0 0).cells (by simp [entC]) rfl
          simp [splice_eq, entC] at t2
          have t3 := storeN_one (v := .int .i64 (s64 d)) (off := 4) (I5.put (s64 a) (s64 c) 0).cells (by simp [entC]) rfl
          simp [splice_eq, entC] at t3
          simp only [entC] at I6
          generalize hg6 : g5.set g.next (.cells [lv, .int .i64 at', .int .i64 (s64 a), .int .i64 (s64 c), .int .i64 (s64 d)] false) = g6 at *
          obtain ⟨acc', g7, ld, ap, A', S7, fb⟩ := I6.fin A (by omega) FX.next (by omega) (by omega)
          have ld2 : load1 g6 g.next 2 = .ok (.int .i64 (s64 a)) := load1_of I6.cells
          simp only [entC] at ld ap
          have hqq : m - j = (m - (j + 1)) + 1 := by omega
          simp [e0, e4, e5, e6, e7, e8, e29, e30, t1, t2, t3, hg6, ld2, opLoadN, ld, splice_eq, ap]
          refine ⟨sd, xs ++ [(lv, ⟨ls, at', s64 a, s64 c, s64 d⟩)], S7, FrX.b fb gT (Nat.le_refl _) (FX.trans I6.fx), A', ?_, ?_, by simp; omega⟩
          · have h2 := rdE_step (es := xs.map (·.2)) (q := m - (j + 1)) hR
            rw [← hqq] at h2
            rw [R1, Option.bind_some, h2, List.map_append]
            rfl
          · rw [List.length_append]
            exact Left.map L0 hR (fun p hp => by have := rd1_len hp; simpa using this)
    · rintro σ ds g ⟨rfl, e0, e4, e5, e29, at', e7, st, xs, S, FX, A, R20, _, hxl⟩
      have R2 : RE = st.map fun r => (xs.map (·.2), r) := by rw [R20, Nat.sub_self]; cases st <;> simp [rdE]
      have Sb := S.bad
      generalize h6 : σ 6 = acc at *
      have F1 := S.frame
      cases st with
      | none =>
        have hI2 : rdI b = none := by rw [hI, R2]; rfl
        simp at Sb
        simp [e4, Sb, DecIK, hI2]
        exact F1
      | some r =>
        have hI2 : rdI b = some (xs.map (·.2)) := by rw [hI, R2]; rfl
        simp at Sb
        simp [e4, h6, Sb]
        refine (ref13_Encode A.1.sl (by omega) (fun x hx => ⟨(A.2 x hx).1, (A.2 x hx).2.2⟩)).mono ?_
        intro r1 g3 hr
        unfold EncIK at hr
        cases hcn : canE (xs.map (·.2)) with
        | false =>
          rw [if_neg (by rw [hcn]; simp)] at hr
          obtain ⟨rfl, f3⟩ := hr
          simp
          refine ⟨F1.trans f3, ?_⟩
          rw [hI2]
          simp only
          rw [if_neg (by rw [hcn]; simp)]
          trivial
        | true =>
          rw [if_pos hcn] at hr
          obtain ⟨u, rfl, su, f3⟩ := hr
          have F3 := F1.trans f3
          have c1 := conv_strB su
          have c2 := conv_strB (s.fr F3)
          by_cases hbe : bytesI (xs.map (·.2)) = b
          · rw [hbe] at c1
            simp [c1, c2, h6, e0]
            refine ⟨F3, ?_⟩
            rw [hI2]
            simp only
            rw [if_pos ⟨hcn, hbe⟩]
            exact ⟨acc, xs, rfl, rfl, A.1.sl.fr f3, by omega, fun x hx => ⟨EnOk.fr (A.2 x hx).1 f3, (A.2 x hx).2.2⟩⟩
          · have hbe' : ¬ txtOf (bytesI (xs.map (·.2))) = txtOf b := fun h => hbe (txt_inj (bytesI_256 _) hb h)
            simp [c1, c2, hbe', e0]
            refine ⟨F3, ?_⟩
            rw [hI2]
            simp only
            rw [if_neg (fun h => hbe h.2)]
            trivial

end Go.Dk

namespace Go.Dk
open Go Go.Dr
set_option maxRecDepth 100000

theorem DecIK.cases {h g : AH} {b : List Nat} {r : AV} (d : DecIK h b r g) :
    (r = .tuple [.nils, .int .i64 5] ∧ Fr h g ∧ ∀ l, ¬ (rdI b = some l ∧ canE l = true ∧ bytesI l = b)) ∨
    ∃ (v : AV) (xs : List (AV × Ep)), r = .tuple [v, .int .i64 0] ∧ Fr h g ∧ (rdI b = some (xs.map (·.2)) ∧ canE (xs.map (·.2)) = true ∧ bytesI (xs.map (·.2)) = b) ∧ Sl g 5 xs.length v (xs.flatMap enC) ∧ xs.length ≤ 2 ^ 20 ∧
      ∀ x ∈ xs, EnOk g x ∧ Short x.2.ls ∧ x.2.ls.length < 2 ^ 62 := by
  obtain ⟨f, d⟩ := d
  cases hl : rdI b with
  | none =>
    rw [hl] at d
    exact .inl ⟨d, f, fun l h => by cases h.1⟩
  | some l =>
    rw [hl] at d
    simp only at d
    by_cases hc : canE l = true ∧ bytesI l = b
    · rw [if_pos hc] at d
      obtain ⟨v, xs, e, rfl, sl, hn, ho⟩ := d
      exact .inr ⟨v, xs, e, f, ⟨rfl, hc⟩, sl, hn, ho⟩
    · rw [if_neg hc] at d
      exact .inl ⟨d, f, fun l' h => by cases h.1; exact hc h.2⟩

/-- the law: the entries that any bytes say -/
theorem law_IndexReads {h : AH} {v : AV} {b : List Nat} (s : Sl h 1 b.length v (by8 b)) (hb : ∀ x ∈ b, x < 256) :
    Ev P SI (.fn f_law13_IndexReads) [v] h fun r _ => r = .bool true := by
  refine ev_fn k_law13_IndexReads rfl rfl ?_
  obtain ⟨m, hm⟩ : ∃ m, min b.length 800 = m := ⟨_, rfl⟩
  have hmi : min (b.length : Int) 800 = (m : Int) := by omega
  obtain ⟨u, f1, su⟩ := s.slice (lo := none) (hi := some (.int .i64 (m : Int))) (a := 0) (b := m) (.inl ⟨rfl, rfl⟩) (.inr ⟨.i64, rfl⟩) (by omega) (by omega)
  rw [Nat.zero_mul, List.drop_zero, Nat.sub_zero, Nat.mul_one, by8_take] at su
  have hc : ∀ x ∈ b.take m, x < 256 := fun x hx => hb x (List.mem_of_mem_take hx)
  generalize b.take m = c at *
  simp [c_law13_IndexReads, s.len, hmi, f1]
  refine (clone8 su (by omega)).mono ?_
  rintro w g1 ⟨sw, f2⟩
  simp
  refine (index_Decode sw (by omega) hc).mono ?_
  rintro r g2 hr
  rcases hr.cases with ⟨rfl, f3, hno⟩ | ⟨va, xs, rfl, f3, hxs, sa, hxl, hxo⟩
  · simp
    refine (ref13_Decode ((su.fr f2).fr f3) (by omega) hc).mono ?_
    rintro r g3 hr
    rcases hr.cases with ⟨rfl, f4, _⟩ | ⟨vb, ys, rfl, f4, hys, _⟩
    · simp
      refine (same_entries (n := 0) (xs := []) (ys := []) (Sl.nil 5) (Sl.nil 5) (by omega) (fun x hx => by simp at hx) (fun x hx => by simp at hx) rfl).mono ?_
      rintro r g4 ⟨rfl, f5⟩
      have eb := equal_bytes (((sw.fr f3).fr f4).fr f5) ((((su.fr f2).fr f3).fr f4).fr f5) (by omega)
      simp [eb, ev_awake]
    · exact absurd hys (hno _)
  · simp
    refine (ref13_Decode ((su.fr f2).fr f3) (by omega) hc).mono ?_
    rintro r g3 hr
    rcases hr.cases with ⟨rfl, f4, hno⟩ | ⟨vb, ys, rfl, f4, hys, sb, hyl, hyo⟩
    · exact absurd hxs (hno _)
    · have hxy : xs.map (·.2) = ys.map (·.2) := Option.some.inj (hxs.1.symm.trans hys.1)
      have hl : xs.length = ys.length := by have := congrArg List.length hxy; simpa using this
      simp
      refine (same_entries (n := xs.length) (sa.fr f4) (by rw [hl]; exact sb) (by omega) (fun x hx => ⟨(hxo x hx).1.fr f4, (hxo x hx).2.2⟩) (fun x hx => (hyo x hx).1) hxy).mono ?_
      rintro r g4 ⟨rfl, f5⟩
      have eb := equal_bytes (((sw.fr f3).fr f4).fr f5) ((((su.fr f2).fr f3).fr f4).fr f5) (by omega)
      simp [eb, ev_awake]

end Go.Dk

/-
  DERIVED: THE SHELF's CONTRACTS AT THIS DUMP, IN PLAIN WORDS (tools/lay-plain.mjs out of 'TrySort0.lean', which tools/lay-shelf.mjs wrote): THE SAME DECLARATIONS UNDER THE SAME NAMES: 'import', 'namespace', 'open', 'def', 'theorem' AND NOTHING ELSE: no command of the shelf's: FOR A HAND-IN. Each laying: the table of numbers ('.._ren') and one theorem, a field a fact of the dump's own or the kernel's comparison; each contract: ONE APPLICATION.
-/
namespace Go.Proofs
open Go.Shelf
def Tryz.mSort_ren : Go.Shelf.Ren := ⟨fun | 6 => 106 | 8 => 137 | 9 => 136 | 19 => 160 | 20 => 161 | 21 => 151 | 22 => 152 | 23 => 153 | 24 => 154 | 25 => 155 | 26 => 156 | 27 => 157 | 28 => 158 | 29 => 159 | 36 => 177 | 31 => 178 | 32 => 179 | 37 => 180 | 38 => 181 | 39 => 117 | 41 => 185 | n => n, fun | 27 => 53 | 29 => 9 | 3 => 3 | 32 => 174 | 26 => 53 | 0 => 0 | 44 => 207 | 46 => 66 | 4 => 4 | 36 => 199 | 35 => 198 | 41 => 204 | 5 => 5 | 9 => 9 | 53 => 221 | 57 => 224 | 63 => 228 | 64 => 229 | n => n, fun | n => n⟩
theorem Tryz.mSort : Go.Proofs.SlLaysM.n6 Tryz.prog Tryz.mSort_ren := {
  mixed := by kernel_rfl
  f6 := ⟨Tryz.f106.name, by decide, Tryz.func106.trans (congrArg some (by kernel_rfl))⟩
  f8 := Tryz.func137.trans (congrArg some (by kernel_rfl))
  f9 := ⟨Tryz.f136.name, by decide, Tryz.func136.trans (congrArg some (by kernel_rfl))⟩
  f19 := Tryz.func160.trans (congrArg some (by kernel_rfl))
  f20 := Tryz.func161.trans (congrArg some (by kernel_rfl))
  f21 := ⟨Tryz.f151.name, by decide, Tryz.func151.trans (congrArg some (by kernel_rfl))⟩
  f22 := ⟨Tryz.f152.name, by decide, Tryz.func152.trans (congrArg some (by kernel_rfl))⟩
  f23 := ⟨Tryz.f153.name, by decide, Tryz.func153.trans (congrArg some (by kernel_rfl))⟩
  f24 := ⟨Tryz.f154.name, by decide, Tryz.func154.trans (congrArg some (by kernel_rfl))⟩
  f25 := ⟨Tryz.f155.name, by decide, Tryz.func155.trans (congrArg some (by kernel_rfl))⟩
  f26 := ⟨Tryz.f156.name, by decide, Tryz.func156.trans (congrArg some (by kernel_rfl))⟩
  f27 := ⟨Tryz.f157.name, by decide, Tryz.func157.trans (congrArg some (by kernel_rfl))⟩
  f28 := ⟨Tryz.f158.name, by decide, Tryz.func158.trans (congrArg some (by kernel_rfl))⟩
  f29 := ⟨Tryz.f159.name, by decide, Tryz.func159.trans (congrArg some (by kernel_rfl))⟩
  f31 := Tryz.func178.trans (congrArg some (by kernel_rfl))
  f32 := Tryz.func179.trans (congrArg some (by kernel_rfl))
  f36 := ⟨Tryz.f177.name, by decide, Tryz.func177.trans (congrArg some (by kernel_rfl))⟩
  f37 := ⟨Tryz.f180.name, by decide, Tryz.func180.trans (congrArg some (by kernel_rfl))⟩
  f38 := ⟨Tryz.f181.name, by decide, Tryz.func181.trans (congrArg some (by kernel_rfl))⟩
  f39 := ⟨Tryz.f117.name, by decide, Tryz.func117.trans (congrArg some (by kernel_rfl))⟩
  f41 := ⟨Tryz.f185.name, by decide, Tryz.func185.trans (congrArg some (by kernel_rfl))⟩
  t0 := Tryz.underlying0
  a0 := Tryz.isAgg0
  z0 := Tryz.sizeOf0
  v0 := Tryz.zeroValue0
  t3 := Tryz.underlying3
  a3 := Tryz.isAgg3
  z3 := Tryz.sizeOf3
  v3 := Tryz.zeroValue3
  t4 := Tryz.underlying4
  a4 := Tryz.isAgg4
  z4 := Tryz.sizeOf4
  v4 := Tryz.zeroValue4
  t5 := Tryz.underlying5
  a5 := Tryz.isAgg5
  z5 := Tryz.sizeOf5
  v5 := Tryz.zeroValue5
  t9 := Tryz.underlying9
  a9 := Tryz.isAgg9
  z9 := Tryz.sizeOf9
  v9 := Tryz.zeroValue9
  t26 := Tryz.underlying53
  a26 := Tryz.isAgg53
  z26 := Tryz.sizeOf53
  v26 := Tryz.zeroValue53
  t27 := Tryz.underlying53
  a27 := Tryz.isAgg53
  z27 := Tryz.sizeOf53
  v27 := Tryz.zeroValue53
  t29 := Tryz.underlying9
  a29 := Tryz.isAgg9
  z29 := Tryz.sizeOf9
  v29 := Tryz.zeroValue9
  t32 := Tryz.underlying174
  a32 := Tryz.isAgg174
  z32 := Tryz.sizeOf174
  v32 := Tryz.zeroValue174
  t35 := Tryz.underlying198
  a35 := Tryz.isAgg198
  z35 := Tryz.sizeOf198
  v35 := Tryz.zeroValue198
  t36 := Tryz.underlying199
  a36 := Tryz.isAgg199
  z36 := Tryz.sizeOf199
  v36 := Tryz.zeroValue199
  t41 := Tryz.underlying204
  a41 := Tryz.isAgg204
  z41 := Tryz.sizeOf204
  v41 := Tryz.zeroValue204
  t44 := Tryz.underlying207
  a44 := Tryz.isAgg207
  z44 := Tryz.sizeOf207
  v44 := Tryz.zeroValue207
  t46 := Tryz.underlying66
  a46 := Tryz.isAgg66
  z46 := Tryz.sizeOf66
  v46 := Tryz.zeroValue66
  t53 := Tryz.underlying221
  a53 := Tryz.isAgg221
  z53 := Tryz.sizeOf221
  v53 := Tryz.zeroValue221
  t57 := Tryz.underlying224
  a57 := Tryz.isAgg224
  z57 := Tryz.sizeOf224
  v57 := Tryz.zeroValue224
  t63 := Tryz.underlying228
  a63 := Tryz.isAgg228
  z63 := Tryz.sizeOf228
  v63 := Tryz.zeroValue228
  t64 := Tryz.underlying229
  a64 := Tryz.isAgg229
  z64 := Tryz.sizeOf229
  v64 := Tryz.zeroValue229 }
def Tryz.pSort_ren : Go.Shelf.Ren := ⟨fun | 6 => 110 | 15 => 137 | 14 => 139 | 28 => 160 | 29 => 161 | 20 => 162 | 21 => 163 | 22 => 164 | 23 => 165 | 24 => 166 | 25 => 167 | 26 => 168 | 27 => 169 | 46 => 182 | 47 => 178 | 48 => 179 | 49 => 183 | 50 => 184 | 57 => 186 | n => n, fun | 22 => 113 | 24 => 108 | 25 => 112 | 3 => 3 | 39 => 174 | 0 => 0 | 53 => 207 | 55 => 66 | 4 => 4 | 46 => 199 | 45 => 198 | 50 => 204 | 5 => 5 | 9 => 9 | 66 => 221 | 70 => 224 | 76 => 228 | 77 => 229 | n => n, fun | n => n⟩
theorem Tryz.pSort : Go.Proofs.SlLaysF0.n6 Tryz.prog Tryz.pSort_ren := {
  mixed := by kernel_rfl
  f6 := ⟨Tryz.f110.name, by decide, Tryz.func110.trans (congrArg some (by kernel_rfl))⟩
  f14 := ⟨Tryz.f139.name, by decide, Tryz.func139.trans (congrArg some (by kernel_rfl))⟩
  f15 := Tryz.func137.trans (congrArg some (by kernel_rfl))
  f20 := ⟨Tryz.f162.name, by decide, Tryz.func162.trans (congrArg some (by kernel_rfl))⟩
  f21 := ⟨Tryz.f163.name, by decide, Tryz.func163.trans (congrArg some (by kernel_rfl))⟩
  f22 := ⟨Tryz.f164.name, by decide, Tryz.func164.trans (congrArg some (by kernel_rfl))⟩
  f23 := ⟨Tryz.f165.name, by decide, Tryz.func165.trans (congrArg some (by kernel_rfl))⟩
  f24 := ⟨Tryz.f166.name, by decide, Tryz.func166.trans (congrArg some (by kernel_rfl))⟩
  f25 := ⟨Tryz.f167.name, by decide, Tryz.func167.trans (congrArg some (by kernel_rfl))⟩
  f26 := ⟨Tryz.f168.name, by decide, Tryz.func168.trans (congrArg some (by kernel_rfl))⟩
  f27 := ⟨Tryz.f169.name, by decide, Tryz.func169.trans (congrArg some (by kernel_rfl))⟩
  f28 := Tryz.func160.trans (congrArg some (by kernel_rfl))
  f29 := Tryz.func161.trans (congrArg some (by kernel_rfl))
  f46 := ⟨Tryz.f182.name, by decide, Tryz.func182.trans (congrArg some (by kernel_rfl))⟩
  f47 := Tryz.func178.trans (congrArg some (by kernel_rfl))
  f48 := Tryz.func179.trans (congrArg some (by kernel_rfl))
  f49 := ⟨Tryz.f183.name, by decide, Tryz.func183.trans (congrArg some (by kernel_rfl))⟩
  f50 := ⟨Tryz.f184.name, by decide, Tryz.func184.trans (congrArg some (by kernel_rfl))⟩
  f57 := ⟨Tryz.f186.name, by decide, Tryz.func186.trans (congrArg some (by kernel_rfl))⟩
  t0 := Tryz.underlying0
  a0 := Tryz.isAgg0
  z0 := Tryz.sizeOf0
  v0 := Tryz.zeroValue0
  t3 := Tryz.underlying3
  a3 := Tryz.isAgg3
  z3 := Tryz.sizeOf3
  v3 := Tryz.zeroValue3
  t4 := Tryz.underlying4
  a4 := Tryz.isAgg4
  z4 := Tryz.sizeOf4
  v4 := Tryz.zeroValue4
  t5 := Tryz.underlying5
  a5 := Tryz.isAgg5
  z5 := Tryz.sizeOf5
  v5 := Tryz.zeroValue5
  t9 := Tryz.underlying9
  a9 := Tryz.isAgg9
  z9 := Tryz.sizeOf9
  v9 := Tryz.zeroValue9
  t22 := Tryz.underlying113
  a22 := Tryz.isAgg113
  z22 := Tryz.sizeOf113
  v22 := Tryz.zeroValue113
  t25 := Tryz.underlying112
  a25 := Tryz.isAgg112
  z25 := Tryz.sizeOf112
  v25 := Tryz.zeroValue112
  t39 := Tryz.underlying174
  a39 := Tryz.isAgg174
  z39 := Tryz.sizeOf174
  v39 := Tryz.zeroValue174
  t45 := Tryz.underlying198
  a45 := Tryz.isAgg198
  z45 := Tryz.sizeOf198
  v45 := Tryz.zeroValue198
  t46 := Tryz.underlying199
  a46 := Tryz.isAgg199
  z46 := Tryz.sizeOf199
  v46 := Tryz.zeroValue199
  t50 := Tryz.underlying204
  a50 := Tryz.isAgg204
  z50 := Tryz.sizeOf204
  v50 := Tryz.zeroValue204
  t53 := Tryz.underlying207
  a53 := Tryz.isAgg207
  z53 := Tryz.sizeOf207
  v53 := Tryz.zeroValue207
  t55 := Tryz.underlying66
  a55 := Tryz.isAgg66
  z55 := Tryz.sizeOf66
  v55 := Tryz.zeroValue66
  t66 := Tryz.underlying221
  a66 := Tryz.isAgg221
  z66 := Tryz.sizeOf221
  v66 := Tryz.zeroValue221
  t70 := Tryz.underlying224
  a70 := Tryz.isAgg224
  z70 := Tryz.sizeOf224
  v70 := Tryz.zeroValue224
  t76 := Tryz.underlying228
  a76 := Tryz.isAgg228
  z76 := Tryz.sizeOf228
  v76 := Tryz.zeroValue228
  t77 := Tryz.underlying229
  a77 := Tryz.isAgg229
  z77 := Tryz.sizeOf229
  v77 := Tryz.zeroValue229 }
def Tryz.cmpInt_ren : Go.Shelf.Ren := ⟨fun | 5 => 67 | 7 => 108 | n => n, fun | 22 => 3 | 3 => 3 | 4 => 4 | n => n, fun | n => n⟩
theorem Tryz.cmpInt : Go.Proofs.SlLaysC2.n5 Tryz.prog Tryz.cmpInt_ren := {
  mixed := by kernel_rfl
  f5 := ⟨Tryz.f67.name, by decide, Tryz.func67.trans (congrArg some (by kernel_rfl))⟩
  f7 := ⟨Tryz.f108.name, by decide, Tryz.func108.trans (congrArg some (by kernel_rfl))⟩
  t3 := Tryz.underlying3
  a3 := Tryz.isAgg3
  z3 := Tryz.sizeOf3
  v3 := Tryz.zeroValue3
  t4 := Tryz.underlying4
  a4 := Tryz.isAgg4
  z4 := Tryz.sizeOf4
  v4 := Tryz.zeroValue4
  t22 := Tryz.underlying3
  a22 := Tryz.isAgg3
  z22 := Tryz.sizeOf3
  v22 := Tryz.zeroValue3 }
end Go.Proofs

namespace Go.Proofs
open Go.Shelf Go.RowKit Go.Lib Go.Sort
set_option maxRecDepth 100000

/-- which of two numbers is not nothing, the first one first -/
def orI (x y : Int) : Int := if x = 0 then y else x

set_option maxHeartbeats 2000000 in
theorem Tryz.or66 (x y : Int) (b : Nat) (w : World) (h0 : w.cell? ⟨b, 0, none⟩ = some (.int .i64 x)) (h1 : w.cell? ⟨b, 1, none⟩ = some (.int .i64 y)) :
    Calls Tryz.prog 66 #[.slice (some ⟨b, 0, none⟩) 2 2] w fun e w' => e = .returned (.int .i64 (orI x y)) ∧ w' = w := by
  go_enter Tryz.func66, Tryz.ntmps66
  go_wp2
  refine wp_loop_rounds 3 ?_
  rw [rounds_succ]
  go_wp2
  · rename_i hx
    go_ret
    refine ⟨?_, rfl⟩
    have : ¬ x = 0 := by simpa using hx
    simp [orI, this]
  · rename_i hx
    have hx0 : x = 0 := by simpa using hx
    rw [rounds_succ]
    go_wp2
    · rename_i hy
      go_ret
      refine ⟨?_, rfl⟩
      simp [orI, hx0]
    · rename_i hy
      have hy0 : y = 0 := by simpa using hy
      rw [rounds_succ]
      go_wp2
      go_ret
      refine ⟨?_, rfl⟩
      simp [orI, hx0, hy0]

set_option maxHeartbeats 2000000 in
/-- the order of two pairs -/
theorem Tryz.closure65 (x y : Int × Int) (W : World) : Calls Tryz.prog 65 #[.agg #[.int .i64 x.1, .int .i64 x.2], .agg #[.int .i64 y.1, .int .i64 y.2]] W fun e w' => e = .returned (.int .i64 (orI (Lib.compareInt x.1 y.1) (Lib.compareInt x.2 y.2))) ∧ ∃ q os', w' = grow (W.drewN q) os' := by
  have hcon1 := fun W' => AnyG.cmp_Compare_int Tryz.cmpInt x.1 y.1 W'
  change ∀ W', Calls Tryz.prog 67 _ _ _ at hcon1
  have hcon2 := fun W' => AnyG.cmp_Compare_int Tryz.cmpInt x.2 y.2 W'
  change ∀ W', Calls Tryz.prog 67 _ _ _ at hcon2
  generalize Lib.compareInt x.1 y.1 = r1 at hcon1 ⊢
  generalize Lib.compareInt x.2 y.2 = r2 at hcon2 ⊢
  go_enter Tryz.func65, Tryz.ntmps65
  go_wp2_with fail
  have hs : W.heap.size < (W.alloc (.cells #[.int .i64 x.1, .int .i64 x.2] 108)).heap.size := by simp
  generalize hW : (W.alloc (.cells #[.int .i64 x.1, .int .i64 x.2] 108)).alloc (.cells #[.int .i64 y.1, .int .i64 y.2] 108) = W2
  have c0 : W2.cell? ⟨W.heap.size, 0, none⟩ = some (.int .i64 x.1) := by rw [← hW]; simp
  have c1 : W2.cell? ⟨W.heap.size, 1, none⟩ = some (.int .i64 x.2) := by rw [← hW]; simp
  have c2 : W2.cell? ⟨W.heap.size + 1, 0, none⟩ = some (.int .i64 y.1) := by rw [← hW]; simp
  have c3 : W2.cell? ⟨W.heap.size + 1, 1, none⟩ = some (.int .i64 y.2) := by rw [← hW]; simp
  refine wp_region_still_tail 10 Tryz.mSort.mixed (by kernel_rfl) ?_
  simp only [List.take_succ_cons, List.take_zero, List.drop_succ_cons, List.drop_zero]
  have hD : ({ W2 with drawn := W2.drawn + 1 } : World) = W2.drew := rfl
  rw [hD]
  have d0 : W2.drew.cell? ⟨W.heap.size, 0, none⟩ = some (.int .i64 x.1) := c0
  have d1 : W2.drew.cell? ⟨W.heap.size, 1, none⟩ = some (.int .i64 x.2) := c1
  have d2 : W2.drew.cell? ⟨W.heap.size + 1, 0, none⟩ = some (.int .i64 y.1) := c2
  have d3 : W2.drew.cell? ⟨W.heap.size + 1, 1, none⟩ = some (.int .i64 y.2) := c3
  still_step
  still_step
  still_step
  still_step
  still_call (hcon1 _)
  still_step
  still_step
  still_step
  still_step
  still_call (hcon2 _)
  refine wpStill_nil ?_
  have hfin : ∃ os0, W2.drew = grow (W.drewN 1) os0 := ⟨_, by rw [← hW, alloc_eq_grow, alloc_eq_grow, grow_grow]; rfl⟩
  clear hD d0 d1 d2 d3 c0 c1 c2 c3
  generalize W2.drew = W3 at hfin ⊢
  go_wp2_with (go_at_call 66; refine (Tryz.or66 r1 r2 W3.heap.size _ (by simp) (by simp)).mono ?_; rintro e w' ⟨rfl, rfl⟩)
  go_ret
  obtain ⟨os0, hos⟩ := hfin
  exact ⟨rfl, 1, _, by rw [hos, alloc_eq_grow, grow_grow]⟩

end Go.Proofs

namespace Go.Dk
open Go Go.Dr Go.RowKit
set_option maxRecDepth 100000

/-! ### what is told of calls holds of the machine -/

theorem holds_map {α : Type} [Inhabited α] (e : α → Value) {w : World} {b o : Nat} {l : List α} (h : Sort.Holds id w b o (l.map e).toArray) : Sort.Holds e w b o l.toArray := by
  intro j hj
  have hj' : j < l.length := by simpa using hj
  obtain ⟨h1, h2⟩ := h j (by simpa using hj)
  refine ⟨?_, h2⟩
  rw [h1]
  simp [getElem!_def, hj']

theorem putRow_map {α : Type} [Inhabited α] (e : α → Value) (w : World) (b o : Nat) (l : List α) : Sort.putRow e w b o l.toArray = Sort.putRow id w b o (l.map e).toArray := by
  unfold Sort.putRow
  congr 1
  funext c
  unfold Sort.putCells
  congr 1
  funext k x
  by_cases hk : o ≤ k ∧ k < o + l.length
  · have h1 : o ≤ k ∧ k < o + l.toArray.size := by simpa using hk
    have h2 : o ≤ k ∧ k < o + (l.map e).toArray.size := by simpa using hk
    rw [if_pos h1, if_pos h2]
    have h3 : k - o < l.length := by omega
    simp [getElem!_def, h3]
  · have h1 : ¬ (o ≤ k ∧ k < o + l.toArray.size) := by simpa using hk
    have h2 : ¬ (o ≤ k ∧ k < o + (l.map e).toArray.size) := by simpa using hk
    rw [if_neg h1, if_neg h2]

theorem tx_cv (ss : List Txt) : (tx ss).map cv = ss.map Go.Proofs.encStr := by
  unfold tx
  rw [List.map_map]
  rfl

theorem body106 : Go.Proofs.Tryz.f106.body.isSome = true := by kernel_rfl
theorem body110 : Go.Proofs.Tryz.f110.body.isSome = true := by kernel_rfl
theorem body65 : Go.Proofs.Tryz.f65.body.isSome = true := by kernel_rfl
theorem numIyS : P.funcs.all (fun f => f.name != "runtime.NumGoroutine") = true := by kernel_rfl

theorem strSort : RowSortIs P f_slices_Sort_string_string 1 [] strD where
  some := by
    rintro A A' len blk off cap rest' φ w ⟨ss, rfl, rfl⟩ hr hl hb hH hblk
    cases hr
    have hsl : ss.length = len := by simpa [tx] using hl
    subst hsl
    rw [tx_cv] at hH
    have := Go.Proofs.AnyM.slices_Sort_string Go.Proofs.Tryz.mSort blk off cap ss w (holds_map _ hH) hblk hb
    refine this.mono ?_
    rintro e w' ⟨rfl, n, os, rfl⟩
    refine ⟨rfl, n, os, ?_⟩
    rw [putRow_map, tx_cv]
    rfl
  none := by
    intro p cap rest' φ w hr
    cases hr
    exact Go.Proofs.AnyM.slices_Sort_string_none Go.Proofs.Tryz.mSort p cap w
  enter := fun _ w => callFn_run (noNum numIyS) Go.Proofs.Tryz.func106 body106 w
  len := by rintro A A' ⟨ss, rfl, rfl⟩; simp [tx, srtT]
  isC := by
    rintro A A' ⟨ss, rfl, rfl⟩
    refine ⟨fun a ha => ?_, fun a ha => ?_⟩ <;> (obtain ⟨s, _, rfl⟩ := List.mem_map.1 ha; rfl)

theorem cmpLaysP (blk off size : Nat) (w : World) : Go.Proofs.CmpLays P f_index_items_1 #[] (enc2 .i64 .i64) 2 cfP blk off size w := fun _ _ _ _ x y => Go.Proofs.Tryz.closure65 x y _

theorem pairSort : RowSortIs P f_slices_SortFunc_index_pair_index_pair 2 [.func (.func f_index_items_1) [] []] (pairD .i64 .i64 cfP) := by
  refine pair_sort swoP ?_ ?_ ?_
  · intro blk off cap d w hH hblk hsz
    exact Go.Proofs.AnyQ.slices_SortFunc Go.Proofs.Tryz.pSort 2 Go.Proofs.Tryz.isAgg108 Go.Proofs.Tryz.sizeOf108 (enc2 .i64 .i64) (fun _ => rfl) (fun x v hv => by simp [enc2] at hv; rcases hv with rfl | rfl <;> rfl) cfP swoP f_index_items_1 #[] blk off cap d w
      (fun _ w => callFn_run (noNum numIyS) Go.Proofs.Tryz.func65 body65 w) (cmpLaysP blk off d.size w) hH hblk hsz
  · intro p cap w
    exact Go.Proofs.AnyF.slices_SortFunc_none { Go.Proofs.Tryz.pSort with } p cap _ w
  · exact fun _ w => callFn_run (noNum numIyS) Go.Proofs.Tryz.func110 body110 w

theorem sumS0 (B : Nat) (w0 : World) : SumOk P B w0 S0 := by
  intro f g hs args h v h' he φ w args' ha hG hR
  unfold S0 at hs
  split at hs
  · rename_i e; subst e; cases hs
    exact rowS_ok strSort (by omega) he ha hR
  · split at hs
    · rename_i e; subst e; cases hs
      exact rowS_ok pairSort (by omega) he ha hR
    · cases hs

theorem run13 : okTrue (evCall P (fun _ => none) 100000 1000 (.fn f_law13_awake) [] ⟨P.globals.size, .leaf⟩) = true := by kernel_rfl
theorem run19 : okTrue (evCall P (fun _ => none) 100000 1000 (.fn f_law19_awake) [] ⟨P.globals.size, .leaf⟩) = true := by kernel_rfl

theorem sumSI (B : Nat) (w0 : World) : SumOk P B w0 SI := by
  intro f g hs args h v h' he φ w args' ha hG hR
  unfold SI at hs
  split at hs
  · rename_i e; subst e; cases hs
    exact endS_ok Go.Proofs.Tryz.mSort.mixed (noNum numIyS) (sumS0 B w0) he ha hG hR
  · split at hs
    · rename_i e; subst e; cases hs
      exact endS_ok Go.Proofs.Tryz.mSort.mixed (noNum numIyS) (sumS0 B w0) he ha hG hR
    · split at hs
      · exact closed_ok Go.Proofs.Tryz.mSort.mixed numIyS run19 B w0 f g hs args h v h' he φ w args' ha hG hR
      · exact closed_ok Go.Proofs.Tryz.mSort.mixed numIyS run13 B w0 f g hs args h v h' he φ w args' ha hG hR

end Go.Dk

namespace Go.Proofs.YtkbddcapcjdenaaGreatDoor
open Go Go.Dr Go.RowKit Go.ChangeShapes Go.WideShapes Go.ChangeAt Go.Lib
set_option maxRecDepth 100000

theorem ownIr : ownKnob Tryz.prog.godebug = none := by kernel_rfl
theorem laidOutIr : laidOutB Tryz.prog = true := by kernel_rfl
theorem numIr : Tryz.prog.funcs.all (fun f => f.name != "runtime.NumGoroutine") = true := by kernel_rfl

def intsIr (k : IntKind) (l : List Int) : Array Value := (l.map fun z => Value.int k z).toArray

/-- a world that fits: the settled one, the listed variables' cells laid -/
noncomputable def laidWorldIr (os : Os) : World :=
  let w0 := World.holding Tryz.prog os ⟨#[], #[], []⟩
  let put (h : Array Obj) (g : Nat) (cs : Array Value) : Array Obj := h.modify g fun
    | .cells _ t frozen => .cells cs t frozen
    | o => o
  let h := w0.heap
  let h := put h 0 (intsIr .u8 [0, 1, 56, 2, 57, 49, 28, 3, 61, 58, 42, 50, 38, 29, 17, 4, 62, 47, 59, 36, 45, 43, 51, 22, 53, 39, 33, 30, 24, 18, 12, 5, 63, 55, 48, 27, 60, 41, 37, 16, 46, 35, 44, 21, 52, 32, 23, 11, 54, 26, 40, 15, 34, 20, 31, 10, 25, 14, 19, 9, 13, 8, 7, 6])
  { w0 with heap := h }

theorem laidRunIr (os : Os) (args : Array Value) : LaidIn Tryz.prog ((laidWorldIr os).forCall (fun _ _ => 0) ⟨#[], args, []⟩).memory (Rows.indexReadsRow.laid.filter fun x => x.2.handleName?.isNone) [0] :=
  LaidIn.of_run _ 8 (by kernel_rfl) (by kernel_rfl) (by kernel_rfl) (by kernel_rfl)

theorem laidMetIr (os : Os) (args : Array Value) : laidMetH Tryz.prog Rows.indexReadsRow.laid ((laidWorldIr os).forCall (fun _ _ => 0) ⟨#[], args, []⟩).memory :=
  laidMetH_of_parts (laidRunIr os args).met (by kernel_rfl)

end Go.Proofs.YtkbddcapcjdenaaGreatDoor

namespace Go.Proofs.YtkbddcapcjdenaaGreatDoor
open Go Go.Dr Go.Dk Go.RowKit Go.ChangeShapes Go.WideShapes Go.ChangeAt Go.Lib
set_option maxRecDepth 100000

theorem cellsIr5 : Tryz.prog.cellsOf 5 = 1 := by kernel_rfl
theorem undIr5 : Tryz.prog.underlying 5 = some (.int .u8) := by kernel_rfl
theorem undIr23 : Tryz.prog.underlying 23 = some (.slice 5) := by kernel_rfl
theorem plainIr23 : plainTy Tryz.prog 5 23 = true := by kernel_rfl

theorem by8_flatIr : ∀ bs : List Nat, (bs.map fun x : Nat => [AV.int .u8 (x : Int)]).flatten = by8 bs
  | [] => rfl
  | b :: bs => by rw [List.map_cons, List.flatten_cons, by8_flatIr bs]; rfl

theorem bytes_ofIr {h : AH} {l : List AV} (s : TyV Tryz.prog h 23 l) : ∃ v bs, l = [v] ∧ bs.length ≤ maxLen ∧ Sl h 1 bs.length v (by8 bs) ∧ ∀ x ∈ bs, x < 256 := by
  obtain ⟨v, n, vs, rfl, hn, hs, he⟩ := s.slice_inv undIr23 cellsIr5
  obtain ⟨bs, h1, h2, h3⟩ := elems_of (fun x : Nat => [AV.int .u8 (x : Int)]) (fun x => x < 256) 1 n vs hs.1 fun i hi => by
    obtain ⟨z, e, h1⟩ := (he i hi).int_inv undIr5
    simp [Lit.wf, IntKind.min, IntKind.max, IntKind.signed] at h1
    refine ⟨z.toNat, ?_, by omega⟩
    rw [e, Int.toNat_of_nonneg (by omega)]
  have h4 : vs = by8 bs := by rw [h2, by8_flatIr]
  subst h4
  exact ⟨v, bs, rfl, by rw [h1]; exact hn, by rw [h1]; exact hs, h3⟩


/-- the law IndexReads, run by the machine -/
theorem calls_IndexReads {H : Type} {enc : TypeId × Value → H} {held : Bool} {W : World} {base : Nat} {b0 : Nat} {v0 : Value} {d0 : DataW H} {p0 : List MemPlace}
    (hv0 : Value.okWide Tryz.prog W .any b0 23 v0) (h0 : DataW.Trod enc Tryz.prog W base (fun _ => true) held 23 v0 d0 p0) :
    Calls Tryz.prog 5 #[v0] W fun e W' => e = .returned (.bool true) ∧ Below W.heap.size W W' := by
  obtain ⟨φ1, g1, a0, c0, R1, ro1, le1, f1, t0⟩ := lay_slice (B := W.heap.size) (w0 := W) undIr23 plainIr23 hv0 h0 (rel0 W Tryz.prog.globals.size (ρ := fun _ => .pointer none)) (ro0 _ _)
  obtain ⟨u, bs, e1, _, s1, q1⟩ := bytes_ofIr t0
  cases e1
  exact law_evS (f := f_law13_IndexReads) (args' := [v0]) Tryz.checked.mixed numIr (sumSI _ _) (law_IndexReads s1 q1) (.cons c0 .nil) ((glob0 Tryz.prog).le le1) R1

end Go.Proofs.YtkbddcapcjdenaaGreatDoor
