/-
  Texts joined: BxLabels4, BxLabels5, BxLabels6, BxLabels7, BxCrc, BxCodec7, BxCodec8, BxCodec9, BxCodec10, BxCodec11, BxRcod1, BxRcod2, BxCodec12, BxCodec13, BxRcod3, BxRcod4, BxRcod5, BxRcod6, BxCodec14, BxRcod7, BxLabels8, BxLabels9, BxChunk1, BxChunk2.
-/
import Derived.Test.YthkoheaklmgonaaDoorT5

namespace Go.Dk
open Go Go.Dr
set_option maxRecDepth 100000

abbrev Lab := Txt × Txt
def labC (x : Lab) : List AV := [.str x.1, .str x.2]
@[simp] theorem labC_length (x : Lab) : (labC x).length = 2 := nr rfl

def canFrom (last : Txt) : List Lab → Bool
  | [] => true
  | x :: l => nameOk x.1 && (valueOk x.2 && (Op.bytesLess last x.1 && canFrom x.1 l))

/-- may labels be -/
def canL (l : List Lab) : Bool := decide (1 ≤ l.length ∧ l.length ≤ 8) && canFrom [] l

theorem nameOk_less {s : Txt} (h : nameOk s = true) : Op.bytesLess [] s = true := by
  cases s with
  | nil => simp [nameOk] at h
  | cons b r => rfl

theorem nameOk_short {s : Txt} (h : nameOk s = true) : s.length ≤ 24 := by
  unfold nameOk at h
  simp only [Bool.and_eq_true, decide_eq_true_eq] at h
  exact h.1

/-- texts that may be in memory -/
def Short (l : List Lab) : Prop := ∀ x ∈ l, x.1.length < 2 ^ 62 ∧ x.2.length < 2 ^ 62

theorem lab_at {h : AH} {n : Nat} {v : AV} {l : List Lab} (s : Sl h 2 n v (l.flatMap labC)) {k : IntKind} {i : Int} {j : Nat} (hi : i = j) {x : Lab} (hx : l[j]? = some x) :
    ∃ id o, opIdxV 2 v (.int k i) = .ok (.ptr id o) ∧ loadN h id o 2 = .ok [.str x.1, .str x.2] ∧ load1 h id o = .ok (.str x.1) ∧ load1 h id (o + 1) = .ok (.str x.2) ∧ id < h.next := by
  obtain ⟨id, o, h1, h2, h3, h4⟩ := s.elem (fun _ _ => rfl) (by omega) hi hx
  exact ⟨id, o, h1, h2, h3 0 _ rfl, h3 1 _ rfl, h4⟩

theorem lab_len {h : AH} {n : Nat} {v : AV} {l : List Lab} (s : Sl h 2 n v (l.flatMap labC)) : l.length = n := by
  have := s.1
  rw [flatMap_len (es := 2) l (fun _ _ => rfl)] at this
  omega

theorem labels_Can {h : AH} {n : Nat} {v : AV} {l : List Lab} (s : Sl h 2 n v (l.flatMap labC)) (hs : Short l) : Ev P SI (.fn f_labels_Can) [v] h fun r g => r = .bool (canL l) ∧ Fr h g := by
  refine ev_fn k_labels_Can rfl rfl ?_
  have hl := lab_len s
  by_cases h0 : n = 0
  · have c1 : ((n : Int) = 0) := by omega
    have c2 : canL l = false := by unfold canL; simp; omega
    simp [c_labels_Can, s.len, eq_true h0, c2, Fr.refl]
  by_cases h8 : 8 < n
  · have c1 : (8 : Int) < n := by omega
    have c2 : canL l = false := by unfold canL; simp; omega
    simp [c_labels_Can, s.len, h0, c1, c2, Fr.refl]
  have c1 : ¬ (8 : Int) < n := by omega
  have c2 : canL l = canFrom [] l := by
    have : (decide (1 ≤ l.length ∧ l.length ≤ 8)) = true := by simp; omega
    unfold canL; rw [this, Bool.true_and]
  simp [c_labels_Can, s.len, h0, c1]
  rw [c2]
  refine w_count (n := n) (by rfl) (fun j σ ds g => ∃ last, ds = [] ∧ σ 3 = .str last ∧ σ 14 = v ∧ σ 15 = .int .i64 (n : Int) ∧ Fr h g ∧ canFrom [] l = canFrom last (l.drop j)) (by omega) (by simp) ⟨[], rfl, by simp, by simp, by simp, .refl _, rfl⟩
    (fun j σ ds g ⟨last, hJ⟩ => by simp [hJ.2.2.2.1]) ?_ ?_
  · rintro j σ ds g hj hi ⟨last, rfl, e3, e14, e15, f, hc⟩
    have hjl : j < l.length := by omega
    obtain ⟨id, o, i1, i2, i3, i4, _⟩ := lab_at (s.fr f) (k := .i64) (i := (j : Int)) rfl (List.getElem?_eq_getElem hjl)
    have hsx := hs _ (List.getElem_mem hjl)
    have hd : l.drop j = l[j] :: l.drop (j + 1) := List.drop_eq_getElem_cons hjl
    rw [hd, canFrom] at hc
    generalize l[j] = x at *
    have f1 := f.push (.cells [.str x.1, .str x.2] false)
    simp [e3, e14, e15, hi, i1, i2]
    refine (labels_Name hsx.1 _).mono ?_
    rintro r g1 ⟨rfl, fa⟩
    have la : load1 g1 g.next 1 = .ok (.str x.2) := load1_of (vs := [.str x.1, .str x.2]) (ro := false) (by rw [fa.get _ (by simp)]; exact get_push_new _)
    have lb : load1 g1 g.next 0 = .ok (.str x.1) := load1_of (vs := [.str x.1, .str x.2]) (ro := false) (by rw [fa.get _ (by simp)]; exact get_push_new _)
    cases hn : nameOk x.1 with
    | false =>
      rw [hn, Bool.false_and] at hc
      simp [hc]
      exact f1.trans fa
    | true =>
      rw [hn, Bool.true_and] at hc
      simp [la]
      refine (labels_Value _).mono ?_
      rintro r g2 ⟨rfl, fb⟩
      have lc : load1 g2 g.next 0 = .ok (.str x.1) := load1_of (vs := [.str x.1, .str x.2]) (ro := false) (by rw [fb.get _ (by have := fa.next; simp at this; omega), fa.get _ (by simp)]; exact get_push_new _)
      cases hv : valueOk x.2 with
      | false =>
        rw [hv, Bool.false_and] at hc
        simp [hc]
        exact (f1.trans fa).trans fb
      | true =>
        rw [hv, Bool.true_and] at hc
        cases hb : Op.bytesLess last x.1 with
        | false =>
          rw [hb, Bool.false_and] at hc
          simp [lc, e3, hb, hc]
          exact (f1.trans fa).trans fb
        | true =>
          rw [hb, Bool.true_and] at hc
          simp [lc, e3, hb, e14, e15, hi]
          exact ⟨(f1.trans fa).trans fb, hc⟩
  · rintro σ ds g ⟨last, rfl, e3, e14, e15, f, hc⟩
    rw [List.drop_of_length_le (by omega)] at hc
    simp [hc, canFrom, f]

theorem ref07_Can {h : AH} {n : Nat} {v : AV} {l : List Lab} (s : Sl h 2 n v (l.flatMap labC)) (hs : Short l) : Ev P SI (.fn f_ref07_Can) [v] h fun r g => r = .bool (canL l) ∧ Fr h g := by
  refine ev_fn k_ref07_Can rfl rfl ?_
  have hl := lab_len s
  by_cases h0 : n < 1
  · have c1 : ((n : Int) < 1) := by omega
    have c2 : canL l = false := by unfold canL; simp; omega
    simp [c_ref07_Can, s.len, c1, c2, Fr.refl]
  have c0 : ¬ ((n : Int) < 1) := by omega
  by_cases h8 : 8 < n
  · have c1 : (8 : Int) < n := by omega
    have c2 : canL l = false := by unfold canL; simp; omega
    simp [c_ref07_Can, s.len, c0, c1, c2, Fr.refl]
  have c1 : ¬ (8 : Int) < n := by omega
  have c2 : canL l = canFrom [] l := by
    have : (decide (1 ≤ l.length ∧ l.length ≤ 8)) = true := by simp; omega
    unfold canL; rw [this, Bool.true_and]
  simp [c_ref07_Can, s.len, c0, c1]
  rw [c2]
  refine w_count (n := n) (by rfl) (fun j σ ds g => ∃ last, ds = [] ∧ σ 0 = v ∧ σ 13 = v ∧ σ 14 = .int .i64 (n : Int) ∧ Fr h g ∧ canFrom [] l = canFrom last (l.drop j) ∧ ((j = 0 ∧ last = []) ∨ ∃ i y, j = i + 1 ∧ l[i]? = some y ∧ last = y.1)) (by omega) (by simp) ⟨[], rfl, by simp, by simp, by simp, .refl _, rfl, .inl ⟨rfl, rfl⟩⟩
    (fun j σ ds g ⟨last, hJ⟩ => by simp [hJ.2.2.2.1]) ?_ ?_
  · rintro j σ ds g hj hi ⟨last, rfl, e0, e13, e14, f, hc, hlast⟩
    have hjl : j < l.length := by omega
    obtain ⟨id, o, i1, i2, i3, i4, _⟩ := lab_at (s.fr f) (k := .i64) (i := (j : Int)) rfl (List.getElem?_eq_getElem hjl)
    have hsx := hs _ (List.getElem_mem hjl)
    have hd : l.drop j = l[j] :: l.drop (j + 1) := List.drop_eq_getElem_cons hjl
    rw [hd, canFrom] at hc
    have hxj : l[j]? = some l[j] := List.getElem?_eq_getElem hjl
    generalize l[j] = x at *
    have f1 := f.push (.cells [.str x.1, .str x.2] false)
    cases hn : nameOk x.1 with
    | false =>
      rw [hn, Bool.false_and] at hc
      simp [e0, e13, e14, hi, i1, i2, ref07_Name hsx.1, hn, hc]
      exact f1
    | true =>
      rw [hn, Bool.true_and] at hc
      simp [e0, e13, e14, hi, i1, i2, ref07_Name hsx.1, hn]
      refine (ref07_Value _).mono ?_
      rintro r g1 ⟨rfl, fa⟩
      have la : load1 g1 g.next 1 = .ok (.str x.2) := load1_of (vs := [.str x.1, .str x.2]) (ro := false) (by rw [fa.get _ (by simp)]; exact get_push_new _)
      have lb : load1 g1 g.next 0 = .ok (.str x.1) := load1_of (vs := [.str x.1, .str x.2]) (ro := false) (by rw [fa.get _ (by simp)]; exact get_push_new _)
      cases hv : valueOk x.2 with
      | false =>
        rw [hv, Bool.false_and] at hc
        simp [la, lb, hc]
        exact f1.trans fa
      | true =>
        rw [hv, Bool.true_and] at hc
        rcases hlast with ⟨rfl, rfl⟩ | ⟨i, y, rfl, hy, rfl⟩
        · rw [nameOk_less hn, Bool.true_and] at hc
          simp [la, lb, e0, e13, e14]
          exact ⟨by simpa using hi, f1.trans fa, x.1, by simpa using hc, x.2, hxj⟩
        · have fg := f1.trans fa
          obtain ⟨id2, o2, j1, j2, j3, j4, _⟩ := lab_at (s.fr fg) (k := .i64) (i := (i : Int)) rfl hy
          have w0 : wrapF .i64 (i : Int) = (i : Int) := wrap_i64 (by omega) (by omega)
          have c0 : (0 : Int) < (i : Int) + 1 := by omega
          cases hb : Op.bytesLess y.1 x.1 with
          | false =>
            rw [hb, Bool.false_and] at hc
            simp [la, lb, e0, e13, e14, c0, w0, j1, j3, hb, hc]
            exact fg
          | true =>
            rw [hb, Bool.true_and] at hc
            simp [la, lb, e0, e13, e14, c0, w0, j1, j3, hb, hi]
            exact ⟨fg, x.1, hc, x.2, hxj⟩
  · rintro σ ds g ⟨last, rfl, e0, e13, e14, f, hc, _⟩
    rw [List.drop_of_length_le (by omega)] at hc
    simp [hc, canFrom, f]

end Go.Dk

namespace Go.Dk
open Go Go.Dr
set_option maxRecDepth 100000

/-- texts compared -/
def cmpT (a b : Txt) : Int := if Op.bytesLess a b = true then -1 else if Op.bytesLess b a = true then 1 else 0
def cmp2 (x y : Lab) : Int := if cmpT x.1 y.1 = 0 then cmpT x.2 y.2 else cmpT x.1 y.1
def cmpL : List Lab → List Lab → Int
  | [], [] => 0
  | [], _ :: _ => -1
  | _ :: _, [] => 1
  | x :: a, y :: b => if cmp2 x y = 0 then cmpL a b else cmp2 x y

theorem isNaN_string (s : Txt) (h : AH) (K : AV → AH → Prop) : Ev P SI (.fn f_cmp_isNaN_string) [.str s] h K = K (.bool false) h := by
  refine Ev.eq (ev_fn k_cmp_isNaN_string rfl rfl ?_) K
  simp [c_cmp_isNaN_string]

theorem compare_string (a b : Txt) (h : AH) (K : AV → AH → Prop) : Ev P SI (.fn f_cmp_Compare_string) [.str a, .str b] h K = K (.int .i64 (cmpT a b)) h := by
  refine Ev.eq (ev_fn k_cmp_Compare_string rfl rfl ?_) K
  unfold cmpT
  cases h1 : Op.bytesLess a b with
  | true => simp [c_cmp_Compare_string, isNaN_string, h1]
  | false => cases h2 : Op.bytesLess b a <;> simp [c_cmp_Compare_string, isNaN_string, h1, h2]

theorem ref07_texts (a b : Txt) (h : AH) (K : AV → AH → Prop) : Ev P SI (.fn f_ref07_texts) [.str a, .str b] h K = K (.int .i64 (cmpT a b)) h := by
  refine Ev.eq (ev_fn k_ref07_texts rfl rfl ?_) K
  unfold cmpT
  cases h1 : Op.bytesLess a b with
  | true => simp [c_ref07_texts, h1]
  | false => cases h2 : Op.bytesLess b a <;> simp [c_ref07_texts, h1, h2]

theorem or_int {h : AH} {v : AV} (x y : Int) (s : Sl h 1 2 v [.int .i64 x, .int .i64 y]) (K : AV → AH → Prop) : Ev P SI (.fn f_cmp_Or_int) [v] h K = K (.int .i64 (if x = 0 then y else x)) h := by
  refine Ev.eq (ev_fn k_cmp_Or_int rfl rfl ?_) K
  simp [c_cmp_Or_int, s.len]
  refine w_count (n := 2) (by rfl) (fun j σ ds g => ds = [] ∧ σ 3 = .int .i64 0 ∧ σ 6 = v ∧ σ 7 = .int .i64 2 ∧ g = h ∧ (0 < j → x = 0) ∧ (1 < j → y = 0)) (by omega) (by simp) ⟨rfl, by simp, by simp, by simp, rfl, by omega, by omega⟩ (fun j σ ds g hJ => by simp [hJ.2.2.2.1]) ?_ ?_
  · rintro j σ ds g hj hi ⟨rfl, e3, e6, e7, rfl, h1, h2⟩
    match j, hj with
    | 0, _ =>
      obtain ⟨id, o, g1, g2, _⟩ := s.get1 (k := .i64) (i := ((0 : Nat) : Int)) rfl (by omega) (x := .int .i64 x) rfl
      rw [show ((0 : Nat) : Int) = 0 from rfl] at g1 hi
      by_cases hx : x = 0
      · subst hx; simp [e3, e6, e7, hi, g1, g2]
      · simp [e3, e6, e7, hi, g1, g2, hx]
    | 1, _ =>
      obtain ⟨id, o, g1, g2, _⟩ := s.get1 (k := .i64) (i := ((1 : Nat) : Int)) rfl (by omega) (x := .int .i64 y) rfl
      rw [show ((1 : Nat) : Int) = 1 from rfl] at g1 hi
      have hx := h1 (by omega)
      subst hx
      by_cases hy : y = 0
      · subst hy; simp [e3, e6, e7, hi, g1, g2]
      · simp [e3, e6, e7, hi, g1, g2, hy]
  · rintro σ ds g ⟨rfl, e3, e6, e7, rfl, h1, h2⟩
    have hx := h1 (by omega)
    have hy := h2 (by omega)
    subst hx hy
    simp [e3]

theorem labels_Compare_1 (x y : Lab) (h : AH) : Ev P SI (.fn f_labels_Compare_1) [.agg (labC x), .agg (labC y)] h fun r g => r = .int .i64 (cmp2 x y) ∧ Fr h g := by
  refine ev_fn k_labels_Compare_1 rfl rfl ?_
  unfold labC cmp2
  have l1 : ∀ o, load1 ((h.push (.cells [.str x.1, .str x.2] false)).push (.cells [.str y.1, .str y.2] false)) h.next o = ofO "load: out of the known cells" [AV.str x.1, .str x.2][o]? := fun o => load1_of (by rw [get_push_old (by simp)]; exact get_push_new _)
  have l2 : ∀ o, load1 ((h.push (.cells [.str x.1, .str x.2] false)).push (.cells [.str y.1, .str y.2] false)) (h.next + 1) o = ofO "load: out of the known cells" [AV.str y.1, .str y.2][o]? := fun o => load1_of (get_push_new _)
  have so := (Own.fresh (B := 0) (h := (h.push (.cells [.str x.1, .str x.2] false)).push (.cells [.str y.1, .str y.2] false)) (es := 1) (n := 2) (l := [.int .i64 (cmpT x.1 y.1), .int .i64 (cmpT x.2 y.2)]) true (Nat.zero_le _) rfl).sl
  have ho := or_int _ _ so
  simp only [AH.next_push] at ho
  simp [c_labels_Compare_1, l1, l2, compare_string, splice_eq, ho]
  exact (((Fr.refl h).push _).push _).push _

theorem cmpL_drop : ∀ (j : Nat) (a b : List Lab), j ≤ a.length → j ≤ b.length → (∀ i x y, i < j → a[i]? = some x → b[i]? = some y → cmp2 x y = 0) → cmpL a b = cmpL (a.drop j) (b.drop j)
  | 0, a, b, _, _, _ => rfl
  | j + 1, [], b, h, _, _ => by simp at h
  | j + 1, x :: a, [], _, h, _ => by simp at h
  | j + 1, x :: a, y :: b, h1, h2, h3 => by
    have := h3 0 x y (by omega) rfl rfl
    rw [cmpL, if_pos this, List.drop_succ_cons, List.drop_succ_cons]
    exact cmpL_drop j a b (by simpa using h1) (by simpa using h2) fun i u w hi ha hb => h3 (i + 1) u w (by omega) (by simpa using ha) (by simpa using hb)

theorem labels_Compare {h : AH} {n m : Nat} {va vb : AV} {a b : List Lab} (sa : Sl h 2 n va (a.flatMap labC)) (sb : Sl h 2 m vb (b.flatMap labC)) (hn : n < 2 ^ 62) (hm : m < 2 ^ 62) :
    Ev P SI (.fn f_labels_Compare) [va, vb] h fun r g => r = .int .i64 (cmpL a b) ∧ Fr h g := by
  refine ev_fn k_labels_Compare rfl rfl ?_
  simp [c_labels_Compare]
  have la := lab_len sa
  have lb := lab_len sb
  have key : Ev P SI (.fn f_slices_CompareFunc_api_Label_api_Label_api_Label_api_Label) [va, vb, .func (.func f_labels_Compare_1) [] []] h fun r g => r = .int .i64 (cmpL a b) ∧ Fr h g := by
    refine ev_fn k_slices_CompareFunc_api_Label_api_Label_api_Label_api_Label rfl rfl ?_
    simp [c_slices_CompareFunc_api_Label_api_Label_api_Label_api_Label, sa.len]
    refine w_count (n := n) (by rfl) (fun j σ ds g => ds = [] ∧ σ 0 = va ∧ σ 1 = vb ∧ σ 2 = .func (.func f_labels_Compare_1) [] [] ∧ σ 11 = va ∧ σ 12 = .int .i64 (n : Int) ∧ Fr h g ∧ j ≤ m ∧ (∀ i x y, i < j → a[i]? = some x → b[i]? = some y → cmp2 x y = 0))
      (by omega) (by simp) ⟨rfl, by simp, by simp, by simp, by simp, by simp, .refl _, by omega, by omega⟩ (fun j σ ds g hJ => by simp [hJ.2.2.2.2.2.1]) ?_ ?_
    · rintro j σ ds g hj hi ⟨rfl, e0, e1, e2, e11, e12, f, hjm, heq⟩
      have hja : j < a.length := by omega
      obtain ⟨id, o, i1, i2, _⟩ := lab_at (sa.fr f) (k := .i64) (i := (j : Int)) rfl (List.getElem?_eq_getElem hja)
      have hd := cmpL_drop j a b (by omega) (by omega) heq
      have fr1 : ∀ x : Lab, Fr h (g.push (.cells (labC x) false)) := fun x => f.push _
      by_cases hm1 : m ≤ j
      · have c1 : (m : Int) ≤ j := by omega
        have : b.drop j = [] := List.drop_of_length_le (by omega)
        have h2 : a.drop j = a[j] :: a.drop (j + 1) := List.drop_eq_getElem_cons hja
        rw [this, h2, cmpL] at hd
        simp [e0, e1, e2, e11, e12, hi, i1, i2, sb.len, c1, hd, (sb.fr (fr1 a[j])).len]
        exact f.push _
      · have c1 : ¬ (m : Int) ≤ j := by omega
        have hjb : j < b.length := by omega
        have h1 : a.drop j = a[j] :: a.drop (j + 1) := List.drop_eq_getElem_cons hja
        have h2 : b.drop j = b[j] :: b.drop (j + 1) := List.drop_eq_getElem_cons hjb
        rw [h1, h2, cmpL] at hd
        have hxa : a[j]? = some a[j] := List.getElem?_eq_getElem hja
        have hxb : b[j]? = some b[j] := List.getElem?_eq_getElem hjb
        generalize a[j] = x at *
        generalize b[j] = y at *
        obtain ⟨id2, o2, j1, j2, _⟩ := lab_at (sb.fr (f.push (.cells [.str x.1, .str x.2] false))) (k := .i64) (i := (j : Int)) rfl hxb
        have ln : loadN ((g.push (.cells [.str x.1, .str x.2] false)).push (.cells [.str y.1, .str y.2] false)) g.next 0 2 = .ok [.str x.1, .str x.2] := loadN_of (by rw [get_push_old (by simp)]; exact get_push_new _) rfl
        have lm : loadN ((g.push (.cells [.str x.1, .str x.2] false)).push (.cells [.str y.1, .str y.2] false)) (g.next + 1) 0 2 = .ok [.str y.1, .str y.2] := loadN_of (get_push_new _) rfl
        have fg := (f.push (.cells [.str x.1, .str x.2] false)).push (.cells [.str y.1, .str y.2] false)
        have sn := opStore_new (h := g.push (.cells [.str x.1, .str x.2] false)) (n := 2) (z := [.str [], .str []]) (l := [.str y.1, .str y.2]) rfl rfl rfl
        simp only [AH.next_push] at sn
        simp [e0, e1, e2, e11, e12, hi, i1, i2, sb.len, c1, j1, j2, sn, ln, lm]
        refine (labels_Compare_1 x y _).mono ?_
        rintro r g1 ⟨rfl, fa⟩
        by_cases hc : cmp2 x y = 0
        · simp [hc, e0, e1, e2, e11, e12, hi]
          refine ⟨fg.trans fa, by omega, fun i p1 p2 q1 q2 hij hp hq => ?_⟩
          by_cases e : i = j
          · subst e
            rw [hxa] at hp
            rw [hxb] at hq
            cases hp; cases hq; exact hc
          · exact heq i _ _ (by omega) hp hq
        · rw [if_neg hc] at hd
          simp [hc, hd]
          exact fg.trans fa
    · rintro σ ds g ⟨rfl, e0, e1, e2, e11, e12, f, hjm, heq⟩
      have hd := cmpL_drop n a b (by omega) (by omega) heq
      have : a.drop n = [] := List.drop_of_length_le (by omega)
      rw [this] at hd
      by_cases hlt : n < m
      · have c1 : (n : Int) < m := by omega
        have h2 : b.drop n = b[n]'(by omega) :: b.drop (n + 1) := List.drop_eq_getElem_cons _
        rw [h2, cmpL] at hd
        simp [e0, e1, sa.len, sb.len, c1, hd, f]
      · have c1 : ¬ (n : Int) < m := by omega
        have h2 : b.drop n = [] := List.drop_of_length_le (by omega)
        rw [h2, cmpL] at hd
        simp [e0, e1, sa.len, sb.len, c1, hd, f]
  refine key.mono ?_
  rintro r g ⟨rfl, f⟩
  simp [f]

end Go.Dk

namespace Go.Dk
open Go Go.Dr
set_option maxRecDepth 100000

theorem ref07_Compare {h : AH} {n m : Nat} {va vb : AV} {a b : List Lab} (sa : Sl h 2 n va (a.flatMap labC)) (sb : Sl h 2 m vb (b.flatMap labC)) (hn : n < 2 ^ 62) (hm : m < 2 ^ 62) (K : AV → AH → Prop) :
    Ev P SI (.fn f_ref07_Compare) [va, vb] h K = K (.int .i64 (cmpL a b)) h := by
  refine Ev.eq (ev_fn k_ref07_Compare rfl rfl ?_) K
  have la := lab_len sa
  have lb := lab_len sb
  simp [c_ref07_Compare, sa.len, sb.len]
  refine w_count (n := min n m) (by rfl) (fun j σ ds g => ds = [] ∧ σ 0 = va ∧ σ 1 = vb ∧ σ 12 = .int .i64 ((min n m : Nat) : Int) ∧ g = h ∧ (∀ i x y, i < j → a[i]? = some x → b[i]? = some y → cmp2 x y = 0))
    (by omega) (by simp) ⟨rfl, by simp, by simp, by simp; omega, rfl, by omega⟩ (fun j σ ds g hJ => by simp [hJ.2.2.2.1]) ?_ ?_
  · rintro j σ ds g hj hi ⟨rfl, e0, e1, e12, rfl, heq⟩
    have hja : j < a.length := by omega
    have hjb : j < b.length := by omega
    obtain ⟨id, o, i1, i2, i3, i4, _⟩ := lab_at sa (k := .i64) (i := (j : Int)) rfl (List.getElem?_eq_getElem hja)
    obtain ⟨id2, o2, j1, j2, j3, j4, _⟩ := lab_at sb (k := .i64) (i := (j : Int)) rfl (List.getElem?_eq_getElem hjb)
    have hd := cmpL_drop j a b (by omega) (by omega) heq
    have h1 : a.drop j = a[j] :: a.drop (j + 1) := List.drop_eq_getElem_cons hja
    have h2 : b.drop j = b[j] :: b.drop (j + 1) := List.drop_eq_getElem_cons hjb
    rw [h1, h2, cmpL] at hd
    have hxa : a[j]? = some a[j] := List.getElem?_eq_getElem hja
    have hxb : b[j]? = some b[j] := List.getElem?_eq_getElem hjb
    generalize a[j] = x at *
    generalize b[j] = y at *
    unfold cmp2 at hd
    by_cases c1 : cmpT x.1 y.1 = 0
    · by_cases c2 : cmpT x.2 y.2 = 0
      · simp [e0, e1, e12, hi, i1, i2, i3, i4, j1, j2, j3, j4, ref07_texts, c1, c2]
        intro i p1 p2 q1 q2 hij hp hq
        by_cases e : i = j
        · subst e
          rw [hxa] at hp
          rw [hxb] at hq
          cases hp; cases hq; unfold cmp2; rw [if_pos c1]; exact c2
        · exact heq i _ _ (by omega) hp hq
      · simp only [c1, c2, if_true, if_false] at hd
        simp [e0, e1, e12, hi, i1, i2, i3, i4, j1, j2, j3, j4, ref07_texts, c1, c2, hd]
    · simp only [c1, if_false] at hd
      simp [e0, e1, e12, hi, i1, i2, i3, i4, j1, j2, j3, j4, ref07_texts, c1, hd]
  · rintro σ ds g ⟨rfl, e0, e1, e12, rfl, heq⟩
    have hd := cmpL_drop (min n m) a b (by omega) (by omega) heq
    rcases Nat.lt_trichotomy n m with hlt | hlt | hlt
    · have h1 : a.drop (min n m) = [] := List.drop_of_length_le (by omega)
      have h2 : b.drop (min n m) = b[n]'(by omega) :: b.drop (n + 1) := by rw [Nat.min_eq_left (by omega)]; exact List.drop_eq_getElem_cons _
      rw [h1, h2, cmpL] at hd
      have c1 : (n : Int) < m := by omega
      simp [e0, e1, sa.len, sb.len, c1, hd]
    · subst hlt
      have h1 : a.drop (min n n) = [] := List.drop_of_length_le (by omega)
      have h2 : b.drop (min n n) = [] := List.drop_of_length_le (by omega)
      rw [h1, h2, cmpL] at hd
      simp [e0, e1, sa.len, sb.len, hd]
    · have h1 : b.drop (min n m) = [] := List.drop_of_length_le (by omega)
      have h2 : a.drop (min n m) = a[m]'(by omega) :: a.drop (m + 1) := by rw [Nat.min_eq_right (by omega)]; exact List.drop_eq_getElem_cons _
      rw [h1, h2, cmpL] at hd
      have c1 : ¬ (n : Int) < m := by omega
      have c2 : (m : Int) < n := by omega
      simp [e0, e1, sa.len, sb.len, c1, c2, hd]

end Go.Dk

namespace Go.Dk
open Go Go.Dr
set_option maxRecDepth 100000

def txtOf (l : List Nat) : Txt := l.map UInt8.ofNat
@[simp] theorem txtOf_length (l : List Nat) : (txtOf l).length = l.length := by simp [txtOf]

theorem avBytes_by8 : ∀ l : List Nat, avBytes (by8 l) = .ok (txtOf l)
  | [] => rfl
  | x :: l => by
    show (match avBytes (by8 l) with | .ok r => (.ok (UInt8.ofNat ((x : Int)).toNat :: r) : R Txt) | .error e => .error e) = _
    rw [avBytes_by8 l]; simp [txtOf]

theorem conv_strB {h : AH} {v : AV} {l : List Nat} {n : Nat} (s : Sl h 1 n v (by8 l)) : opConv .strB v h = okV (.str (txtOf l)) h := by
  obtain ⟨hl, s⟩ := s
  rcases s with ⟨rfl, rfl⟩ | ⟨id, off, cap, x, vs, ro, rfl, e2, e6, e3, e4, e5⟩
  · have : l = [] := by simpa using hl
    subst this; rfl
  · have hld : loadN h id off n = .ok (by8 l) := by
      have hb : Nat.ble (off + n) vs.length = true := Nat.ble_eq_true_of_le (by omega)
      rw [Nat.mul_one] at e5
      simp [loadN, e3, hb, e5]
    simp only [opConv, if_true, hld, avBytes_by8]

/-- a text with its length ahead, and the rest -/
def piece : List Nat → Option (Txt × List Nat)
  | [] => none
  | n :: r => if n ≤ r.length then some (txtOf (r.take n), r.drop n) else none

def labsN : Nat → List Nat → Option (List Lab × List Nat)
  | 0, b => some ([], b)
  | k + 1, b => match piece b with
    | none => none
    | some (nm, r) => match piece r with
      | none => none
      | some (v, r2) => match labsN k r2 with
        | none => none
        | some (l, r3) => some ((nm, v) :: l, r3)

/-- what bytes say of labels: these and the rest, or an error's number -/
def decL : List Nat → Except Int (List Lab × List Nat)
  | [] => .error 3
  | n :: r => match labsN n r with
    | none => .error 3
    | some (l, rest) => if canL l = true then .ok (l, rest) else .error 5

theorem piece_some {b : List Nat} {s : Txt} {r : List Nat} (h : piece b = some (s, r)) : ∃ n t, b = n :: t ∧ n ≤ t.length ∧ s = txtOf (t.take n) ∧ r = t.drop n := by
  cases b with
  | nil => simp [piece] at h
  | cons n t =>
    by_cases hn : n ≤ t.length
    · simp only [piece, if_pos hn, Option.some.injEq, Prod.mk.injEq] at h
      exact ⟨n, t, rfl, hn, h.1.symm, h.2.symm⟩
    · simp [piece, hn] at h

theorem piece_len {b : List Nat} {s : Txt} {r : List Nat} (h : piece b = some (s, r)) : s.length + r.length + 1 = b.length := by
  obtain ⟨n, t, rfl, hn, rfl, rfl⟩ := piece_some h
  simp; omega

theorem piece_mem {b : List Nat} {s : Txt} {r : List Nat} (h : piece b = some (s, r)) : ∀ x ∈ r, x ∈ b := by
  obtain ⟨n, t, rfl, hn, rfl, rfl⟩ := piece_some h
  intro x hx
  exact List.mem_cons_of_mem _ (List.mem_of_mem_drop hx)

theorem labsN_len : ∀ {k : Nat} {b : List Nat} {l : List Lab} {r : List Nat}, labsN k b = some (l, r) → l.length = k ∧ r.length ≤ b.length ∧ (∀ x ∈ l, x.1.length < b.length + 1 ∧ x.2.length < b.length + 1) ∧ ∀ x ∈ r, x ∈ b
  | 0, b, l, r, h => by
    simp only [labsN, Option.some.injEq, Prod.mk.injEq] at h
    obtain ⟨rfl, rfl⟩ := h
    simp
  | k + 1, b, l, r, h => by
    unfold labsN at h
    cases h1 : piece b with
    | none => simp [h1] at h
    | some p =>
      obtain ⟨nm, r1⟩ := p
      cases h2 : piece r1 with
      | none => simp [h1, h2] at h
      | some p =>
        obtain ⟨v, r2⟩ := p
        cases h3 : labsN k r2 with
        | none => simp [h1, h2, h3] at h
        | some p =>
          obtain ⟨l3, r3⟩ := p
          simp only [h1, h2, h3, Option.some.injEq, Prod.mk.injEq] at h
          obtain ⟨rfl, rfl⟩ := h
          obtain ⟨e1, e2, e3, e4⟩ := labsN_len h3
          have p1 := piece_len h1
          have p2 := piece_len h2
          refine ⟨by simp [e1], by omega, fun x hx => ?_, fun x hx => piece_mem h1 x (piece_mem h2 x (e4 x hx))⟩
          rcases List.mem_cons.1 hx with rfl | hx
          · simp only; omega
          · have := e3 x hx; omega

theorem lab_set0 : ∀ (ls : List Lab) (j : Nat) (s : Txt) (x : Lab), ls[j]? = some x → (ls.flatMap labC).set (j * 2 + 0) (.str s) = (ls.set j (s, x.2)).flatMap labC
  | [], j, s, x, h => by simp at h
  | y :: ls, 0, s, x, h => by simp at h; subst h; simp [labC]
  | y :: ls, j + 1, s, x, h => by
    have ih := lab_set0 ls j s x (by simpa using h)
    rw [List.flatMap_cons, List.set_cons_succ, List.flatMap_cons, ← ih, show (j + 1) * 2 + 0 = (labC y).length + (j * 2 + 0) from by simp; omega, List.set_append_right _ _ (by omega)]
    congr 2; omega

theorem lab_set1 : ∀ (ls : List Lab) (j : Nat) (s : Txt) (x : Lab), ls[j]? = some x → (ls.flatMap labC).set (j * 2 + 1) (.str s) = (ls.set j (x.1, s)).flatMap labC
  | [], j, s, x, h => by simp at h
  | y :: ls, 0, s, x, h => by simp at h; subst h; simp [labC]
  | y :: ls, j + 1, s, x, h => by
    have ih := lab_set1 ls j s x (by simpa using h)
    rw [List.flatMap_cons, List.set_cons_succ, List.flatMap_cons, ← ih, show (j + 1) * 2 + 1 = (labC y).length + (j * 2 + 1) from by simp; omega, List.set_append_right _ _ (by omega)]
    congr 2; omega

theorem repl_lab : ∀ n, repl [AV.str [], .str []] n = (List.replicate n (([], []) : Lab)).flatMap labC
  | 0 => rfl
  | n + 1 => by rw [repl, repl_lab n, List.replicate_succ, List.flatMap_cons]; rfl

/-- what is left, and what there is by now -/
def LDInv (h : AH) (n : Nat) (r0 : List Nat) (v : AV) (j : Nat) (b0 : AV) (g : AH) : Prop :=
  ∃ (m : Nat) (r : List Nat) (ls : List Lab), Sl g 1 m b0 (by8 r) ∧ Own h.next g 2 n v (ls.flatMap labC) ∧ ls.length = n ∧ FrB h.next h g ∧ (∀ x ∈ r, x < 256) ∧ r.length ≤ r0.length ∧
    labsN n r0 = match labsN (n - j) r with | none => none | some (l, rest) => some (ls.take j ++ l, rest)

end Go.Dk

namespace Go.Dk
open Go Go.Dr
set_option maxRecDepth 100000

theorem crc_Get {h : AH} {n : Nat} {v : AV} {bs : List Nat} (hv : Sl h 1 n v (by8 bs)) (hb : ∀ x ∈ bs, x < 256) (h1 : 1 ≤ n) (h8 : n ≤ 8) (K : AV → AH → Prop) :
    Ev P SI (.fn f_crc_Get) [v] h K = K (.tuple [.int .u64 (beV bs : Int), .bool true]) h := by
  refine Ev.eq (ev_fn k_crc_Get rfl rfl ?_) K
  have hl : bs.length = n := by have := hv.1; simpa using this
  have e1 : ¬ (n = 0) := by omega
  have e2 : ¬ (8 < (n : Int)) := by omega
  simp [c_crc_Get, hv.len, e1, e2]
  refine w_count (n := n) (by rfl) (fun j σ ds h' => ds = [] ∧ σ 15 = v ∧ σ 16 = .int .i64 (n : Int) ∧ σ 4 = .int .u64 (beV (bs.take j) : Int) ∧ h' = h) (by omega) (by simp) (by simp [beV]) (fun j σ ds h' hJ => by simp [hJ.2.2.1]) ?_ ?_
  · rintro j σ ds h' hj hi ⟨rfl, hs, hn, h4, rfl⟩
    have hjl : j < bs.length := by omega
    obtain ⟨id, o, g1, g2, _⟩ := hv.get1 (k := .i64) (i := (j : Int)) rfl hj (x := .int .u8 (bs[j] : Int)) (by rw [by8_get, List.getElem?_eq_getElem hjl]; rfl)
    have hx : bs[j] < 256 := hb _ (List.getElem_mem hjl)
    have ht : beV (bs.take (j + 1)) = beV (bs.take j) * 256 + bs[j] := by
      rw [List.take_add_one, List.getElem?_eq_getElem hjl, Option.toList_some, beV_append]
    have hlt := beV_lt (bs.take j) (fun x hx => hb x (List.mem_of_mem_take hx))
    rw [List.length_take, Nat.min_eq_left (by omega)] at hlt
    have hlt2 : beV (bs.take j) * 256 ≤ 2 ^ 64 - 256 := by
      have : 256 ^ j ≤ 256 ^ 7 := Nat.pow_le_pow_right (by decide) (by omega)
      omega
    have w1 : wrapF .u64 ((beV (bs.take j) : Int) * 256) = (beV (bs.take j) : Int) * 256 := wrap_u64 (by omega) (by omega)
    have w2 : wrapF .u64 (bs[j] : Int) = (bs[j] : Int) := wrap_u64 (by omega) (by omega)
    have w3 := or_shl (beV (bs.take j)) bs[j] (by omega) hx
    have w4 : wrapF .u64 ((beV (bs.take j) : Int) * 256 + (bs[j] : Int)) = (beV (bs.take j) : Int) * 256 + (bs[j] : Int) := wrap_u64 (by omega) (by omega)
    simp [hs, hn, h4, hi, g1, g2, w1, w2, w3, w4, ht]
  · rintro σ ds h' ⟨rfl, hs, hn, h4, rfl⟩
    rw [List.take_of_length_le (by omega)] at h4
    simp [h4]

theorem ref01_Get {h : AH} {n : Nat} {v : AV} {bs : List Nat} (hv : Sl h 1 n v (by8 bs)) (hb : ∀ x ∈ bs, x < 256) (h1 : 1 ≤ n) (h8 : n ≤ 8) (K : AV → AH → Prop) :
    Ev P SI (.fn f_ref01_Get) [v] h K = K (.tuple [.int .u64 (beV bs : Int), .bool true]) h := by
  refine Ev.eq (ev_fn k_ref01_Get rfl rfl ?_) K
  have hl : bs.length = n := by have := hv.1; simpa using this
  have e1 : ¬ ((n : Int) < 1) := by omega
  have e2 : ¬ (8 < (n : Int)) := by omega
  simp [c_ref01_Get, hv.len, e1, e2]
  refine w_count (n := n) (by rfl) (fun j σ ds h' => ds = [] ∧ σ 15 = v ∧ σ 16 = .int .i64 (n : Int) ∧ σ 4 = .int .u64 (beV (bs.take j) : Int) ∧ h' = h) (by omega) (by simp) (by simp [beV]) (fun j σ ds h' hJ => by simp [hJ.2.2.1]) ?_ ?_
  · rintro j σ ds h' hj hi ⟨rfl, hs, hn, h4, rfl⟩
    have hjl : j < bs.length := by omega
    obtain ⟨id, o, g1, g2, _⟩ := hv.get1 (k := .i64) (i := (j : Int)) rfl hj (x := .int .u8 (bs[j] : Int)) (by rw [by8_get, List.getElem?_eq_getElem hjl]; rfl)
    have hx : bs[j] < 256 := hb _ (List.getElem_mem hjl)
    have ht : beV (bs.take (j + 1)) = beV (bs.take j) * 256 + bs[j] := by
      rw [List.take_add_one, List.getElem?_eq_getElem hjl, Option.toList_some, beV_append]
    have hlt := beV_lt (bs.take j) (fun x hx => hb x (List.mem_of_mem_take hx))
    rw [List.length_take, Nat.min_eq_left (by omega)] at hlt
    have hlt2 : beV (bs.take j) * 256 ≤ 2 ^ 64 - 256 := by
      have : 256 ^ j ≤ 256 ^ 7 := Nat.pow_le_pow_right (by decide) (by omega)
      omega
    have w1 : wrapF .u64 ((beV (bs.take j) : Int) * 256) = (beV (bs.take j) : Int) * 256 := wrap_u64 (by omega) (by omega)
    have w2 : wrapF .u64 (bs[j] : Int) = (bs[j] : Int) := wrap_u64 (by omega) (by omega)
    have w3 : wrapF .u64 ((beV (bs.take j) : Int) * 256 + (bs[j] : Int)) = (beV (bs.take j) : Int) * 256 + (bs[j] : Int) := wrap_u64 (by omega) (by omega)
    simp [hs, hn, h4, hi, g1, g2, w1, w2, w3, ht]
  · rintro σ ds h' ⟨rfl, hs, hn, h4, rfl⟩
    rw [List.take_of_length_le (by omega)] at h4
    simp [h4]

/-- so many of the last bytes laid -/
def fill (k n j : Nat) : List Nat := List.replicate (k - j) 0 ++ (be k n).drop (k - j)

theorem fill_zero (k n : Nat) : fill k n 0 = List.replicate k 0 := by
  simp [fill]
theorem fill_all (k n : Nat) : fill k n k = be k n := by simp [fill]
theorem fill_length (k n j : Nat) (hj : j ≤ k) : (fill k n j).length = k := by
  rw [fill, List.length_append, List.length_replicate, List.length_drop, be_length]; omega

theorem fill_step (k n j : Nat) (hj : j < k) : splice (by8 (fill k n j)) (k - 1 - j) [.int .u8 ((n / 256 ^ j % 256 : Nat) : Int)] = by8 (fill k n (j + 1)) := by
  have h1 : (be k n).drop (k - (j + 1)) = (n / 256 ^ j % 256) :: (be k n).drop (k - j) := by
    have hlt : k - 1 - j < (be k n).length := by rw [be_length]; omega
    have hg := be_get k n j hj
    rw [List.getElem?_eq_getElem hlt] at hg
    rw [show k - (j + 1) = k - 1 - j from by omega, List.drop_eq_getElem_cons hlt, Option.some.inj hg, show k - 1 - j + 1 = k - j from by omega]
  have h2 : fill k n (j + 1) = List.replicate (k - 1 - j) 0 ++ ((n / 256 ^ j % 256) :: (be k n).drop (k - j)) := by
    rw [fill, h1, show k - (j + 1) = k - 1 - j from by omega]
  have h3 : fill k n j = List.replicate (k - 1 - j) 0 ++ (0 :: (be k n).drop (k - j)) := by
    rw [fill, show k - j = (k - 1 - j) + 1 from by omega, List.replicate_succ', List.append_assoc]; rfl
  rw [h2, h3]
  simp only [splice, by8, List.map_append, List.map_cons, List.length_singleton]
  rw [List.take_left' (by simp), ← List.drop_drop, List.drop_left' (by simp)]
  rfl

theorem shr_byte (n j : Nat) (hj : j < 8) : wrapF .u8 (((n : Nat) : Int).fdiv (2 ^ min (8 * j) 64)) = ((n / 256 ^ j % 256 : Nat) : Int) := by
  rw [Nat.min_eq_left (by omega), wrap8, Int.fdiv_eq_ediv_of_nonneg _ (by exact_mod_cast Nat.zero_le _)]
  have : (2 : Int) ^ (8 * j) = ((256 ^ j : Nat) : Int) := by
    rw [Int.pow_mul]; norm_cast
  rw [this]
  norm_cast

theorem crc_Put (n k : Nat) (hn : n < 2 ^ 64) (hk : k ≤ 8) (h : AH) (K : AV → AH → Prop) :
    Ev P SI (.fn f_crc_Put) [.int .u64 (n : Int), .int .i64 (k : Int)] h K = K (.slice h.next 0 k k true 1) (h.push (.cells (by8 (be k n)) false)) := by
  refine Ev.eq (ev_fn k_crc_Put rfl rfl ?_) K
  have e1 : max (k : Int) 0 = k := by omega
  have e2 : min (k : Int) 8 = k := by omega
  have e3 : repl [AV.int .u8 0] k = by8 (fill k n 0) := by rw [repl_one, fill_zero]; simp [by8]
  simp [c_crc_Put, e1, e2, opMkS_nat 1 1 k [.int .u8 0] .i64 .i64 (by omega) (by omega), e3]
  refine w_count (n := k) (by rfl) (fun j σ ds h' => ds = [] ∧ σ 0 = .int .u64 (n : Int) ∧ σ 5 = .slice h.next 0 k k true 1 ∧ σ 12 = .int .i64 (k : Int) ∧ h' = h.push (.cells (by8 (fill k n j)) false)) (by omega) (by simp) (by simp) (fun j σ ds h' hJ => by simp [hJ.2.2.2.1]) ?_ ?_
  · rintro j σ ds h' hj hi ⟨rfl, h0, h5, h12, rfl⟩
    have w1 : wrapF .i64 ((k : Int) - 1) = (k : Int) - 1 := wrap_i64 (by omega) (by omega)
    have w2 : wrapF .i64 ((k : Int) - 1 - (j : Int)) = ((k - 1 - j : Nat) : Int) := by rw [wrap_i64 (by omega) (by omega)]; omega
    have w3 : wrapF .i64 (8 * (j : Int)) = ((8 * j : Nat) : Int) := by rw [wrap_i64 (by omega) (by omega)]; omega
    have i1 := opIdxV_slice (es := 1) (id := h.next) (off := 0) (len := k) (cap := k) (x := true) (k := .i64) (i := ((k - 1 - j : Nat) : Int)) ⟨by omega, by omega⟩
    have s1 : storeN (h.push (.cells (by8 (fill k n j)) false)) h.next (k - 1 - j) [.int .u8 ((n / 256 ^ j % 256 : Nat) : Int)] = .ok (h.push (.cells (by8 (fill k n (j + 1))) false)) := by
      rw [storeN_one (get_push_new _) (by rw [by8_length, fill_length _ _ _ (by omega)]; omega) rfl, fill_step k n j hj, AH.set_push]
    have b1 := shr_byte n j (by omega)
    have b2 : opBin P .shr t_uint64 false (.int .u64 (n : Int)) (.int .i64 (8 * (j : Int))) = .ok (.int .u64 ((n : Int).fdiv (2 ^ min (8 * j) 64))) := by
      rw [bin_shr_u64 _ _ _ _ _ (by omega), show (8 * (j : Int)).toNat = 8 * j from by omega]
    generalize ((n / 256 ^ j % 256 : Nat) : Int) = x at s1 b1
    simp only [Int.toNat_natCast, Nat.zero_add, Nat.mul_one] at i1
    simp [h0, h5, h12, hi, w1, w2, w3, i1, b1, b2, s1]
  · rintro σ ds h' ⟨rfl, h0, h5, h12, rfl⟩
    simp [h5, fill_all]

theorem tmod256 (q : Nat) : ((q : Nat) : Int).tmod 256 = ((q % 256 : Nat) : Int) := by rw [Int.tmod_eq_emod_of_nonneg (by omega)]; norm_cast
theorem tdiv256 (q : Nat) : ((q : Nat) : Int).tdiv 256 = ((q / 256 : Nat) : Int) := by rw [Int.tdiv_eq_ediv_of_nonneg (by omega)]; norm_cast

theorem ref01_Put (n k : Nat) (hn : n < 2 ^ 64) (hk : k ≤ 8) (h : AH) (K : AV → AH → Prop) :
    Ev P SI (.fn f_ref01_Put) [.int .u64 (n : Int), .int .i64 (k : Int)] h K = K (.slice h.next 0 k k true 1) (h.push (.cells (by8 (be k n)) false)) := by
  refine Ev.eq (ev_fn k_ref01_Put rfl rfl ?_) K
  have e1 : max (k : Int) 0 = k := by omega
  have e2 : min (k : Int) 8 = k := by omega
  have e3 : repl [AV.int .u8 0] k = by8 (fill k n 0) := by rw [repl_one, fill_zero]; simp [by8]
  have e4 : wrapF .i64 ((k : Int) - 1) = (k : Int) - 1 := wrap_i64 (by omega) (by omega)
  simp [c_ref01_Put, e1, e2, opMkS_nat 1 1 k [.int .u8 0] .i64 .i64 (by omega) (by omega), e3, e4]
  refine w_loop (fun r σ ds h' => ∃ j, r + j = k ∧ ds = [] ∧ (∃ q : Nat, q = n / 256 ^ j ∧ σ 0 = .int .u64 (q : Int)) ∧ σ 6 = .slice h.next 0 k k true 1 ∧ σ 7 = .int .i64 ((k : Int) - 1 - (j : Int)) ∧ h' = h.push (.cells (by8 (fill k n j)) false)) k ⟨0, by simp⟩ ?_
  rintro r σ ds h' ⟨j, hr, rfl, ⟨q, hq, h0⟩, h6, h7, rfl⟩
  by_cases hj : j < k
  · have c1 : (j : Int) ≤ (k : Int) - 1 := by omega
    have i1 := opIdxV_slice (es := 1) (id := h.next) (off := 0) (len := k) (cap := k) (x := true) (k := .i64) (i := (k : Int) - 1 - (j : Int)) ⟨by omega, by omega⟩
    have t1 : ((k : Int) - 1 - (j : Int)).toNat = k - 1 - j := by omega
    rw [t1] at i1
    simp only [Nat.zero_add, Nat.mul_one] at i1
    have hqn : q < 2 ^ 64 := by rw [hq]; exact Nat.lt_of_le_of_lt (Nat.div_le_self _ _) hn
    have m1 : (q : Int).tmod 256 = (q : Int) % 256 := Int.tmod_eq_emod_of_nonneg (by omega)
    have m2 : wrapF .u8 ((q : Int) % 256) = (q : Int) % 256 := wrap_u8 (by omega) (by omega)
    have q1 : (q : Int).tdiv 256 = (q : Int) / 256 := Int.tdiv_eq_ediv_of_nonneg (by omega)
    have q2 : wrapF .u64 ((q : Int) / 256) = (q : Int) / 256 := wrap_u64 (by omega) (by omega)
    have w1 : wrapF .i64 ((k : Int) - 1 - (j : Int) - 1) = (k : Int) - 1 - ((j + 1 : Nat) : Int) := by rw [wrap_i64 (by omega) (by omega)]; omega
    have s1 : storeN (h.push (.cells (by8 (fill k n j)) false)) h.next (k - 1 - j) [.int .u8 ((q : Int) % 256)] = .ok (h.push (.cells (by8 (fill k n (j + 1))) false)) := by
      rw [show (q : Int) % 256 = ((n / 256 ^ j % 256 : Nat) : Int) from by rw [← hq]; omega]
      rw [storeN_one (get_push_new _) (by rw [by8_length, fill_length _ _ _ (by omega)]; omega) rfl, fill_step k n j hj, AH.set_push]
    simp [h0, h6, h7, c1, i1, m1, m2, q1, q2, s1, w1, Kloop_normal]
    have e : ((q / 256 : Nat) : Int) = ((n / 256 ^ (j + 1) : Nat) : Int) := by rw [hq, Nat.div_div_eq_div_mul, ← Nat.pow_succ]
    exact ⟨r - 1, by omega, j + 1, by omega, by simpa using e, by simp⟩
  · have hjk : j = k := by omega
    subst hjk
    have c1 : ¬ ((j : Int) ≤ (j : Int) - 1) := by omega
    simp [h6, h7, c1, fill_all]

theorem ref10_Int {h : AH} {n k : Nat} {v : AV} {bs : List Nat} (hv : Sl h 1 n v (by8 bs)) (hb : ∀ x ∈ bs, x < 256) (h1 : 1 ≤ k) (h8 : k ≤ 8) (hn : k ≤ n) :
    ∃ v', (∀ g, Sl g 1 n v (by8 bs) → Sl g 1 (n - k) v' (by8 (bs.drop k))) ∧ ∀ K, Ev P SI (.fn f_ref10_Int) [v, .int .i64 (k : Int)] h K = K (.tuple [.int .i64 (wrapF .i64 (beV (bs.take k) : Int)), v', .bool true]) h := by
  have hl : bs.length = n := by have := hv.1; simpa using this
  obtain ⟨u, e1, s1⟩ := hv.slice (lo := none) (hi := some (.int .i64 (k : Int))) (a := 0) (b := k) (.inl ⟨rfl, rfl⟩) (.inr ⟨.i64, rfl⟩) (by omega) hn
  obtain ⟨v', e2, _⟩ := hv.slice (lo := some (.int .i64 (k : Int))) (hi := none) (a := k) (b := n) (.inr ⟨.i64, rfl⟩) (.inl ⟨rfl, rfl⟩) hn (Nat.le_refl _)
  have s1' : Sl h 1 k u (by8 (bs.take k)) := by simpa [by8_take, by8_drop] using s1
  have s2' : ∀ g, Sl g 1 n v (by8 bs) → Sl g 1 (n - k) v' (by8 (bs.drop k)) := by
    intro g hg
    obtain ⟨v'', e3, s3⟩ := hg.slice (lo := some (.int .i64 (k : Int))) (hi := none) (a := k) (b := n) (.inr ⟨.i64, rfl⟩) (.inl ⟨rfl, rfl⟩) hn (Nat.le_refl _)
    rw [e2] at e3
    cases e3
    have : (bs.drop k).take (n - k) = bs.drop k := List.take_of_length_le (by simp; omega)
    simpa [by8_take, by8_drop, this] using s3
  refine ⟨v', s2', fun K => Ev.eq (ev_fn k_ref10_Int rfl rfl ?_) K⟩
  have c1 : ¬ ((n : Int) < (k : Int)) := by omega
  simp [c_ref10_Int, hv.len, c1, e1, e2, ref01_Get s1' (fun x hx => hb x (List.mem_of_mem_take hx)) h1 h8]

theorem ref10_Int_short {h : AH} {n k : Nat} {v : AV} {l : List AV} (hv : Sl h 1 n v l) (hn : n < k) (K : AV → AH → Prop) :
    Ev P SI (.fn f_ref10_Int) [v, .int .i64 (k : Int)] h K = K (.tuple [.int .i64 0, .nils, .bool false]) h := by
  refine Ev.eq (ev_fn k_ref10_Int rfl rfl ?_) K
  have c1 : ((n : Int) < (k : Int)) := by omega
  simp [c_ref10_Int, hv.len, c1]



theorem txt_inj {a b : List Nat} (ha : ∀ x ∈ a, x < 256) (hb : ∀ x ∈ b, x < 256) (e : txtOf a = txtOf b) : a = b := by
  have h1 : ∀ l : List Nat, (∀ x ∈ l, x < 256) → (txtOf l).map UInt8.toNat = l := by
    intro l hl
    unfold txtOf
    rw [List.map_map]
    conv => rhs; rw [← List.map_id l]
    apply List.map_congr_left
    intro x hx
    have := hl x hx
    simp
    omega
  rw [← h1 a ha, ← h1 b hb, e]

theorem bytes_Equal {h : AH} {n m : Nat} {v u : AV} {a b : List Nat} (s : Sl h 1 n v (by8 a)) (t : Sl h 1 m u (by8 b)) (ha : ∀ x ∈ a, x < 256) (hb : ∀ x ∈ b, x < 256) (K : AV → AH → Prop) :
    Ev P SI (.fn f_bytes_Equal) [v, u] h K = K (.bool (decide (a = b))) h := by
  refine Ev.eq (ev_fn k_bytes_Equal rfl rfl ?_) K
  have hs := conv_strB s
  have ht := conv_strB t
  by_cases e : a = b
  · subst e
    simp [c_bytes_Equal, hs, ht]
  · have e' : ¬ txtOf a = txtOf b := fun h => e (txt_inj ha hb h)
    simp [c_bytes_Equal, hs, ht, e, e']

end Go.Dk

namespace Go.Dk
open Go Go.Dr
set_option maxRecDepth 100000

abbrev Smp := Int × Nat
def smC (x : Smp) : List AV := [.int .i64 x.1, .int .u64 (x.2 : Int)]
theorem smC_len (x : Smp) : (smC x).length = 2 := rfl

def risS : List Smp → Bool
  | [] => true
  | [_] => true
  | a :: b :: r => decide (a.1 < b.1) && risS (b :: r)

def canS (l : List Smp) : Bool := risS l && decide (l.length ≤ 65535)

theorem risS_step {l : List Smp} {j : Nat} {x y : Smp} (hy : l[j]? = some y) (hx : l[j + 1]? = some x) : risS (l.drop j) = (decide (y.1 < x.1) && risS (l.drop (j + 1))) := by
  obtain ⟨h1, e1⟩ := List.getElem?_eq_some_iff.1 hy
  obtain ⟨h2, e2⟩ := List.getElem?_eq_some_iff.1 hx
  rw [List.drop_eq_getElem_cons h1, List.drop_eq_getElem_cons h2, risS, e1, e2]

theorem risS_end (l : List Smp) (j : Nat) (hj : l.length ≤ j + 1) : risS (l.drop j) = true := by
  by_cases h : j < l.length
  · rw [List.drop_eq_getElem_cons h, List.drop_of_length_le (by omega), risS]
  · rw [List.drop_of_length_le (by omega), risS]

theorem smp_t {h : AH} {n : Nat} {v : AV} {l : List Smp} (s : Sl h 2 n v (l.flatMap smC)) {j : Nat} {x : Smp} (hx : l[j]? = some x) :
    ∃ id o, opIdxV 2 v (.int .i64 (j : Int)) = .ok (.ptr id o) ∧ loadN h id o 2 = .ok (smC x) ∧ load1 h id o = .ok (.int .i64 x.1) ∧ load1 h id (o + 1) = .ok (.int .u64 (x.2 : Int)) ∧ id < h.next := by
  obtain ⟨id, o, h1, h2, h3, h4⟩ := s.elem (fun _ _ => rfl) (by omega) (k := .i64) (i := (j : Int)) rfl hx
  exact ⟨id, o, h1, h2, h3 0 _ rfl, h3 1 _ rfl, h4⟩

theorem at_some {α : Type} {l : List α} {j : Nat} (h : j < l.length) : ∃ x, l[j]? = some x := ⟨_, List.getElem?_eq_getElem h⟩

theorem smp_len {h : AH} {n : Nat} {v : AV} {l : List Smp} (s : Sl h 2 n v (l.flatMap smC)) : l.length = n := by
  have := s.1
  rw [flatMap_len l (es := 2) (fun _ _ => rfl)] at this
  omega

theorem codec_Can {h : AH} {n : Nat} {v : AV} {l : List Smp} (s : Sl h 2 n v (l.flatMap smC)) (hn : n ≤ 2 ^ 40) (K : AV → AH → Prop) : Ev P SI (.fn f_codec_Can) [v] h K = K (.bool (canS l)) h := by
  refine Ev.eq (ev_fn k_codec_Can rfl rfl ?_) K
  have hl := smp_len s
  simp [c_codec_Can]
  refine w_loop (fun q σ ds g => ∃ j : Nat, q + j = n + 1 ∧ ds = [] ∧ g = h ∧ σ 0 = v ∧ σ 3 = .int .i64 ((j + 1 : Nat) : Int) ∧ risS l = risS (l.drop j)) (n + 1) ⟨0, by omega, rfl, rfl, by simp, by simp, by simp⟩ ?_
  rintro q σ ds g ⟨j, hq, rfl, rfl, e0, e3, hr⟩
  by_cases hj : j + 1 < n
  · obtain ⟨⟨x, xv⟩, hx⟩ := at_some (l := l) (j := j + 1) (by omega)
    obtain ⟨⟨y, yv⟩, hy⟩ := at_some (l := l) (j := j) (by omega)
    obtain ⟨id, o, a1, _, a2, _⟩ := smp_t s hx
    obtain ⟨id', o', b1, _, b2, _⟩ := smp_t s hy
    have hc : ((j + 1 : Nat) : Int) < n := by omega
    have w1 : wrapF .i64 (((j + 1 : Nat) : Int) - 1) = (j : Int) := by rw [wrap_i64 (by omega) (by omega)]; omega
    have w2 : wrapF .i64 (((j + 1 : Nat) : Int) + 1) = ((j + 1 + 1 : Nat) : Int) := by rw [wrap_i64 (by omega) (by omega)]; omega
    rw [risS_step hy hx] at hr
    simp only at a2 b2 hr
    generalize hjj : j + 1 = j1 at *
    by_cases hxy : y < x
    · have hxy' : ¬ x ≤ y := by omega
      simp [e0, e3, s.len, hc, a1, a2, b1, b2, w1, w2, hxy', Kloop_normal]
      exact ⟨q - 1, by omega, j1, by omega, by omega, by simp [hr, hxy]⟩
    · have hxy' : x ≤ y := by omega
      simp [e0, e3, s.len, hc, a1, a2, b1, b2, w1, w2, hxy', canS, hr, hxy]
  · have hc : ¬ ((j + 1 : Nat) : Int) < n := by omega
    rw [risS_end l j (by omega)] at hr
    generalize hjj : j + 1 = j1 at *
    simp [e0, e3, s.len, hc, canS, hr, hl]
    omega

theorem ref11_Can {h : AH} {n : Nat} {v : AV} {l : List Smp} (s : Sl h 2 n v (l.flatMap smC)) (hn : n ≤ 2 ^ 40) (K : AV → AH → Prop) : Ev P SI (.fn f_ref11_Can) [v] h K = K (.bool (canS l)) h := by
  refine Ev.eq (ev_fn k_ref11_Can rfl rfl ?_) K
  have hl := smp_len s
  simp [c_ref11_Can, s.len]
  refine w_count (n := n) (by rfl) (fun j σ ds g => ds = [] ∧ g = h ∧ σ 0 = v ∧ σ 5 = .int .i64 (n : Int) ∧ risS l = risS (l.drop (j - 1))) (by omega) (by simp) ⟨rfl, rfl, by simp, by simp, by simp⟩ (fun j σ ds g hJ => by simp [hJ.2.2.2.1]) ?_ ?_
  · rintro j σ ds g hj hi ⟨rfl, rfl, e0, e5, hr⟩
    cases j with
    | zero =>
      simp [e0, e5, hi]
    | succ j =>
      obtain ⟨⟨x, xv⟩, hx⟩ := at_some (l := l) (j := j + 1) (by omega)
      obtain ⟨⟨y, yv⟩, hy⟩ := at_some (l := l) (j := j) (by omega)
      obtain ⟨id, o, a1, _, a2, _⟩ := smp_t s hx
      obtain ⟨id', o', b1, _, b2, _⟩ := smp_t s hy
      have hc : (0 : Int) < ((j + 1 : Nat) : Int) := by omega
      have w1 : wrapF .i64 (((j + 1 : Nat) : Int) - 1) = (j : Int) := by rw [wrap_i64 (by omega) (by omega)]; omega
      rw [Nat.add_sub_cancel, risS_step hy hx] at hr
      simp only at a2 b2 hr
      rw [show j + 1 + 1 - 1 = j + 1 from rfl]
      generalize hjj : j + 1 = j1 at *
      have hc' : 0 < j1 := by omega
      by_cases hxy : y < x
      · have hxy' : ¬ x ≤ y := by omega
        simp [e0, e5, hi, hc', a1, a2, b1, b2, w1, hxy', hr, hxy]
      · have hxy' : x ≤ y := by omega
        simp [e0, e5, hi, hc', a1, a2, b1, b2, w1, hxy', canS, hr, hxy]
  · rintro σ ds g ⟨rfl, rfl, e0, e5, hr⟩
    rw [risS_end l (n - 1) (by omega)] at hr
    simp [e0, s.len, canS, hr, hl]
    omega

end Go.Dk

namespace Go.Dk
open Go Go.Dr
set_option maxRecDepth 100000

/-- the bits of the samples behind one -/
def tailB (t : Int) (v : Nat) (step : Int) : List Smp → Bits
  | [] => []
  | (t', v') :: l => intB (wrapF .i64 (wrapF .i64 (t' - t) - step)) ++ xorB (v' ^^^ v) ++ tailB t' v' (wrapF .i64 (t' - t)) l

def sampB : List Smp → Bits
  | [] => []
  | (t, v) :: l => lowB (u64 t) 64 ++ lowB v 64 ++ tailB t v 0 l

/-- samples that numbers of their kind can be -/
def SmpR (l : List Smp) : Prop := ∀ x ∈ l, (-9223372036854775808 ≤ x.1 ∧ x.1 < 9223372036854775808) ∧ x.2 < 2 ^ 64

theorem tailB_len : ∀ (l : List Smp) (t : Int) (v : Nat) (step : Int), v < 2 ^ 64 → (∀ x ∈ l, x.2 < 2 ^ 64) → (tailB t v step l).length ≤ 150 * l.length
  | [], _, _, _, _, _ => by simp [tailB]
  | (t', v') :: l, t, v, step, hv, hl => by
    have hv' : v' < 2 ^ 64 := hl (t', v') (by simp)
    have h1 := tailB_len l t' v' (wrapF .i64 (t' - t)) hv' (fun x hx => hl x (List.mem_cons_of_mem _ hx))
    have h2 := intB_len (wrapF .i64 (wrapF .i64 (t' - t) - step))
    have h3 := xorB_len (v' ^^^ v) (Nat.xor_lt_two_pow hv' hv)
    simp only [tailB, List.length_append, List.length_cons]
    omega

theorem sampB_len (l : List Smp) (hl : ∀ x ∈ l, x.2 < 2 ^ 64) : (sampB l).length ≤ 150 * l.length := by
  cases l with
  | nil => simp [sampB]
  | cons x l =>
    obtain ⟨t, v⟩ := x
    have h1 := tailB_len l t v 0 (hl (t, v) (by simp)) (fun x hx => hl x (List.mem_cons_of_mem _ hx))
    simp only [sampB, List.length_append, List.length_cons, lowB_length]
    omega

/-- samples as bytes -/
def encS (l : List Smp) : List Nat := be 2 l.length ++ pack (sampB l)

def EncK (h : AH) (l : List Smp) (r : AV) (g : AH) : Prop :=
  Fr h g ∧ if canS l = true then ∃ v, r = .tuple [v, .int .i64 0] ∧ Sl g 1 (encS l).length v (by8 (encS l)) else r = .tuple [.nils, .int .i64 1]

theorem PackO.fr {h g : AH} {id : Nat} {l : Bits} (p : PackO h id l) (f : Fr h g) : PackO g id l := by
  obtain ⟨v, a, b, c, d⟩ := p
  exact ⟨v, by rw [f.get _ d, a], b.fr f, c, Nat.lt_of_lt_of_le d f.next⟩

/-- so far: j samples are written -/
def EncJ (l : List Smp) (j : Nat) (m : Bits) (step : Int) : Prop :=
  (j = 0 ∧ m = [] ∧ step = 0) ∨ (0 < j ∧ ∃ t w, l[j - 1]? = some (t, w) ∧ m ++ tailB t w step (l.drop j) = sampB l)

theorem EncJ.len {l : List Smp} {j : Nat} {m : Bits} {step : Int} (e : EncJ l j m step) : m.length ≤ (sampB l).length := by
  rcases e with ⟨_, rfl, _⟩ | ⟨_, t, w, _, e⟩
  · simp
  · have := congrArg List.length e
    rw [List.length_append] at this
    omega

theorem EncJ.fin {l : List Smp} {m : Bits} {step : Int} (e : EncJ l l.length m step) : m = sampB l := by
  rcases e with ⟨h0, rfl, _⟩ | ⟨_, t, w, _, e⟩
  · have : l = [] := List.length_eq_zero_iff.1 h0
    subst this; rfl
  · rw [List.drop_length, tailB, List.append_nil] at e
    exact e

theorem crc_Put2 (n : Nat) (hn : n < 2 ^ 64) (h : AH) (K : AV → AH → Prop) :
    Ev P SI (.fn f_crc_Put) [.int .u64 (n : Int), .int .i64 2] h K = K (.slice h.next 0 2 2 true 1) (h.push (.cells (by8 (be 2 n)) false)) := crc_Put n 2 hn (by omega) h K
theorem ref01_Put2 (n : Nat) (hn : n < 2 ^ 64) (h : AH) (K : AV → AH → Prop) :
    Ev P SI (.fn f_ref01_Put) [.int .u64 (n : Int), .int .i64 2] h K = K (.slice h.next 0 2 2 true 1) (h.push (.cells (by8 (be 2 n)) false)) := ref01_Put n 2 hn (by omega) h K

theorem codec_Encode {h : AH} {n : Nat} {v : AV} {l : List Smp} (s : Sl h 2 n v (l.flatMap smC)) (hn : n ≤ 2 ^ 40) (hv : ∀ x ∈ l, x.2 < 2 ^ 64) (ht : TabIn h) :
    Ev P SI (.fn f_codec_Encode) [v] h (EncK h l) := by
  refine ev_fn k_codec_Encode rfl rfl ?_
  have hl := smp_len s
  unfold EncK
  by_cases hc : canS l = true
  case neg =>
    have hc' : canS l = false := by simpa using hc
    simp [c_codec_Encode, codec_Can s hn, hc']
    exact .refl _
  have hn2 : n ≤ 65535 := by
    simp [canS] at hc
    omega
  have hsl := sampB_len l hv
  simp [c_codec_Encode, codec_Can s hn, hc, s.len]
  have f0 := Fr.push (.refl h) (.cells [.nils, .int .i64 0] false)
  have p0 : PackO (h.push (.cells [.nils, .int .i64 0] false)) h.next [] := ⟨.nils, get_push_new _, ⟨rfl, .inl ⟨rfl, rfl⟩⟩, by simp [idOf], Nat.lt_succ_self _⟩
  generalize hg0 : h.push (.cells [.nils, .int .i64 0] false) = g0 at *
  refine w_count (n := n) (by rfl) (fun j σ ds g => ds = [] ∧ σ 0 = v ∧ σ 4 = .ptr h.next 0 ∧ σ 12 = v ∧ σ 13 = .int .i64 (n : Int) ∧ Fr h g ∧ ∃ m step, σ 5 = .int .i64 step ∧ PackO g h.next m ∧ EncJ l j m step) (by omega) (by simp)
    ⟨rfl, by simp, by simp, by simp, by simp, f0, [], 0, by simp, p0, .inl ⟨rfl, rfl, rfl⟩⟩ (fun j σ ds g hJ => by simp [hJ.2.2.2.2.1]) ?_ ?_
  · rintro j σ ds g hj hi ⟨rfl, e0, e4, e12, e13, fr, m, step, e5, po, hJ⟩
    obtain ⟨⟨t, w⟩, hx⟩ := at_some (l := l) (j := j) (by omega)
    have hm := hJ.len
    have hw : w < 2 ^ 64 := hv _ (List.mem_of_getElem? hx)
    obtain ⟨id, o, a1, a2, _⟩ := smp_t (s.fr fr) hx
    have f1 := Fr.push (.refl g) (.cells [.int .i64 t, .int .u64 (w : Int)] false)
    have gg : (g.push (.cells [.int .i64 t, .int .u64 (w : Int)] false)).get g.next = some (.cells [.int .i64 t, .int .u64 (w : Int)] false) := get_push_new _
    have gn : (g.push (.cells [.int .i64 t, .int .u64 (w : Int)] false)).next = g.next + 1 := rfl
    have hpn : h.next < g.next := by obtain ⟨_, _, _, _, d⟩ := po; exact d
    have hdrop : l.drop j = (t, w) :: l.drop (j + 1) := by
      obtain ⟨h1, h2⟩ := List.getElem?_eq_some_iff.1 hx
      rw [List.drop_eq_getElem_cons h1, h2]
    generalize hg1 : g.push (.cells [.int .i64 t, .int .u64 (w : Int)] false) = g1 at *
    have po1 := po.fr f1
    have ld0 : load1 g1 g.next 0 = .ok (.int .i64 t) := load1_of gg
    have ld1 : load1 g1 g.next 1 = .ok (.int .u64 (w : Int)) := load1_of gg
    simp [smC] at a2
    rcases hJ with ⟨rfl, rfl, rfl⟩ | ⟨h0, t0, w0, hp, hcat⟩
    · have wu := wrap_u64n t
      have a1' : opIdxV 2 v (.int .i64 0) = .ok (.ptr id o) := a1
      simp [e0, e4, e5, e12, e13, hi, a1', a2, hg1, ld0, wu]
      refine (pack_put (n := u64 t) (cnt := 64) po1 (u64_lt t) (by omega) (by simp)).mono ?_
      rintro r g2 ⟨rfl, p2, x2⟩
      have ld1' : load1 g2 g.next 1 = .ok (.int .u64 (w : Int)) := by
        have := x2.get g.next (by omega) (by omega)
        rw [gg] at this
        exact load1_of this
      simp [ld1', e4]
      refine (pack_put (n := w) (cnt := 64) p2 hw (by omega) (by simp)).mono ?_
      rintro r g3 ⟨rfl, p3, x3⟩
      simp [e0, e4, e5, e12, e13, hi]
      refine ⟨FrX.fr (FrX.fr (fr.trans f1) x2 (Nat.le_refl _)) x3 (Nat.le_refl _), _, p3, .inr ⟨by omega, t, w, by simpa using hx, ?_⟩⟩
      rw [show l = (t, w) :: l.drop 1 from by simpa using hdrop]
      simp [sampB]
    · obtain ⟨j, rfl⟩ : ∃ i, j = i + 1 := ⟨j - 1, by omega⟩
      obtain ⟨id', o', b1, _, b2, b3, hidlt⟩ := smp_t ((s.fr fr).fr f1) hp
      rw [Nat.add_sub_cancel] at b1
      simp only at b2 b3
      have c0 : ¬ ((j + 1 : Nat) : Int) = 0 := by omega
      have w1 : wrapF .i64 (((j + 1 : Nat) : Int) - 1) = (j : Int) := by rw [wrap_i64 (by omega) (by omega)]; omega
      have hw0 : w0 < 2 ^ 64 := hv _ (List.mem_of_getElem? hp)
      have xx := xor_u64 (P := P) t_uint64 false w w0 hw hw0
      have hwx : w ^^^ w0 < 2 ^ 64 := Nat.xor_lt_two_pow hw hw0
      generalize hwxd : w ^^^ w0 = wx at *
      generalize hjj : ((j + 1 : Nat) : Int) = j1 at *
      simp [e0, e4, e5, e12, e13, hi, a1, a2, hg1, ld0, ld1, c0, w1, b1, b2, xx, -bin_xor_u64]
      refine (pack_number po1 (by omega)).mono ?_
      rintro r g2 ⟨rfl, p2, x2⟩
      have F2 := FrX.fr (fr.trans f1) x2 (Nat.le_refl _)
      have ld1' : load1 g2 g.next 1 = .ok (.int .u64 (w : Int)) := by
        have := x2.get g.next (by omega) (by omega)
        rw [gg] at this
        exact load1_of this
      obtain ⟨id2, o2, c1, _, _, c3, _⟩ := smp_t (s.fr F2) hp
      rw [Nat.add_sub_cancel, b1] at c1
      cases c1
      simp only at c3
      simp [e0, e4, ld1', w1, b1, c3, xx, -bin_xor_u64]
      have hlen2 : (m ++ intB (wrapF .i64 (wrapF .i64 (t - t0) - step))).length ≤ 2 ^ 33 := by
        have := intB_len (wrapF .i64 (wrapF .i64 (t - t0) - step))
        rw [List.length_append]
        omega
      refine (pack_value p2 hwx (ht.fr F2) (by have := ht.1; omega) hlen2).mono ?_
      rintro r g3 ⟨rfl, p3, x3⟩
      simp [e0, e4, e12, e13, hi]
      refine ⟨FrX.fr F2 x3 (Nat.le_refl _), _, p3, .inr ⟨by omega, t, w, hx, ?_⟩⟩
      rw [hdrop, tailB] at hcat
      rw [← hcat, hwxd]
      simp
  · rintro σ ds g ⟨rfl, e0, e4, e12, e13, fr, m, step, e5, po, hJ⟩
    rw [← hl] at hJ
    have hm := hJ.fin
    subst hm
    obtain ⟨u, hu, su, _, hlt⟩ := po
    have lu := load1_of hu (off := 0)
    simp [ofO] at lu
    have wn : wrapF .u64 (n : Int) = (n : Int) := wrap_u64 (by omega) (by omega)
    have f2 := Fr.push (.refl g) (.cells (by8 (be 2 n)) false)
    have ow := Own.fresh (B := g.next) (h := g) (es := 1) (n := 2) (l := by8 (be 2 n)) true (Nat.le_refl _) (by simp)
    obtain ⟨r, g', ap, og, fb, _⟩ := ow.append (bytes := 1) (su.fr f2) (Nat.le_succ _) (by8_scalar _) (by omega) (by omega)
    have lu2 : load1 (g.push (.cells (by8 (be 2 n)) false)) h.next 0 = .ok u := by
      have := f2.get _ hlt
      rw [hu] at this
      exact load1_of this
    have hus : eqAV 12 u u = true := su.same
    simp [e0, e4, s.len, wn, lu, crc_Put2 n (by omega), lu2, hus, ap]
    refine ⟨⟨Nat.le_trans fr.next (Nat.le_trans (Nat.le_succ _) fb.next), fun i hi => by rw [fb.get i (by have := fr.next; omega), get_push_old (by have := fr.next; omega), fr.get i hi]⟩, ?_⟩
    have := og.sl
    rw [← by8_append] at this
    rw [show (encS l).length = 2 + ((sampB l).length + 7) / 8 from by simp [encS], encS, hl]
    exact this

end Go.Dk

namespace Go.Dk
open Go Go.Dr
set_option maxRecDepth 100000

theorem bitsOf_length8 (b : List Nat) : (bitsOf b).length = 8 * b.length := bitsOf_length b

/-- so many bits from a place on, as a number -/
def takeB (bs : Bits) (at' cnt : Nat) : Option Nat := if at' + cnt ≤ bs.length then some (val ((bs.drop at').take cnt)) else none

theorem takeB_lt {bs : Bits} {at' cnt x : Nat} (h : takeB bs at' cnt = some x) : x < 2 ^ cnt := by
  unfold takeB at h
  split at h
  · cases h
    have := val_lt ((bs.drop at').take cnt)
    have h2 : ((bs.drop at').take cnt).length = cnt := by simp; omega
    rw [h2] at this
    exact this
  · cases h

theorem ones8 : ∀ t : Fin 9, wrapF .u8 (((1 * 2 ^ t.val % 256 : Nat) : Int) - 1) = ((2 ^ t.val - 1 : Nat) : Int) := by decide

theorem bits_Take {h : AH} {n at' cnt : Nat} {v : AV} {b : List Nat} (s : Sl h 1 n v (by8 b)) (hb : ∀ x ∈ b, x < 256) (hn : n ≤ 2 ^ 36) (ha : at' ≤ 2 ^ 42) (hc : cnt ≤ 64) :
    Ev P SI (.fn f_bits_Take) [.agg [v, .int .i64 ((8 * n : Nat) : Int)], .int .i64 (at' : Int), .int .i64 (cnt : Int)] h fun r g => Fr h g ∧
      match takeB (bitsOf b) at' cnt with
      | some x => r = .tuple [.int .u64 (x : Int), .int .i64 0]
      | none => ∃ e : Int, e ≠ 0 ∧ r = .tuple [.int .u64 0, .int .i64 e] := by
  refine ev_fn k_bits_Take rfl rfl ?_
  have hbl : b.length = n := by have := s.1; simpa using this
  obtain ⟨N, hN⟩ : ∃ N, N = 8 * n := ⟨_, rfl⟩
  rw [← hN]
  have f0 := Fr.push (.refl h) (.cells [v, .int .i64 (N : Int)] false)
  have g0 : (h.push (.cells [v, .int .i64 (N : Int)] false)).get h.next = some (.cells [v, .int .i64 (N : Int)] false) := get_push_new _
  have hnx : (h.push (.cells [v, .int .i64 (N : Int)] false)).next = h.next + 1 := rfl
  generalize hh1 : h.push (.cells [v, .int .i64 (N : Int)] false) = h1 at *
  have ld := loadN_pair g0
  simp [c_bits_Take, hh1, ld]
  refine (bits_Can (N := N) (s.fr f0) hn (by omega) (by omega) (.inl hN)).mono ?_
  rintro r g ⟨rfl, fa⟩
  have c1 : ¬ (cnt : Int) < 0 := by omega
  have c2 : ¬ (64 : Int) < cnt := by omega
  have c3 : ¬ (at' : Int) < 0 := by omega
  have g0' := fa.get h.next (by omega)
  rw [g0] at g0'
  have lc0 : load1 g h.next 0 = .ok v := load1_of g0'
  have lc1 : load1 g h.next 1 = .ok (.int .i64 (N : Int)) := load1_of g0'
  have f1 := f0.trans fa
  have hbs := bitsOf_length8 b
  by_cases c4 : N < at'
  · have : takeB (bitsOf b) at' cnt = none := by unfold takeB; rw [if_neg (by omega)]
    simp [c1, c2, c3, lc1, c4, this]
    exact f1
  have x1 : wrapF .i64 ((N : Int) - (at' : Int)) = ((N - at' : Nat) : Int) := by rw [wrap_i64 (by omega) (by omega)]; omega
  by_cases c5 : N - at' < cnt
  · have : takeB (bitsOf b) at' cnt = none := by unfold takeB; rw [if_neg (by omega)]
    generalize N - at' = left at *
    simp [c1, c2, c3, lc1, c4, x1, c5, this]
    exact f1
  have ht : takeB (bitsOf b) at' cnt = some (val (((bitsOf b).drop at').take cnt)) := by unfold takeB; rw [if_pos (by omega)]
  rw [ht]
  have c5' : ¬ ((N - at' : Nat) : Int) < cnt := by omega
  have hfit : at' + cnt ≤ N := by omega
  generalize N - at' = left at *
  simp [c1, c2, c3, lc1, c4, x1, c5]
  refine w_mono (Q := fun x σ ds g' => x = .exit 1 ∧ ds = [] ∧ g' = g ∧ σ 8 = .int .u64 ((val (((bitsOf b).drop at').take cnt) : Nat) : Int)) ?_ ?_
  rotate_left
  · rintro x σ ds g' ⟨rfl, rfl, rfl, e8⟩
    simp [e8]
    exact f1
  refine w_loop (fun q σ ds g' => ∃ c : Nat, q = c ∧ c ≤ cnt ∧ ds = [] ∧ g' = g ∧ σ 3 = .ptr h.next 0 ∧ σ 1 = .int .i64 ((at' + (cnt - c) : Nat) : Int) ∧ σ 2 = .int .i64 (c : Int) ∧ σ 8 = .int .u64 ((val (((bitsOf b).drop at').take (cnt - c)) : Nat) : Int)) cnt
    ⟨cnt, rfl, Nat.le_refl _, rfl, rfl, by simp, by simp, by simp, by simp⟩ ?_
  rintro q σ ds g' ⟨c, rfl, hcc, rfl, rfl, e3, e1, e2, e8⟩
  by_cases h0 : q = 0
  · subst h0
    rw [Nat.sub_zero] at e8
    simp [e2, e8]
  obtain ⟨k, hk⟩ : ∃ k, k = cnt - q := ⟨_, rfl⟩
  obtain ⟨a, ha'⟩ : ∃ a, a = at' + k := ⟨_, rfl⟩
  rw [← hk] at e1 e8
  rw [← ha'] at e1
  obtain ⟨f, hf⟩ : ∃ f, f = 8 - a % 8 := ⟨_, rfl⟩
  obtain ⟨t, ht'⟩ : ∃ t, t = min f q := ⟨_, rfl⟩
  obtain ⟨d, hd⟩ : ∃ d, d = q - t := ⟨_, rfl⟩
  obtain ⟨e, he⟩ : ∃ e, e = f - t := ⟨_, rfl⟩
  have ht1 : 1 ≤ t := by omega
  have ht8 : t ≤ 8 := by omega
  obtain ⟨y, hy⟩ := at_some (l := b) (j := a / 8) (by omega)
  have hy256 : y < 256 := hb _ (List.mem_of_getElem? hy)
  have hwin := bitsOf_within b a t y hy (by omega)
  rw [show 8 - a % 8 - t = e from by omega] at hwin
  have hxlt := val_lt (((bitsOf b).drop at').take k)
  have hkl : (((bitsOf b).drop at').take k).length = k := by simp; omega
  rw [hkl] at hxlt
  have hstep : ((bitsOf b).drop at').take (k + t) = ((bitsOf b).drop at').take k ++ lowB (y / 2 ^ e) t := by
    rw [List.take_add, List.drop_drop, ← ha', hwin]
  have hval : val (((bitsOf b).drop at').take (k + t)) = val (((bitsOf b).drop at').take k) * 2 ^ t + (y / 2 ^ e) % 2 ^ t := by
    rw [hstep, val_append, lowB_length, val_lowB]
  have hnext : cnt - d = k + t := by omega
  generalize val (((bitsOf b).drop at').take k) = x at *
  have hx64 : x * 2 ^ t < 2 ^ 64 := by
    have h1 : 2 ^ k * 2 ^ t ≤ 2 ^ 64 := by rw [← Nat.pow_add]; exact Nat.pow_le_pow_right (by omega) (by omega)
    exact Nat.lt_of_lt_of_le (Nat.mul_lt_mul_of_pos_right hxlt (Nat.two_pow_pos _)) h1
  have hrem : (a : Int).tmod 8 = ((a % 8 : Nat) : Int) := tmod_nat _ 8
  have x1' : wrapF .i64 (8 - ((a % 8 : Nat) : Int)) = (f : Int) := by rw [wrap_i64 (by omega) (by omega)]; omega
  have x2 : min (f : Int) (q : Int) = (t : Int) := by omega
  have x3 := shl_u64 (P := P) t_uint64 false .i64 x t (by omega)
  rw [Nat.mod_eq_of_lt hx64] at x3
  have x4 : (a : Int).tdiv 8 = ((a / 8 : Nat) : Int) := tdiv_nat _ 8
  have x4' : wrapF .i64 ((a / 8 : Nat) : Int) = ((a / 8 : Nat) : Int) := wrap_i64 (by omega) (by omega)
  have x5 : wrapF .i64 ((f : Int) - (t : Int)) = (e : Int) := by rw [wrap_i64 (by omega) (by omega)]; omega
  have x6 := shr_u8 (P := P) t_uint8 false .i64 y e (by omega)
  have x7 := shl_u8 (P := P) t_uint8 true .i64 1 t (by omega)
  have x8 := ones8 ⟨t, by omega⟩
  simp only at x8
  rw [show ((1 : Nat) : Int) = 1 from rfl] at x7
  have h2t := pow_le_256 ht8
  have x9 := and_u8 (P := P) t_uint8 false (y / 2 ^ e) (2 ^ t - 1) (Nat.lt_of_le_of_lt (Nat.div_le_self _ _) hy256) (by have := Nat.two_pow_pos t; omega)
  rw [and_low] at x9
  have hpl : y / 2 ^ e % 2 ^ t < 2 ^ t := Nat.mod_lt _ (Nat.two_pow_pos _)
  have x10 : wrapF .u64 ((y / 2 ^ e % 2 ^ t : Nat) : Int) = ((y / 2 ^ e % 2 ^ t : Nat) : Int) := wrap_u64 (by omega) (by omega)
  have x11 := or_u64 (P := P) t_uint64 false (x * 2 ^ t) (y / 2 ^ e % 2 ^ t) hx64 (by omega)
  rw [or_add _ _ t (Nat.mul_mod_left _ _) hpl, ← hval] at x11
  have hvl : val (((bitsOf b).drop at').take (k + t)) < 2 ^ 64 := by
    have h1 := val_lt (((bitsOf b).drop at').take (k + t))
    have h2 : (((bitsOf b).drop at').take (k + t)).length = k + t := by simp; omega
    rw [h2] at h1
    exact Nat.lt_of_lt_of_le h1 (Nat.pow_le_pow_right (by omega) (by omega))
  have x12 : wrapF .i64 ((a : Int) + (t : Int)) = ((at' + (cnt - d) : Nat) : Int) := by rw [wrap_i64 (by omega) (by omega)]; omega
  have x13 : wrapF .i64 ((q : Int) - (t : Int)) = (d : Int) := by rw [wrap_i64 (by omega) (by omega)]; omega
  rw [← hnext] at x11
  generalize x * 2 ^ t = xs at *
  generalize 1 * 2 ^ t % 256 = T at *
  generalize 2 ^ t - 1 = T1 at *
  generalize y / 2 ^ e % 2 ^ t = pt at *
  generalize y / 2 ^ e = ye at *
  obtain ⟨id3, o3, k1, k2, _⟩ := (s.fr f1).get1 (k := .i64) (i := ((a / 8 : Nat) : Int)) rfl (show a / 8 < n by omega) (x := .int .u8 (y : Int)) (by rw [by8_get, hy]; rfl)
  generalize hr : a % 8 = r at *
  generalize hq8 : a / 8 = a8 at *
  have hs := s.same
  have hdlt : d < q := by omega
  have hdc : d ≤ cnt := by omega
  generalize han : at' + (cnt - d) = an at *
  generalize hV : val (((bitsOf b).drop at').take (cnt - d)) = V at *
  simp [e3, e1, e2, e8, show 0 < q by omega, hrem, x1', x2, x3, lc0, x4, x4', k1, k2, x5, x6, x7, x8, x9, x10, x11, x12, x13, hs, Kloop_normal, -bin_shr_u8, -bin_shl_u8, -bin_shl_u64, -bin_and_u8, -bin_or_u64]
  exact ⟨d, hdlt, hdc, by omega, rfl, by rw [hV]⟩

end Go.Dk

namespace Go.Dk
open Go Go.Dr
set_option maxRecDepth 100000

/-- how many bits are set ahead of one that is not, and what comes behind -/
def pre : Nat → Bits → Option (Nat × Bits)
  | 0, d => some (0, d)
  | _ + 1, [] => none
  | _ + 1, false :: d => some (0, d)
  | m + 1, true :: d => (pre m d).map fun p => (p.1 + 1, p.2)

/-- so many bits as a number with a sign -/
def sx (w raw : Nat) : Int := if w = 0 then 0 else (wrapF .i64 ((raw * 2 ^ (64 - w) % 2 ^ 64 : Nat) : Int)).fdiv (2 ^ (64 - w))

def takeI (bs : Bits) (at' : Nat) : Option (Int × Nat) :=
  match pre 4 (bs.drop at') with
  | none => none
  | some (k, rest) => if rest.length < widthN k then none else
      if classN (sx (widthN k) (val (rest.take (widthN k)))) = k then some (sx (widthN k) (val (rest.take (widthN k))), bs.length - rest.length + widthN k) else none

theorem takeB_cons {bs : Bits} {a : Nat} {x : Bool} {d : Bits} (e : bs.drop a = x :: d) : takeB bs a 1 = some x.toNat ∧ bs.drop (a + 1) = d ∧ a + 1 ≤ bs.length := by
  have h1 : (bs.drop a).length = d.length + 1 := by rw [e]; rfl
  rw [List.length_drop] at h1
  refine ⟨?_, ?_, by omega⟩
  · unfold takeB
    rw [if_pos (by omega), e, List.take_succ_cons, List.take_zero]
    cases x <;> rfl
  · rw [← List.drop_drop, e]; rfl

theorem takeB_nil {bs : Bits} {a : Nat} (e : bs.drop a = []) : takeB bs a 1 = none := by
  have h1 : (bs.drop a).length = 0 := by rw [e]; rfl
  rw [List.length_drop] at h1
  unfold takeB
  rw [if_neg (by omega)]

theorem bits_TakeN {h : AH} {n N at' cnt : Nat} {v : AV} {b : List Nat} (s : Sl h 1 n v (by8 b)) (hb : ∀ x ∈ b, x < 256) (hn : n ≤ 2 ^ 36) (ha : at' ≤ 2 ^ 42) (hc : cnt ≤ 64) (hN : N = 8 * n) :
    Ev P SI (.fn f_bits_Take) [.agg [v, .int .i64 (N : Int)], .int .i64 (at' : Int), .int .i64 (cnt : Int)] h fun r g => Fr h g ∧
      match takeB (bitsOf b) at' cnt with
      | some x => r = .tuple [.int .u64 (x : Int), .int .i64 0]
      | none => ∃ e : Int, e ≠ 0 ∧ r = .tuple [.int .u64 0, .int .i64 e] := by
  subst hN
  exact bits_Take s hb hn ha hc

theorem pre_le : ∀ (m : Nat) (d : Bits) (k : Nat) (r : Bits), pre m d = some (k, r) → k ≤ m
  | 0, d, k, r, h => by cases h; omega
  | _ + 1, [], k, r, h => by cases h
  | _ + 1, false :: d, k, r, h => by cases h; omega
  | m + 1, true :: d, k, r, h => by
    rw [pre] at h
    cases hp : pre m d with
    | none => rw [hp] at h; cases h
    | some p =>
      rw [hp] at h
      cases h
      have := pre_le m d p.1 p.2 hp
      omega

theorem bits_TakeInt {h : AH} {n N at' : Nat} {v : AV} {b : List Nat} (s : Sl h 1 n v (by8 b)) (hb : ∀ x ∈ b, x < 256) (hn : n ≤ 2 ^ 36) (ha : at' ≤ 2 ^ 41) (hN : N = 8 * n) :
    Ev P SI (.fn f_bits_TakeInt) [.agg [v, .int .i64 (N : Int)], .int .i64 (at' : Int)] h fun r g => Fr h g ∧
      match takeI (bitsOf b) at' with
      | some (x, a) => r = .tuple [.int .i64 x, .int .i64 (a : Int), .int .i64 0]
      | none => ∃ e : Int, e ≠ 0 ∧ r = .tuple [.int .i64 0, .int .i64 0, .int .i64 e] := by
  refine ev_fn k_bits_TakeInt rfl rfl ?_
  have hbl : b.length = n := by have := s.1; simpa using this
  have hbs := bitsOf_length8 b
  have f0 := Fr.push (.refl h) (.cells [v, .int .i64 (N : Int)] false)
  have g0 : (h.push (.cells [v, .int .i64 (N : Int)] false)).get h.next = some (.cells [v, .int .i64 (N : Int)] false) := get_push_new _
  have hnx : (h.push (.cells [v, .int .i64 (N : Int)] false)).next = h.next + 1 := rfl
  generalize hh1 : h.push (.cells [v, .int .i64 (N : Int)] false) = h1 at *
  have ld := loadN_pair g0
  simp [c_bits_TakeInt, hh1, ld]
  refine (bits_Can (N := N) (s.fr f0) hn (by omega) (by omega) (.inl hN)).mono ?_
  rintro r g ⟨rfl, fa⟩
  have c3 : ¬ (at' : Int) < 0 := by omega
  have g0' := fa.get h.next (by omega)
  rw [g0] at g0'
  have lc1 : load1 g h.next 1 = .ok (.int .i64 (N : Int)) := load1_of g0'
  have f1 := f0.trans fa
  have hgn : h.next < g.next := Nat.lt_of_lt_of_le (by omega) fa.next
  by_cases c4 : N < at'
  · have : takeI (bitsOf b) at' = none := by
      unfold takeI
      rw [List.drop_of_length_le (by omega)]
      rfl
    simp [c3, lc1, c4, this]
    exact f1
  simp [c3, lc1, c4]
  refine w_mono (Q := fun x σ ds g' => ds = [] ∧ Fr g g' ∧ ((x = .exit 0 ∧ σ 2 = .ptr h.next 0 ∧ σ 4 = .int .i64 0 ∧ σ 5 = .int .i64 0 ∧ σ 6 = .int .i64 0 ∧ ∃ k a : Nat, σ 7 = .int .i64 (k : Int) ∧ σ 1 = .int .i64 (a : Int) ∧ pre 4 ((bitsOf b).drop at') = some (k, (bitsOf b).drop a) ∧ a ≤ N) ∨
      (x = .ret ∧ pre 4 ((bitsOf b).drop at') = none ∧ σ 4 = .int .i64 0 ∧ σ 5 = .int .i64 0 ∧ ∃ e : Int, e ≠ 0 ∧ σ 6 = .int .i64 e))) ?_ ?_
  · refine w_loop (fun q σ ds g' => ∃ k a : Nat, q + k = 4 ∧ ds = [] ∧ Fr g g' ∧ σ 2 = .ptr h.next 0 ∧ σ 4 = .int .i64 0 ∧ σ 5 = .int .i64 0 ∧ σ 6 = .int .i64 0 ∧ σ 7 = .int .i64 (k : Int) ∧ σ 1 = .int .i64 (a : Int) ∧ a ≤ N ∧
        pre 4 ((bitsOf b).drop at') = (pre (4 - k) ((bitsOf b).drop a)).map fun p => (p.1 + k, p.2)) 4 ⟨0, at', rfl, rfl, .refl _, by simp, by simp, by simp, by simp, by simp, by simp, by omega, by simp⟩ ?_
    rintro q σ ds g' ⟨k, a, hq, rfl, fr, e2, e4, e5, e6, e7, e1, haN, hp⟩
    by_cases hk : k < 4
    case neg =>
      have hk4 : k = 4 := by omega
      subst hk4
      rw [Nat.sub_self, pre] at hp
      simp [e7, e2, e4, e5, e6, e1, hp]
      exact ⟨fr, 4, rfl, a, rfl, ⟨rfl, rfl⟩, haN⟩
    have hk' : (k : Int) < 4 := by omega
    have gb := fr.get h.next hgn
    rw [g0'] at gb
    have F1 := f1.trans fr
    have hm : 4 - k = (3 - k) + 1 := by omega
    simp [e7, hk', e2, loadN_pair gb, e1]
    refine (bits_TakeN (at' := a) (cnt := 1) (s.fr F1) hb hn (by omega) (by omega) hN).mono ?_
    rintro r g2 ⟨f2, hr⟩
    cases hd : (bitsOf b).drop a with
    | nil =>
      rw [takeB_nil hd] at hr
      obtain ⟨e, he, rfl⟩ := hr
      rw [hd, hm, pre] at hp
      simp [he, hp]
      exact fr.trans f2
    | cons x d =>
      obtain ⟨t1, t2, t3⟩ := takeB_cons hd
      rw [t1] at hr
      simp only at hr
      subst hr
      have w1 : wrapF .i64 ((a : Int) + 1) = ((a + 1 : Nat) : Int) := by rw [wrap_i64 (by omega) (by omega)]; omega
      cases x with
      | false =>
        rw [hd, hm, pre] at hp
        simp [e1, w1, e2, e4, e5, e6, e7, hp]
        exact ⟨fr.trans f2, k, rfl, a + 1, rfl, ⟨rfl, t2.symm⟩, by omega⟩
      | true =>
        rw [hd, hm, pre] at hp
        have w2 : wrapF .i64 ((k : Int) + 1) = ((k + 1 : Nat) : Int) := by rw [wrap_i64 (by omega) (by omega)]; omega
        generalize ha1 : a + 1 = a1 at *
        generalize hk1 : k + 1 = k1 at *
        simp [e1, w1, e2, e4, e5, e6, e7, w2, Kloop_normal]
        refine ⟨q - 1, by omega, k1, by omega, fr.trans f2, rfl, a1, rfl, by omega, ?_⟩
        rw [hp, t2, show 4 - k1 = 3 - k from by omega]
        cases pre (3 - k) d with
        | none => rfl
        | some p =>
          simp only [Option.map_some]
          congr 2
          omega
  rintro x σ ds g' ⟨rfl, fr, ⟨rfl, e2, e4, e5, e6, k, a, e7, e1, hp, haN⟩ | ⟨rfl, hp, e4, e5, e, he, e6⟩⟩
  rotate_left
  · have : takeI (bitsOf b) at' = none := by
      unfold takeI
      rw [hp]
    simp [e4, e5, e6, this]
    exact ⟨f1.trans fr, he⟩
  have hk4 := pre_le _ _ _ _ hp
  have F1 := f1.trans fr
  have gb := fr.get h.next hgn
  rw [g0'] at gb
  have hrl : ((bitsOf b).drop a).length = N - a := by rw [List.length_drop]; omega
  have hti : takeI (bitsOf b) at' = if N - a < widthN k then none else
      if classN (sx (widthN k) (val (((bitsOf b).drop a).take (widthN k)))) = k then some (sx (widthN k) (val (((bitsOf b).drop a).take (widthN k))), a + widthN k) else none := by
    unfold takeI
    rw [hp]
    simp only [hrl]
    rw [show (bitsOf b).length - (N - a) = a from by omega]
  have hw := widthN_le k
  have bw := bits_width k hk4
  generalize hwd : widthN k = w at *
  simp [e7, bw, e2, e1, loadN_pair gb]
  refine (bits_TakeN (at' := a) (cnt := w) (s.fr F1) hb hn (by omega) (by omega) hN).mono ?_
  rintro r g2 ⟨f2, hr⟩
  have F2 := F1.trans f2
  by_cases hlt : N - a < w
  · have ht : takeB (bitsOf b) a w = none := by unfold takeB; rw [if_neg (by omega)]
    rw [if_pos hlt] at hti
    rw [ht] at hr
    obtain ⟨e, he, rfl⟩ := hr
    simp [he, hti]
    exact F2
  have ht : takeB (bitsOf b) a w = some (val (((bitsOf b).drop a).take w)) := by unfold takeB; rw [if_pos (by omega)]
  rw [if_neg hlt] at hti
  have hraw := takeB_lt ht
  rw [ht] at hr
  simp only at hr
  subst hr
  have hraw0 : w = 0 → val (((bitsOf b).drop a).take w) = 0 := by rintro rfl; simp
  generalize val (((bitsOf b).drop a).take w) = raw at *
  have w1 : wrapF .i64 (64 - (w : Int)) = ((64 - w : Nat) : Int) := by rw [wrap_i64 (by omega) (by omega)]; omega
  have w5 : wrapF .i64 ((a : Int) + (w : Int)) = ((a + w : Nat) : Int) := by rw [wrap_i64 (by omega) (by omega)]; omega
  have fin : ∀ x : Int, x = sx w raw → (if classN x = k then some (x, a + w) else none) = takeI (bitsOf b) at' := by
    rintro x rfl
    rw [hti]
  by_cases hw0 : w = 0
  · have h0 := hraw0 hw0
    subst h0
    have hsx : sx w 0 = 0 := by rw [sx, if_pos hw0]
    rw [hsx] at hti
    subst hw0
    by_cases hck : classN 0 = k
    · rw [if_pos hck] at hti
      simp [e1, e7, bits_class, hck, hti, show wrapF .i64 0 = 0 from rfl, wrap_i64 (n := (a : Int)) (by omega) (by omega)]
      exact F2
    · rw [if_neg hck] at hti
      have hck' : ¬ ((classN 0 : Nat) : Int) = (k : Int) := by omega
      simp [e1, e7, bits_class, hck', hti, show wrapF .i64 0 = 0 from rfl]
      exact F2
  · have s1 := shl_u64 (P := P) t_uint64 false .i64 raw (64 - w) (by omega)
    have s2 := bin_shr (P := P) t_int false .i64 .i64 (wrapF .i64 ((raw * 2 ^ (64 - w) % 2 ^ 64 : Nat) : Int)) ((64 - w : Nat) : Int) (by omega)
    have hsx : (wrapF .i64 ((raw * 2 ^ (64 - w) % 2 ^ 64 : Nat) : Int)).fdiv (2 ^ min ((64 - w : Nat) : Int).toNat IntKind.i64.bits) = sx w raw := by
      rw [sx, if_neg hw0, Int.toNat_natCast, Nat.min_eq_left (by simp [IntKind.bits])]
    rw [hsx] at s2
    generalize raw * 2 ^ (64 - w) % 2 ^ 64 = sh at *
    generalize hsxx : sx w raw = n0 at *
    generalize hs64 : 64 - w = sw at *
    generalize haw : a + w = aw at *
    have hw0' : 0 < w := by omega
    by_cases hck : classN n0 = k
    · rw [if_pos hck] at hti
      simp [hw0', w1, s1, s2, e1, e7, bits_class, hck, hti, w5, -bin_shl_u64, -bin_shr_i64]
      exact F2
    · rw [if_neg hck] at hti
      have hck' : ¬ ((classN n0 : Nat) : Int) = (k : Int) := by omega
      simp [hw0', w1, s1, s2, e1, e7, bits_class, hck', hti, w5, -bin_shl_u64, -bin_shr_i64]
      exact F2

end Go.Dk

namespace Go.Dk
open Go Go.Dr
set_option maxRecDepth 100000

theorem takeB_low {bs : Bits} {a c v : Nat} {z : Bits} (e : bs.drop a = lowB v c ++ z) (ha : a ≤ bs.length) : takeB bs a c = some (v % 2 ^ c) ∧ bs.drop (a + c) = z ∧ a + c ≤ bs.length := by
  have h1 : (bs.drop a).length = c + z.length := by rw [e]; simp
  rw [List.length_drop] at h1
  refine ⟨?_, ?_, by omega⟩
  · unfold takeB
    rw [if_pos (by omega), e, List.take_left' (by simp), val_lowB]
  · rw [← List.drop_drop, e, List.drop_left' (by simp)]

theorem pre_int (k : Nat) (hk : k ≤ 4) (z : Bits) : pre 4 (lowB (2 ^ k - 1) k ++ (if k < 4 then lowB 0 1 else []) ++ z) = some (k, z) := by
  rcases (show k = 0 ∨ k = 1 ∨ k = 2 ∨ k = 3 ∨ k = 4 by omega) with rfl | rfl | rfl | rfl | rfl <;> rfl

theorem wrap_i64n (x : Int) : wrapF .i64 x = (x + 9223372036854775808) % 18446744073709551616 - 9223372036854775808 := by rw [wrapF_eq, IntKind.wrap_i64]

/-- a number's lowest bits give it back -/
theorem sx_round (n : Int) (h : -9223372036854775808 ≤ n ∧ n < 9223372036854775808) : sx (widthN (classN n)) (u64 n % 2 ^ widthN (classN n)) = n := by
  have fd : ∀ (x : Int) (m : Int), 0 < m → x.fdiv m = x / m := fun x m hm => Int.fdiv_eq_ediv_of_nonneg _ (by omega)
  unfold classN
  by_cases h0 : n = 0
  · subst h0; rfl
  rw [if_neg h0]
  by_cases h1 : -64 ≤ n ∧ n < 64
  · rw [if_pos h1]
    simp only [widthN, sx]
    rw [if_neg (by decide), fd _ _ (by decide), wrap_i64n]
    unfold u64
    omega
  rw [if_neg h1]
  by_cases h2 : -2048 ≤ n ∧ n < 2048
  · rw [if_pos h2]
    simp only [widthN, sx]
    rw [if_neg (by decide), fd _ _ (by decide), wrap_i64n]
    unfold u64
    omega
  rw [if_neg h2]
  by_cases h3 : -2147483648 ≤ n ∧ n < 2147483648
  · rw [if_pos h3]
    simp only [widthN, sx]
    rw [if_neg (by decide), fd _ _ (by decide), wrap_i64n]
    unfold u64
    omega
  rw [if_neg h3]
  simp only [widthN, sx]
  rw [if_neg (by decide), fd _ _ (by decide), wrap_i64n]
  unfold u64
  omega

theorem takeI_int {bs : Bits} {a : Nat} {n : Int} {z : Bits} (e : bs.drop a = intB n ++ z) (ha : a ≤ bs.length) (hn : -9223372036854775808 ≤ n ∧ n < 9223372036854775808) :
    ∃ a', takeI bs a = some (n, a') ∧ bs.drop a' = z ∧ a' ≤ bs.length := by
  have hk := classN_le n
  have hp : pre 4 (bs.drop a) = some (classN n, lowB (u64 n) (widthN (classN n)) ++ z) := by
    rw [e, intB, List.append_assoc _ _ z]
    exact pre_int _ hk _
  have hsuf : ∃ q, bs.drop q = lowB (u64 n) (widthN (classN n)) ++ z ∧ q ≤ bs.length := by
    refine ⟨a + (lowB (2 ^ classN n - 1) (classN n) ++ (if classN n < 4 then lowB 0 1 else [])).length, ?_, ?_⟩
    · rw [← List.drop_drop, e, intB, List.append_assoc _ _ z, List.drop_left' rfl]
    · have := congrArg List.length e
      rw [List.length_drop, intB, List.append_assoc _ _ z, List.length_append] at this
      omega
  obtain ⟨q, hq, hql⟩ := hsuf
  obtain ⟨t1, t2, t3⟩ := takeB_low hq hql
  have hlen : (lowB (u64 n) (widthN (classN n)) ++ z).length = bs.length - q := by rw [← hq, List.length_drop]
  refine ⟨q + widthN (classN n), ?_, t2, t3⟩
  unfold takeI
  rw [hp]
  simp only
  rw [if_neg (by simp), List.take_left' (by simp), val_lowB, sx_round n hn, if_pos rfl, hlen]
  congr 2
  omega

theorem takeI_le {bs : Bits} {a a' : Nat} {n : Int} (e : takeI bs a = some (n, a')) : a' ≤ bs.length := by
  unfold takeI at e
  cases hp : pre 4 (bs.drop a) with
  | none => rw [hp] at e; cases e
  | some p =>
    obtain ⟨k, rest⟩ := p
    rw [hp] at e
    simp only at e
    split at e
    · cases e
    · split at e
      · simp only [Option.some.injEq, Prod.mk.injEq] at e
        have hle : ∀ (m : Nat) (d : Bits) (k : Nat) (r : Bits), pre m d = some (k, r) → r.length ≤ d.length := by
          intro m
          induction m with
          | zero => intro d k r h; cases h; omega
          | succ m ih =>
            intro d k r h
            cases d with
            | nil => cases h
            | cons x d =>
              cases x with
              | false => cases h; simp
              | true =>
                rw [pre] at h
                cases hq : pre m d with
                | none => rw [hq] at h; cases h
                | some p =>
                  rw [hq] at h
                  cases h
                  have := ih d p.1 p.2 hq
                  simp
                  omega
        have := hle _ _ _ _ hp
        rw [List.length_drop] at this
        omega
      · cases e

/-- a reader's block -/
structure UnO (h : AH) (id : Nat) (v : AV) (n : Nat) (b : List Nat) (at' : Nat) (bad : Bool) : Prop where
  cells : h.get id = some (.cells [v, .int .i64 ((8 * n : Nat) : Int), .int .i64 (at' : Int), .bool bad] false)
  lt : id < h.next
  sl : Sl h 1 n v (by8 b)
  ne : idOf v ≠ some id

theorem Sl.frX {h g : AH} {id es n : Nat} {v : AV} {l : List AV} (s : Sl h es n v l) (f : FrX id h g) (hv : idOf v ≠ some id) : Sl g es n v l := by
  refine ⟨s.1, ?_⟩
  rcases s.2 with e | ⟨i, off, cap, x, vs, ro, e1, e2, e3, e4, e5, e6⟩
  · exact .inl e
  · exact .inr ⟨i, off, cap, x, vs, ro, e1, Nat.lt_of_lt_of_le e2 f.next, e3, by rw [f.get i e2 (by intro e; apply hv; rw [e1, e]; rfl)]; exact e4, e5, e6⟩

theorem UnO.fr {h g : AH} {id : Nat} {v : AV} {n : Nat} {b : List Nat} {at' : Nat} {bad : Bool} (u : UnO h id v n b at' bad) (f : Fr h g) : UnO g id v n b at' bad :=
  ⟨by rw [f.get _ u.lt, u.cells], Nat.lt_of_lt_of_le u.lt f.next, u.sl.fr f, u.ne⟩

theorem UnO.put {h g : AH} {id : Nat} {v : AV} {n : Nat} {b : List Nat} {at' a2 : Nat} {bad b2 : Bool} (u : UnO h id v n b at' bad) (f : Fr h g) (o : AObj)
    (ho : o = .cells [v, .int .i64 ((8 * n : Nat) : Int), .int .i64 (a2 : Int), .bool b2] false) : UnO (g.set id o) id v n b a2 b2 ∧ FrX id h (g.set id o) := by
  have u' := u.fr f
  subst ho
  exact ⟨⟨get_set_new _ _, u'.lt, Sl.setX u'.sl _ u.ne, u.ne⟩, ⟨f.next, fun i hi hn => by rw [get_set_old hn, f.get i hi]⟩⟩

theorem loadN_pre2 {h : AH} {id : Nat} {a b c d : AV} (hg : h.get id = some (.cells [a, b, c, d] false)) : opLoadN 2 (.ptr id 0) h = okV (.agg [a, b]) h := by
  have : loadN h id 0 2 = .ok [a, b] := by
    simp [loadN, hg]
    rfl
  simp [opLoadN, this]

theorem Sl.samePair {h : AH} {es n : Nat} {v : AV} {l : List AV} (s : Sl h es n v l) (k : IntKind) (N : Int) : eqAV 12 (.agg [v, .int k N]) (.agg [v, .int k N]) = true := by
  have h1 : eqAV 11 v v = true := by
    rcases s.2 with ⟨rfl, _⟩ | ⟨i, off, cap, x, vs, ro, rfl, _⟩
    · rfl
    · show (Bool.and (Nat.beq i i) (Bool.and (Nat.beq off off) (Bool.and (Nat.beq n n) (Bool.and (Nat.beq cap cap) (Bool.and (x == x) (Nat.beq es es)))))) = true
      simp
  have h2 : eqAV 11 (.int k N) (.int k N) = true := by
    show Bool.and (decide (k = k)) (decide (N = N)) = true
    simp
  show Bool.and (eqAV 11 v v) (Bool.and (eqAV 11 (.int k N) (.int k N)) true) = true
  rw [h1, h2]
  rfl

theorem unpack_take {h : AH} {id : Nat} {v : AV} {n : Nat} {b : List Nat} {at' cnt : Nat} {bad : Bool} (u : UnO h id v n b at' bad) (hb : ∀ x ∈ b, x < 256) (hn : n ≤ 2 ^ 36) (ha : at' ≤ 2 ^ 41) (hc : cnt ≤ 64) :
    Ev P SI (.fn f_codec_unpack_take) [.ptr id 0, .int .i64 (cnt : Int)] h fun r g => ∃ (x : Nat) (b2 : Bool), r = .int .u64 (x : Int) ∧ UnO g id v n b (at' + cnt) b2 ∧ FrX id h g ∧ x < 2 ^ cnt ∧
      ((takeB (bitsOf b) at' cnt = some x ∧ b2 = bad) ∨ (takeB (bitsOf b) at' cnt = none ∧ b2 = true ∧ x = 0)) := by
  refine ev_fn k_codec_unpack_take rfl rfl ?_
  obtain ⟨N, hN⟩ : ∃ N, N = 8 * n := ⟨_, rfl⟩
  have hg := u.cells
  rw [← hN] at hg
  have ld := loadN_pre2 hg
  have l2 : load1 h id 2 = .ok (.int .i64 (at' : Int)) := load1_of hg
  have hvc := u.sl.oneCell
  have hsame := Sl.samePair u.sl .i64 (N : Int)
  simp [c_codec_unpack_take, ld, l2, hsame]
  refine (bits_TakeN (at' := at') (cnt := cnt) u.sl hb hn (by omega) hc hN).mono ?_
  rintro r g ⟨f, hr⟩
  have hg2 := f.get id u.lt
  rw [hg] at hg2
  have l2' : load1 g id 2 = .ok (.int .i64 (at' : Int)) := load1_of hg2
  have l3 : load1 g id 3 = .ok (.bool bad) := load1_of hg2
  have w1 : wrapF .i64 ((at' : Int) + (cnt : Int)) = ((at' + cnt : Nat) : Int) := by rw [wrap_i64 (by omega) (by omega)]; omega
  obtain ⟨a2, ha2⟩ : ∃ a2, a2 = at' + cnt := ⟨_, rfl⟩
  rw [← ha2] at w1 ⊢
  -- the two stores
  have st : ∀ b2 : Bool, ∃ g1, storeN g id 3 [.bool b2] = .ok g1 ∧ load1 g1 id 2 = .ok (.int .i64 (at' : Int)) ∧ ∃ g2, storeN g1 id 2 [.int .i64 (a2 : Int)] = .ok g2 ∧ UnO g2 id v n b a2 b2 ∧ FrX id h g2 := by
    intro b2
    have h1 := storeN_one (v := .bool b2) (off := 3) hg2 (by simp) rfl
    simp [splice_eq] at h1
    have hgx : (g.set id (.cells [v, .int .i64 (N : Int), .int .i64 (at' : Int), .bool b2] false)).get id = some (.cells [v, .int .i64 (N : Int), .int .i64 (at' : Int), .bool b2] false) := get_set_new _ _
    have h2 := storeN_one (v := .int .i64 (a2 : Int)) (off := 2) hgx (by simp) rfl
    simp [splice_eq] at h2
    refine ⟨_, h1, load1_of hgx, _, h2, ?_⟩
    exact u.put f (.cells [v, .int .i64 (N : Int), .int .i64 (a2 : Int), .bool b2] false) (a2 := a2) (b2 := b2) (by rw [← hN])
  cases ht : takeB (bitsOf b) at' cnt with
  | some x =>
    rw [ht] at hr
    simp only at hr
    subst hr
    obtain ⟨g1, s1, s2, g2, s3, u2, fx⟩ := st bad
    have hlt := takeB_lt ht
    have hbb : ∀ c : Bool, (bif bad then AV.bool true else AV.bool bad) = .bool bad := by intro c; cases bad <;> rfl
    cases bad <;> simp [l3, s1, s2, w1, s3] <;> exact ⟨x, rfl, u2, fx, hlt, rfl⟩
  | none =>
    rw [ht] at hr
    obtain ⟨e, he, rfl⟩ := hr
    obtain ⟨g1, s1, s2, g2, s3, u2, fx⟩ := st true
    have hp : 0 < 2 ^ cnt := Nat.two_pow_pos _
    cases bad <;> simp [l3, he, s1, s2, w1, s3] <;> exact ⟨0, rfl, u2, fx, hp, rfl⟩

end Go.Dk

namespace Go.Dk
open Go Go.Dr
set_option maxRecDepth 100000

def boC (l : Bits) : List AV := l.map fun b => .bool b
theorem boC_append (a b : Bits) : boC (a ++ b) = boC a ++ boC b := by simp [boC]
@[simp] theorem boC_length (a : Bits) : (boC a).length = a.length := by simp [boC]

/-- bits as truths that are ours -/
structure BoO (B : Nat) (h : AH) (id : Nat) (v : AV) (l : Bits) : Prop where
  cells : h.get id = some (.cells [v] false)
  lt : id < h.next
  ge : B ≤ id
  own : Own B h 1 l.length v (boC l)
  ne : idOf v ≠ some id

/-- all stays but the struct and the bits' own block -/
structure BoF (id : Nat) (v v' : AV) (h h' : AH) : Prop where
  next : h.next ≤ h'.next
  get : ∀ i, i < h.next → i ≠ id → idOf v ≠ some i → h'.get i = h.get i
  ids : ∀ i, idOf v' = some i → idOf v = some i ∨ h.next ≤ i

theorem BoF.refl (id : Nat) (v : AV) (h : AH) : BoF id v v h h := ⟨Nat.le_refl _, fun _ _ _ _ => rfl, fun _ e => .inl e⟩
theorem BoF.trans {id : Nat} {v v' v'' : AV} {h h' h'' : AH} (a : BoF id v v' h h') (b : BoF id v' v'' h' h'') : BoF id v v'' h h'' := by
  refine ⟨Nat.le_trans a.next b.next, fun i hi hn hv => ?_, fun i e => ?_⟩
  · rw [b.get i (Nat.lt_of_lt_of_le hi a.next) hn (fun e => ?_), a.get i hi hn hv]
    rcases a.ids i e with e | e
    · exact hv e
    · omega
  · rcases b.ids i e with e | e
    · exact a.ids i e
    · exact .inr (Nat.le_trans a.next e)

def BoK (B id : Nat) (v : AV) (h : AH) (m : Bits) (r : AV) (h' : AH) : Prop := r = .tuple [] ∧ FrB B h h' ∧ ∃ v', BoO B h' id v' m ∧ BoF id v v' h h'

theorem bit_eq (n c : Nat) : decide (((n / 2 ^ c &&& 1 : Nat) : Int) = 1) = n.testBit c := by
  rw [Nat.testBit_eq_decide_div_mod_eq, show (1 : Nat) = 2 ^ 1 - 1 from rfl, and_low]
  congr 1
  simp only [eq_iff_iff]
  omega

theorem ref11_put {h : AH} {B id : Nat} {v : AV} {l : Bits} {n cnt : Nat} (b : BoO B h id v l) (hn : n < 2 ^ 64) (hc : cnt ≤ 64) (hl : l.length ≤ 2 ^ 35) :
    Ev P SI (.fn f_ref11_out_put) [.ptr id 0, .int .u64 (n : Int), .int .i64 (cnt : Int)] h (BoK B id v h (l ++ lowB n cnt)) := by
  refine ev_fn k_ref11_out_put rfl rfl ?_
  have w0 : wrapF .i64 ((cnt : Int) - 1) = (cnt : Int) - 1 := wrap_i64 (by omega) (by omega)
  simp [c_ref11_out_put, w0]
  refine w_loop (fun q σ ds g => ∃ (c : Nat) (u : AV) (m : Bits), q = c ∧ c ≤ cnt ∧ ds = [] ∧ σ 0 = .ptr id 0 ∧ σ 1 = .int .u64 (n : Int) ∧ σ 6 = .int .i64 ((c : Int) - 1) ∧ BoO B g id u m ∧ FrB B h g ∧ BoF id v u h g ∧ m ++ lowB n c = l ++ lowB n cnt) cnt
    ⟨cnt, v, l, rfl, Nat.le_refl _, rfl, by simp, by simp, by simp, b, .refl _ _, .refl _ _ _, rfl⟩ ?_
  rintro q σ ds g ⟨c, u, m, rfl, hcc, rfl, e0, e1, e6, bo, fr, bf, hm⟩
  cases q with
  | zero =>
    simp [e6, BoK]
    rw [lowB, List.append_nil] at hm
    exact ⟨fr, _, hm ▸ bo, bf⟩
  | succ c =>
    have hml : m.length + (c + 1) = l.length + cnt := by have := congrArg List.length hm; simpa using this
    have c0 : (((c + 1 : Nat) : Int) - 1) = (c : Int) := by omega
    rw [c0] at e6
    have lc0 := load1_of bo.cells (off := 0)
    simp [ofO] at lc0
    have x1 := shr_u64 (P := P) t_uint64 false .i64 n c (by omega)
    have x2 := and_u64 (P := P) t_uint64 true (n / 2 ^ c) 1 (Nat.lt_of_le_of_lt (Nat.div_le_self _ _) hn) (by omega)
    have x3 := bit_eq n c
    rw [show ((1 : Nat) : Int) = 1 from rfl] at x2
    generalize n / 2 ^ c &&& 1 = bit at *
    generalize n / 2 ^ c = nd at *
    have x3' := bin_eql (P := P) t_uint64 true .u64 (bit : Int) 1
    rw [x3] at x3'
    have hB : B ≤ g.next := Nat.le_trans bo.ge (Nat.le_of_lt bo.lt)
    obtain ⟨v', g', ap, o1, f1, p1, p2⟩ := bo.own.snoc2 (x := [.bool (n.testBit c)]) (bytes := 1) hB rfl rfl (by omega) (by omega)
    have lt' : id < g'.next := Nat.lt_of_lt_of_le bo.lt f1.next
    have gc : g'.get id = some (.cells [u] false) := by rw [p1 id bo.lt bo.ne, bo.cells]
    have hv' : v'.cells = [v'] ∧ v'.scalar = true := o1.sl.oneCell
    have st := storeN_one (id := id) (off := 0) gc (by simp) hv'.2
    have ne' : idOf v' ≠ some id := by
      intro e
      rcases p2 id e with h | h
      · exact bo.ne h
      · have := bo.lt; omega
    have lc1 : load1 (g.push (.cells [.bool (n.testBit c)] false)) id 0 = .ok u := by
      have : (g.push (.cells [.bool (n.testBit c)] false)).get id = some (.cells [u] false) := by rw [get_push_old (by have := bo.lt; omega), bo.cells]
      exact load1_of this
    have hss := bo.own.sl.same
    have hpos : (0 : Int) ≤ (c : Int) := by omega
    simp [e0, e1, e6, lc0, lc1, hss, x1, x2, x3', splice_eq, ap, opStore, hv'.1, st, Kloop_normal, -bin_shr_u64, -bin_and_u64, -bin_eql]
    refine ⟨c, by omega, by omega, by rw [wrap_i64 (by omega) (by omega)], v', m ++ [n.testBit c], ⟨get_set_new _ _, lt', bo.ge, ?_, ne'⟩, ?_, ?_, ?_⟩
    · have := o1.set (.cells [v'] false) (j := id) ne'
      rw [boC_append, List.length_append]
      exact this
    · exact (fr.trans f1).trans ⟨Nat.le_refl _, fun i hi => get_set_old (by have := bo.ge; omega)⟩
    · refine bf.trans ⟨f1.next, fun i hi hn hu => ?_, fun i e => ?_⟩
      · rw [get_set_old hn, p1 i hi hu]
      · rcases p2 i e with e | e
        · exact .inl e
        · exact .inr (by omega)
    · rw [← hm, lowB, List.append_assoc]
      rfl

end Go.Dk

namespace Go.Dk
open Go Go.Dr
set_option maxRecDepth 100000

theorem ref11_putInt {h : AH} {B id : Nat} {v : AV} {l : Bits} {n : Int} (b : BoO B h id v l) (hl : l.length ≤ 2 ^ 34) :
    Ev P SI (.fn f_ref11_out_putInt) [.ptr id 0, .int .i64 n] h (BoK B id v h (l ++ intB n)) := by
  refine ev_fn k_ref11_out_putInt rfl rfl ?_
  have hu := u64_lt n
  have wu := wrap_u64n n
  have two : ∀ {a k w : Nat}, a < 2 ^ 64 → k ≤ 4 → w ≤ 64 → intB n = lowB a k ++ lowB (u64 n) w → ∀ {h1 : AH} {v1 : AV}, FrB B h h1 → BoO B h1 id v1 (l ++ lowB a k) → BoF id v v1 h h1 →
      Ev P SI (.fn f_ref11_out_put) [.ptr id 0, .int .u64 (u64 n : Int), .int .i64 (w : Int)] h1 (BoK B id v h (l ++ intB n)) := by
    intro a k w ha hk hw e h1 v1 f1 b1 k1
    refine (ref11_put b1 hu hw (by simp; omega)).mono ?_
    rintro r g ⟨rfl, f2, v2, b2, k2⟩
    exact ⟨rfl, f1.trans f2, v2, by rw [e, ← List.append_assoc]; exact b2, k1.trans k2⟩
  by_cases h0 : n = 0
  · subst h0
    simp [c_ref11_out_putInt]
    refine (ref11_put (n := 0) (cnt := 1) b (by omega) (by omega) (by omega)).mono ?_
    rintro r g ⟨rfl, f, w, bw, kw⟩
    simp [BoK]
    exact ⟨f, w, bw, kw⟩
  by_cases h1 : -64 ≤ n ∧ n < 64
  · have e : intB n = lowB 2 2 ++ lowB (u64 n) 7 := by simp [intB, classN, h0, h1, widthN, lowB]; decide
    have a2 : n ≤ 63 := by omega
    simp [c_ref11_out_putInt, h0, h1.1, a2]
    refine (ref11_put (n := 2) (cnt := 2) b (by omega) (by omega) (by omega)).mono ?_
    rintro r g ⟨rfl, f, w, bw, kw⟩
    simp [wu]
    refine (two (by omega) (by omega) (by omega) e f bw kw).mono ?_
    rintro r g ⟨rfl, q⟩
    simpa [BoK] using q
  by_cases h2 : -2048 ≤ n ∧ n < 2048
  · have e : intB n = lowB 6 3 ++ lowB (u64 n) 12 := by simp [intB, classN, h0, h1, h2, widthN, lowB]; decide
    have a2 : n ≤ 2047 := by omega
    by_cases a1 : -64 ≤ n
    · have a3 : ¬ n ≤ 63 := by omega
      simp [c_ref11_out_putInt, h0, h2.1, a1, a2, a3]
      refine (ref11_put (n := 6) (cnt := 3) b (by omega) (by omega) (by omega)).mono ?_
      rintro r g ⟨rfl, f, w, bw, kw⟩
      simp [wu]
      refine (two (by omega) (by omega) (by omega) e f bw kw).mono ?_
      rintro r g ⟨rfl, q⟩
      simpa [BoK] using q
    · simp [c_ref11_out_putInt, h0, h2.1, a1, a2]
      refine (ref11_put (n := 6) (cnt := 3) b (by omega) (by omega) (by omega)).mono ?_
      rintro r g ⟨rfl, f, w, bw, kw⟩
      simp [wu]
      refine (two (by omega) (by omega) (by omega) e f bw kw).mono ?_
      rintro r g ⟨rfl, q⟩
      simpa [BoK] using q
  have c12 : (-64 ≤ n ∧ ¬ n ≤ 63 ∧ -2048 ≤ n ∧ ¬ n ≤ 2047) ∨ (¬ -64 ≤ n ∧ ¬ -2048 ≤ n) := by omega
  by_cases h3 : -2147483648 ≤ n ∧ n < 2147483648
  · have e : intB n = lowB 14 4 ++ lowB (u64 n) 32 := by simp [intB, classN, h0, h1, h2, h3, widthN, lowB]; decide
    have a2 : n ≤ 2147483647 := by omega
    rcases c12 with ⟨b1, b2, b3, b4⟩ | ⟨b1, b3⟩
    · simp [c_ref11_out_putInt, h0, h3.1, a2, b1, b2, b3, b4]
      refine (ref11_put (n := 14) (cnt := 4) b (by omega) (by omega) (by omega)).mono ?_
      rintro r g ⟨rfl, f, w, bw, kw⟩
      simp [wu]
      refine (two (by omega) (by omega) (by omega) e f bw kw).mono ?_
      rintro r g ⟨rfl, q⟩
      simpa [BoK] using q
    · simp [c_ref11_out_putInt, h0, h3.1, a2, b1, b3]
      refine (ref11_put (n := 14) (cnt := 4) b (by omega) (by omega) (by omega)).mono ?_
      rintro r g ⟨rfl, f, w, bw, kw⟩
      simp [wu]
      refine (two (by omega) (by omega) (by omega) e f bw kw).mono ?_
      rintro r g ⟨rfl, q⟩
      simpa [BoK] using q
  have e : intB n = lowB 15 4 ++ lowB (u64 n) 64 := by simp [intB, classN, h0, h1, h2, h3, widthN, lowB]
  have c3 : (-64 ≤ n ∧ ¬ n ≤ 63 ∧ -2048 ≤ n ∧ ¬ n ≤ 2047 ∧ -2147483648 ≤ n ∧ ¬ n ≤ 2147483647) ∨ (¬ -64 ≤ n ∧ ¬ -2048 ≤ n ∧ ¬ -2147483648 ≤ n) := by omega
  rcases c3 with ⟨b1, b2, b3, b4, b5, b6⟩ | ⟨b1, b3, b5⟩
  · simp [c_ref11_out_putInt, h0, b1, b2, b3, b4, b5, b6]
    refine (ref11_put (n := 15) (cnt := 4) b (by omega) (by omega) (by omega)).mono ?_
    rintro r g ⟨rfl, f, w, bw, kw⟩
    simp [wu]
    refine (two (by omega) (by omega) (by omega) e f bw kw).mono ?_
    rintro r g ⟨rfl, q⟩
    simpa [BoK] using q
  · simp [c_ref11_out_putInt, h0, b1, b3, b5]
    refine (ref11_put (n := 15) (cnt := 4) b (by omega) (by omega) (by omega)).mono ?_
    rintro r g ⟨rfl, f, w, bw, kw⟩
    simp [wu]
    refine (two (by omega) (by omega) (by omega) e f bw kw).mono ?_
    rintro r g ⟨rfl, q⟩
    simpa [BoK] using q

/-- the highest and the lowest bit of a number -/
theorem bitLen_bit {x : Nat} (hx : x < 2 ^ 64) : (∀ i, Lib.bitLen x ≤ i → x / 2 ^ i % 2 = 0) ∧ (x ≠ 0 → x / 2 ^ (Lib.bitLen x - 1) % 2 = 1) := by
  have up : ∀ i, Lib.bitLen x ≤ i → x < 2 ^ i := by
    intro i hi
    by_cases h : 2 ^ i ≤ x
    · have h4 := Lib.bitLen_shift i x h hx
      have h5 : x / 2 ^ i ≠ 0 := by
        have := Nat.div_pos h (Nat.two_pow_pos _)
        omega
      have h6 := Lib.bitLen_half (x / 2 ^ i) h5 (Nat.lt_of_le_of_lt (Nat.div_le_self _ _) hx)
      omega
    · omega
  refine ⟨fun i hi => by rw [Nat.div_eq_of_lt (up i hi)], fun h0 => ?_⟩
  obtain ⟨h1, h2, h3, h4⟩ := wid_pos hx h0
  have h5 := up _ (Nat.le_refl _)
  have h6 : 2 ^ (Lib.bitLen x - 1) ≤ x := by
    by_cases h : x < 2 ^ (Lib.bitLen x - 1)
    · have := Lib.bitLen_le x (Lib.bitLen x - 1) (by omega) h
      omega
    · omega
  obtain ⟨b, hb⟩ : ∃ b, Lib.bitLen x = b + 1 := ⟨Lib.bitLen x - 1, by omega⟩
  rw [hb] at h5 h6 ⊢
  rw [Nat.add_sub_cancel] at h6 ⊢
  rw [Nat.pow_succ] at h5
  have : x / 2 ^ b = 1 := by
    apply Nat.div_eq_of_lt_le <;> omega
  rw [this]

theorem ctz_bit {x : Nat} (hx : x < 2 ^ 64) (h0 : x ≠ 0) : (∀ i, i < Lib.ctz 64 x → x / 2 ^ i % 2 = 0) ∧ x / 2 ^ Lib.ctz 64 x % 2 = 1 := by
  have e : Lib.ctz 64 x = Lib.ctzFrom 64 x := by simp [Lib.ctz, h0]
  obtain ⟨m, hm, _⟩ := Lib.ctzFrom_spec 64 x (by omega) hx
  rw [← e] at hm
  generalize Lib.ctz 64 x = c at *
  refine ⟨fun i hi => ?_, ?_⟩
  · obtain ⟨d, rfl⟩ : ∃ d, c = i + (d + 1) := ⟨c - i - 1, by omega⟩
    rw [hm, Nat.pow_add, Nat.mul_assoc, Nat.mul_div_cancel_left _ (Nat.two_pow_pos _), Nat.pow_succ, Nat.mul_comm (2 ^ d) 2, Nat.mul_assoc, Nat.mul_mod_right]
  · rw [hm, Nat.mul_div_cancel_left _ (Nat.two_pow_pos _)]
    omega

/-- the two sixes of bits -/
theorem six_six (hi w : Nat) (hw : w < 64) : lowB (hi * 64 + w) 12 = lowB hi 6 ++ lowB w 6 := by
  rw [show 12 = 6 + 6 from rfl, lowB_add, show (hi * 64 + w) / 2 ^ 6 = hi from by omega, ← lowB_mod (hi * 64 + w) 6 6 (Nat.le_refl _), show (hi * 64 + w) % 2 ^ 6 = w from by omega]

theorem ref11_putXor {h : AH} {B id : Nat} {v : AV} {l : Bits} {x : Nat} (b : BoO B h id v l) (hx : x < 2 ^ 64) (hl : l.length ≤ 2 ^ 34) :
    Ev P SI (.fn f_ref11_out_putXor) [.ptr id 0, .int .u64 (x : Int)] h (BoK B id v h (l ++ xorB x)) := by
  refine ev_fn k_ref11_out_putXor rfl rfl ?_
  by_cases h0 : x = 0
  · subst h0
    simp [c_ref11_out_putXor]
    refine (ref11_put (n := 0) (cnt := 1) b (by omega) (by omega) (by omega)).mono ?_
    rintro r g ⟨rfl, f, w, bw, kw⟩
    simp [xorB, BoK]
    exact ⟨f, w, bw, kw⟩
  obtain ⟨w1, w2, w3, w4⟩ := wid_pos hx h0
  obtain ⟨z1, z2⟩ := bitLen_bit hx
  replace z2 := z2 h0
  obtain ⟨y1, y2⟩ := ctz_bit hx h0
  have hxB : xorB x = lowB 1 1 ++ lowB ((64 - Lib.bitLen x) * 64 + (widX x - 1)) 12 ++ lowB (x / 2 ^ Lib.ctz 64 x) (widX x) := by rw [xorB, if_neg h0]
  rw [hxB]
  have hwx : widX x = Lib.bitLen x - Lib.ctz 64 x := rfl
  generalize Lib.ctz 64 x = c at *
  generalize Lib.bitLen x = bl at *
  generalize widX x = w at *
  rw [six_six _ _ (by omega)]
  have hd : ∀ i, x / 2 ^ i < 2 ^ 64 := fun i => Nat.lt_of_le_of_lt (Nat.div_le_self _ _) hx
  -- whether a bit is none
  have bz : ∀ i b, x / 2 ^ i % 2 = b → ∃ e : Nat, opBin P .and t_uint64 true (.int .u64 ((x / 2 ^ i : Nat) : Int)) (.int .u64 1) = .ok (.int .u64 (e : Int)) ∧ (e = 0 ↔ b = 0) := by
    intro i b hb
    refine ⟨_, and_u64 (P := P) t_uint64 true (x / 2 ^ i) 1 (hd i) (by omega), ?_⟩
    rw [show (1 : Nat) = 2 ^ 1 - 1 from rfl, and_low]
    omega
  simp [c_ref11_out_putXor, h0]
  refine w_mono (Q := fun q σ ds g => q = .exit 0 ∧ ds = [] ∧ g = h ∧ σ 0 = .ptr id 0 ∧ σ 1 = .int .u64 (x : Int) ∧ σ 4 = .int .i64 ((64 - bl : Nat) : Int) ∧ σ 5 = .int .i64 0) ?_ ?_
  · refine w_loop (fun q σ ds g => ∃ j : Nat, q + j = 64 - bl ∧ ds = [] ∧ g = h ∧ σ 0 = .ptr id 0 ∧ σ 1 = .int .u64 (x : Int) ∧ σ 4 = .int .i64 (j : Int) ∧ σ 5 = .int .i64 0) (64 - bl) ⟨0, by omega, rfl, rfl, by simp, by simp, by simp, by simp⟩ ?_
    rintro q σ ds g ⟨j, hq, rfl, rfl, e0, e1, e4, e5⟩
    have s1 : wrapF .i64 (63 - (j : Int)) = ((63 - j : Nat) : Int) := by rw [wrap_i64 (by omega) (by omega)]; omega
    have s2 := shr_u64 (P := P) t_uint64 false .i64 x (63 - j) (by omega)
    have s3 : wrapF .i64 ((j : Int) + 1) = ((j + 1 : Nat) : Int) := by rw [wrap_i64 (by omega) (by omega)]; omega
    by_cases hj : j < 64 - bl
    · obtain ⟨e, f1, f2⟩ := bz (63 - j) 0 (z1 _ (by omega))
      have f3 : e = 0 := f2.2 rfl
      subst f3
      generalize x / 2 ^ (63 - j) = xd at *
      generalize 63 - j = k at *
      simp [e0, e1, e4, e5, s1, s2, s3, f1, Kloop_normal, -bin_shr_u64, -bin_and_u64]
      exact ⟨q - 1, by omega, j + 1, by omega, by simp⟩
    · have hj' : j = 64 - bl := by omega
      obtain ⟨e, f1, f2⟩ := bz (63 - j) 1 (by rw [show 63 - j = bl - 1 from by omega]; exact z2)
      have f3 : ¬ e = 0 := fun h => by have := f2.1 h; omega
      generalize x / 2 ^ (63 - j) = xd at *
      generalize 63 - j = k at *
      simp [e0, e1, e4, e5, s1, s2, s3, f1, f3, Kloop_normal, -bin_shr_u64, -bin_and_u64]
      rw [hj']
  rintro q σ ds g ⟨rfl, rfl, rfl, e0, e1, e4, e5⟩
  generalize hhi : 64 - bl = hi at *
  simp
  refine w_mono (Q := fun q σ ds g' => q = .exit 2 ∧ ds = [] ∧ g' = g ∧ σ 0 = .ptr id 0 ∧ σ 1 = .int .u64 (x : Int) ∧ σ 4 = .int .i64 (hi : Int) ∧ σ 5 = .int .i64 (c : Int)) ?_ ?_
  · refine w_loop (fun q σ ds g' => ∃ j : Nat, q + j = c ∧ ds = [] ∧ g' = g ∧ σ 0 = .ptr id 0 ∧ σ 1 = .int .u64 (x : Int) ∧ σ 4 = .int .i64 (hi : Int) ∧ σ 5 = .int .i64 (j : Int)) c ⟨0, by omega, rfl, rfl, e0, e1, e4, e5⟩ ?_
    clear e0 e1 e4 e5
    rintro q σ ds g' ⟨j, hq, rfl, rfl, e0, e1, e4, e5⟩
    have s2 := shr_u64 (P := P) t_uint64 false .i64 x j (by omega)
    have s3 : wrapF .i64 ((j : Int) + 1) = ((j + 1 : Nat) : Int) := by rw [wrap_i64 (by omega) (by omega)]; omega
    by_cases hj : j < c
    · obtain ⟨e, f1, f2⟩ := bz j 0 (y1 _ (by omega))
      have f3 : e = 0 := f2.2 rfl
      subst f3
      generalize x / 2 ^ j = xd at *
      simp [e0, e1, e4, e5, s2, s3, f1, Kloop_normal, -bin_shr_u64, -bin_and_u64]
      exact ⟨q - 1, by omega, j + 1, by omega, by simp⟩
    · have hj' : j = c := by omega
      obtain ⟨e, f1, f2⟩ := bz j 1 (by rw [hj']; exact y2)
      have f3 : ¬ e = 0 := fun h => by have := f2.1 h; omega
      generalize x / 2 ^ j = xd at *
      simp [e0, e1, e4, e5, s2, s3, f1, f3, Kloop_normal, -bin_shr_u64, -bin_and_u64]
      rw [hj']
  clear e0 e1 e4 e5
  rintro q σ ds g' ⟨rfl, rfl, rfl, e0, e1, e4, e5⟩
  have x1 : wrapF .i64 (64 - (hi : Int)) = (bl : Int) := by rw [wrap_i64 (by omega) (by omega)]; omega
  have x2 : wrapF .i64 ((bl : Int) - (c : Int)) = (w : Int) := by rw [wrap_i64 (by omega) (by omega)]; omega
  have x3 : wrapF .u64 (hi : Int) = (hi : Int) := wrap_u64 (by omega) (by omega)
  obtain ⟨wm, hwm⟩ : ∃ wm, wm = w - 1 := ⟨_, rfl⟩
  have x5 : wrapF .i64 ((w : Int) - 1) = (wm : Int) := by rw [wrap_i64 (by omega) (by omega)]; omega
  have x6 : wrapF .u64 (wm : Int) = (wm : Int) := wrap_u64 (by omega) (by omega)
  have x8 := shr_u64 (P := P) t_uint64 false .i64 x c (by omega)
  rw [← hwm]
  have hxd := hd c
  generalize x / 2 ^ c = xd at *
  simp [e0, e4, e5, x1, x2]
  refine (ref11_put (n := 1) (cnt := 1) b (by omega) (by omega) (by omega)).mono ?_
  rintro r g1 ⟨rfl, fx1, v1, p1, k1⟩
  simp [e0, e4, x3]
  refine (ref11_put (n := hi) (cnt := 6) p1 (by omega) (by omega) (by simp; omega)).mono ?_
  rintro r g2 ⟨rfl, fx2, v2, p2, k2⟩
  simp [e0, x5, x6]
  refine (ref11_put (n := wm) (cnt := 6) p2 (by omega) (by omega) (by simp; omega)).mono ?_
  rintro r g3 ⟨rfl, fx3, v3, p3, k3⟩
  simp [e0, e1, e5, x8, -bin_shr_u64]
  refine (ref11_put (n := xd) (cnt := w) p3 hxd (by omega) (by simp; omega)).mono ?_
  rintro r g4 ⟨rfl, fx4, v4, p4, k4⟩
  simp [BoK]
  simp only [List.append_assoc] at p4
  exact ⟨((fx1.trans fx2).trans fx3).trans fx4, v4, p4, ((k1.trans k2).trans k3).trans k4⟩

end Go.Dk

namespace Go.Dk
open Go Go.Dr
set_option maxRecDepth 100000

/-- the place and the fault are laid -/
theorem UnO.st {h g : AH} {id : Nat} {v : AV} {n : Nat} {b : List Nat} {at' : Nat} {bad : Bool} (u : UnO h id v n b at' bad) (f : Fr h g) (a2 : Nat) (b2 : Bool) :
    ∃ g1, storeN g id 3 [.bool b2] = .ok g1 ∧ load1 g1 id 2 = .ok (.int .i64 (at' : Int)) ∧ load1 g1 id 3 = .ok (.bool b2) ∧ UnO g1 id v n b at' b2 ∧ FrX id h g1 ∧
      ∃ g2, storeN g1 id 2 [.int .i64 (a2 : Int)] = .ok g2 ∧ UnO g2 id v n b a2 b2 ∧ FrX id h g2 := by
  obtain ⟨N, hN⟩ : ∃ N, N = 8 * n := ⟨_, rfl⟩
  have hg2 := (u.fr f).cells
  rw [← hN] at hg2
  have h1 := storeN_one (v := .bool b2) (off := 3) hg2 (by simp) rfl
  simp [splice_eq] at h1
  have hgx : (g.set id (.cells [v, .int .i64 (N : Int), .int .i64 (at' : Int), .bool b2] false)).get id = some (.cells [v, .int .i64 (N : Int), .int .i64 (at' : Int), .bool b2] false) := get_set_new _ _
  have h2 := storeN_one (v := .int .i64 (a2 : Int)) (off := 2) hgx (by simp) rfl
  simp [splice_eq] at h2
  have u1 := u.put f (.cells [v, .int .i64 (N : Int), .int .i64 (at' : Int), .bool b2] false) (a2 := at') (b2 := b2) (by rw [← hN])
  exact ⟨_, h1, load1_of hgx, load1_of hgx, u1.1, u1.2, _, h2, u.put f (.cells [v, .int .i64 (N : Int), .int .i64 (a2 : Int), .bool b2] false) (a2 := a2) (b2 := b2) (by rw [← hN])⟩

theorem UnO.ld {h : AH} {id : Nat} {v : AV} {n : Nat} {b : List Nat} {at' : Nat} {bad : Bool} (u : UnO h id v n b at' bad) : load1 h id 3 = .ok (.bool bad) := load1_of u.cells

theorem unpack_number {h : AH} {id : Nat} {v : AV} {n : Nat} {b : List Nat} {at' : Nat} {bad : Bool} (u : UnO h id v n b at' bad) (hb : ∀ x ∈ b, x < 256) (hn : n ≤ 2 ^ 36) (ha : at' ≤ 2 ^ 41) :
    Ev P SI (.fn f_codec_unpack_number) [.ptr id 0] h fun r g => ∃ (x : Int) (a2 : Nat) (b2 : Bool), r = .int .i64 x ∧ UnO g id v n b a2 b2 ∧ FrX id h g ∧ a2 ≤ 8 * n ∧
      ((takeI (bitsOf b) at' = some (x, a2) ∧ b2 = bad) ∨ (takeI (bitsOf b) at' = none ∧ b2 = true)) := by
  refine ev_fn k_codec_unpack_number rfl rfl ?_
  have hbl : b.length = n := by have := u.sl.1; simpa using this
  have hbs := bitsOf_length8 b
  obtain ⟨N, hN⟩ : ∃ N, N = 8 * n := ⟨_, rfl⟩
  have hg := u.cells
  rw [← hN] at hg
  have ld := loadN_pre2 hg
  have l2 : load1 h id 2 = .ok (.int .i64 (at' : Int)) := load1_of hg
  have hsame := Sl.samePair u.sl .i64 (N : Int)
  simp [c_codec_unpack_number, ld, l2, hsame]
  refine (bits_TakeInt (at' := at') u.sl hb hn ha hN).mono ?_
  rintro r g ⟨f, hr⟩
  have l3 : load1 g id 3 = .ok (.bool bad) := (u.fr f).ld
  cases ht : takeI (bitsOf b) at' with
  | some p =>
    obtain ⟨x, a2⟩ := p
    have hle := takeI_le ht
    rw [ht] at hr
    simp only at hr
    subst hr
    obtain ⟨g1, s1, _, _, _, _, g2, s3, u2, fx⟩ := u.st f a2 bad
    cases bad <;> simp [l3, s1, s3] <;> exact ⟨a2, u2, fx, by omega, rfl⟩
  | none =>
    rw [ht] at hr
    obtain ⟨e, he, rfl⟩ := hr
    obtain ⟨g1, s1, _, _, _, _, g2, s3, u2, fx⟩ := u.st f 0 true
    rw [show ((0 : Nat) : Int) = 0 from rfl] at s3
    cases bad <;> simp [l3, he, s1, s3] <;> exact ⟨0, u2, fx, by omega⟩

/-- a value's own bits give it back -/
theorem ctz_mul {x : Nat} (hx : x < 2 ^ 64) (h0 : x ≠ 0) : x / 2 ^ Lib.ctz 64 x * 2 ^ Lib.ctz 64 x = x := by
  have e : Lib.ctz 64 x = Lib.ctzFrom 64 x := by simp [Lib.ctz, h0]
  obtain ⟨m, hm, _⟩ := Lib.ctzFrom_spec 64 x (by omega) hx
  rw [← e] at hm
  generalize Lib.ctz 64 x = c at *
  have : x / 2 ^ c = 2 * m + 1 := by
    rw [hm, Nat.mul_div_cancel_left _ (Nat.two_pow_pos _)]
  rw [this, Nat.mul_comm, ← hm]

/-- what was read as a value -/
def ValR (bs : Bits) (at' : Nat) (bad : Bool) (x : Nat) (a2 : Nat) (b2 : Bool) : Prop :=
  (bad = true → b2 = true) ∧ ∀ x0 z, x0 < 2 ^ 64 → bad = false → at' ≤ bs.length → bs.drop at' = xorB x0 ++ z → x = x0 ∧ b2 = false ∧ bs.drop a2 = z ∧ a2 ≤ bs.length

theorem div_pow_lt {x : Nat} (hx : x < 2 ^ 64) (h0 : x ≠ 0) : x / 2 ^ Lib.ctz 64 x < 2 ^ widX x := by
  obtain ⟨w1, w2, w3, w4⟩ := wid_pos hx h0
  have hlt : x < 2 ^ Lib.bitLen x := by
    by_cases h : 2 ^ Lib.bitLen x ≤ x
    · have h4 := Lib.bitLen_shift (Lib.bitLen x) x h hx
      have h5 : x / 2 ^ Lib.bitLen x ≠ 0 := by
        have := Nat.div_pos h (Nat.two_pow_pos _)
        omega
      have h6 := Lib.bitLen_half (x / 2 ^ Lib.bitLen x) h5 (Nat.lt_of_le_of_lt (Nat.div_le_self _ _) hx)
      omega
    · omega
  rw [Nat.div_lt_iff_lt_mul (Nat.two_pow_pos _), ← Nat.pow_add]
  unfold widX
  rw [show Lib.bitLen x - Lib.ctz 64 x + Lib.ctz 64 x = Lib.bitLen x from by omega]
  exact hlt

theorem value_takes {bs : Bits} {a x : Nat} {z : Bits} (hx : x < 2 ^ 64) (h0 : x ≠ 0) (e : bs.drop a = xorB x ++ z) (ha : a ≤ bs.length) :
    takeB bs a 1 = some 1 ∧ takeB bs (a + 1) 6 = some (64 - Lib.bitLen x) ∧ takeB bs (a + 1 + 6) 6 = some (widX x - 1) ∧ takeB bs (a + 1 + 6 + 6) (widX x) = some (x / 2 ^ Lib.ctz 64 x) ∧
      bs.drop (a + 1 + 6 + 6 + widX x) = z ∧ a + 1 + 6 + 6 + widX x ≤ bs.length ∧ 1 ≤ widX x ∧ (64 - Lib.bitLen x) + widX x ≤ 64 ∧ 64 - (64 - Lib.bitLen x) - widX x = Lib.ctz 64 x := by
  obtain ⟨w1, w2, w3, w4⟩ := wid_pos hx h0
  have hw : widX x = Lib.bitLen x - Lib.ctz 64 x := rfl
  have hxd := div_pow_lt hx h0
  rw [xorB, if_neg h0, six_six _ _ (by omega)] at e
  simp only [List.append_assoc] at e
  obtain ⟨p1, p2, p3⟩ := takeB_low e ha
  obtain ⟨q1, q2, q3⟩ := takeB_low p2 p3
  obtain ⟨r1, r2, r3⟩ := takeB_low q2 q3
  obtain ⟨s1, s2, s3⟩ := takeB_low r2 r3
  rw [Nat.mod_eq_of_lt (by omega)] at q1 r1
  rw [Nat.mod_eq_of_lt hxd] at s1
  exact ⟨p1, q1, r1, s1, s2, s3, by omega, by omega, by omega⟩

def ValK (h : AH) (id : Nat) (v : AV) (n : Nat) (b : List Nat) (at' : Nat) (bad : Bool) (r : AV) (g : AH) : Prop :=
  ∃ (x : Nat) (a2 : Nat) (b2 : Bool), r = .int .u64 (x : Int) ∧ x < 2 ^ 64 ∧ UnO g id v n b a2 b2 ∧ FrX id h g ∧ a2 ≤ at' + 100 ∧ ValR (bitsOf b) at' bad x a2 b2

theorem unpack_value {h : AH} {id : Nat} {v : AV} {n : Nat} {b : List Nat} {at' : Nat} {bad : Bool} (u : UnO h id v n b at' bad) (hb : ∀ x ∈ b, x < 256) (hn : n ≤ 2 ^ 36) (ha : at' ≤ 2 ^ 40) :
    Ev P SI (.fn f_codec_unpack_value) [.ptr id 0] h (ValK h id v n b at' bad) := by
  refine ev_fn k_codec_unpack_value rfl rfl ?_
  have l3 := u.ld
  cases bad with
  | true =>
    simp [c_codec_unpack_value, l3]
    exact ⟨0, at', true, rfl, by omega, u, .refl _ _, by omega, fun _ => rfl, fun x0 z _ h => by cases h⟩
  | false =>
    have hbl : b.length = n := by have := u.sl.1; simpa using this
    simp [c_codec_unpack_value, l3]
    refine (unpack_take (cnt := 1) u hb hn (by omega) (by omega)).mono ?_
    rintro r g1 ⟨x1, b1, rfl, u1, f1, hx1, hc1⟩
    by_cases h10 : x1 = 0
    · subst h10
      simp
      refine ⟨0, at' + 1, b1, rfl, by omega, u1, f1, by omega, fun h => (by cases h), ?_⟩
      intro x0 z hx0 _ hal hd
      by_cases h0 : x0 = 0
      · subst h0
        rw [xorB, if_pos rfl] at hd
        obtain ⟨p1, p2, p3⟩ := takeB_low hd hal
        rcases hc1 with ⟨_, rfl⟩ | ⟨hn1, _⟩
        · exact ⟨rfl, rfl, p2, p3⟩
        · rw [p1] at hn1; cases hn1
      · obtain ⟨p1, _⟩ := value_takes hx0 h0 hd hal
        rw [p1] at hc1
        rcases hc1 with ⟨h, _⟩ | ⟨h, _⟩ <;> cases h
    simp [h10]
    refine (unpack_take (cnt := 6) u1 hb hn (by omega) (by omega)).mono ?_
    rintro r g2 ⟨x2, b2, rfl, u2, f2, hx2, hc2⟩
    have w2 : wrapF .i64 (x2 : Int) = (x2 : Int) := wrap_i64 (by omega) (by omega)
    simp [w2]
    refine (unpack_take (cnt := 6) u2 hb hn (by omega) (by omega)).mono ?_
    rintro r g3 ⟨x3, b3, rfl, u3, f3, hx3, hc3⟩
    have w3 : wrapF .i64 (x3 : Int) = (x3 : Int) := wrap_i64 (by omega) (by omega)
    obtain ⟨w, hw⟩ : ∃ w, w = x3 + 1 := ⟨_, rfl⟩
    have w4 : wrapF .i64 ((x3 : Int) + 1) = (w : Int) := by rw [wrap_i64 (by omega) (by omega)]; omega
    obtain ⟨hs, hhs⟩ : ∃ hs, hs = x2 + w := ⟨_, rfl⟩
    have w5 : wrapF .i64 ((x2 : Int) + (w : Int)) = (hs : Int) := by rw [wrap_i64 (by omega) (by omega)]; omega
    have l33 := u3.ld
    obtain ⟨g4, s1, _, s3, u4, f4, _⟩ := u3.st (.refl _) 0 (b3 || decide (64 < hs))
    have hno : ∀ x0 z, x0 < 2 ^ 64 → at' ≤ (bitsOf b).length → (bitsOf b).drop at' = xorB x0 ++ z → x0 ≠ 0 := by
      rintro x0 z hx0 hal hd rfl
      rw [xorB, if_pos rfl] at hd
      obtain ⟨p1, _⟩ := takeB_low hd hal
      rw [p1] at hc1
      rcases hc1 with ⟨h, _⟩ | ⟨h, _⟩ <;> cases h
      exact h10 rfl
    have hall : ∀ x0 z, x0 < 2 ^ 64 → at' ≤ (bitsOf b).length → (bitsOf b).drop at' = xorB x0 ++ z → b3 = false ∧ x2 = 64 - Lib.bitLen x0 ∧ w = widX x0 ∧ ¬ 64 < hs := by
      intro x0 z hx0 hal hd
      obtain ⟨p1, p2, p3, p4, p5, p6, p7, p8, p9⟩ := value_takes hx0 (hno x0 z hx0 hal hd) hd hal
      rw [p1] at hc1
      rw [p2] at hc2
      rw [p3] at hc3
      rcases hc1 with ⟨_, rfl⟩ | ⟨h, _⟩
      rcases hc2 with ⟨h2, rfl⟩ | ⟨h, _⟩
      rcases hc3 with ⟨h3, rfl⟩ | ⟨h, _⟩
      · have e2 := Option.some.inj h2
        have e3 := Option.some.inj h3
        exact ⟨rfl, e2.symm, by omega, by omega⟩
      · cases h
      · cases h
      · cases h
    cases hbad : (b3 || decide (64 < hs)) with
    | true =>
      rw [hbad] at s1 s3 u4
      have fin : ValK h id v n b at' false (.int .u64 0) g4 := by
        refine ⟨0, _, true, rfl, by omega, u4, ((f1.trans f2).trans f3).trans f4, by omega, fun _ => rfl, ?_⟩
        intro x0 z hx0 _ hal hd
        obtain ⟨q1, _, _, q4⟩ := hall x0 z hx0 hal hd
        rw [q1] at hbad
        simp at hbad
        exact absurd hbad q4
      cases b3 with
      | true =>
        simp [w3, w4, l33, s1, s3]
        exact fin
      | false =>
        simp at hbad
        have hbad' : (64 : Int) < hs := by omega
        simp [w3, w4, w5, l33, hbad', s1, s3]
        exact fin
    | false =>
      rw [hbad] at s1 s3 u4
      simp at hbad
      obtain ⟨rfl, hle⟩ := hbad
      have hle' : ¬ (64 : Int) < hs := by omega
      simp [w3, w4, w5, l33, hle', s1, s3]
      refine (unpack_take (cnt := w) u4 hb hn (by omega) (by omega)).mono ?_
      rintro r g5 ⟨x5, b5, rfl, u5, f5, hx5, hc5⟩
      have w6 : wrapF .i64 (64 - (x2 : Int)) = ((64 - x2 : Nat) : Int) := by rw [wrap_i64 (by omega) (by omega)]; omega
      have w7 : wrapF .i64 (((64 - x2 : Nat) : Int) - (w : Int)) = ((64 - x2 - w : Nat) : Int) := by rw [wrap_i64 (by omega) (by omega)]; omega
      have s5 := shl_u64 (P := P) t_uint64 false .i64 x5 (64 - x2 - w) (by omega)
      have hres : x5 * 2 ^ (64 - x2 - w) % 2 ^ 64 < 2 ^ 64 := Nat.mod_lt _ (by omega)
      have fin : ValR (bitsOf b) at' false (x5 * 2 ^ (64 - x2 - w) % 2 ^ 64) (at' + 1 + 6 + 6 + w) b5 := by
        refine ⟨fun h => (by cases h), ?_⟩
        intro x0 z hx0 _ hal hd
        obtain ⟨_, q2, q3, _⟩ := hall x0 z hx0 hal hd
        have h0 := hno x0 z hx0 hal hd
        obtain ⟨_, _, _, p4, p5, p6, p7, p8, p9⟩ := value_takes hx0 h0 hd hal
        rw [q3, p4] at hc5
        rcases hc5 with ⟨h5, rfl⟩ | ⟨h, _⟩
        · have e5 := Option.some.inj h5
          refine ⟨?_, rfl, by rw [q3]; exact p5, by rw [q3]; exact p6⟩
          rw [q2, q3, p9, ← e5, ctz_mul hx0 h0, Nat.mod_eq_of_lt hx0]
        · cases h
      generalize x5 * 2 ^ (64 - x2 - w) % 2 ^ 64 = res at *
      generalize 64 - x2 - w = sh at *
      generalize 64 - x2 = sh2 at *
      simp [w6, w7, s5, -bin_shl_u64]
      exact ⟨res, _, b5, rfl, hres, u5, (((f1.trans f2).trans f3).trans f4).trans f5, by omega, fin⟩

end Go.Dk

namespace Go.Dk
open Go Go.Dr
set_option maxRecDepth 100000

theorem Own.frX {h g : AH} {B id es n : Nat} {v : AV} {l : List AV} (s : Own B h es n v l) (f : FrX id h g) (hid : id < B) : Own B g es n v l := by
  refine ⟨s.1, ?_⟩
  rcases s.2 with e | ⟨i, off, x, vs, e1, e2, e3, e4, e5⟩
  · exact .inl e
  · exact .inr ⟨i, off, x, vs, e1, e2, Nat.lt_of_lt_of_le e3 f.next, by rw [f.get i e3 (by omega)]; exact e4, e5⟩

theorem UnO.frB {h g : AH} {B id : Nat} {v : AV} {n : Nat} {b : List Nat} {at' : Nat} {bad : Bool} (u : UnO h id v n b at' bad) (f : FrB B h g) (hid : id < B) (hv : ∀ i, idOf v = some i → i < B) : UnO g id v n b at' bad := by
  refine ⟨by rw [f.get _ hid, u.cells], Nat.lt_of_lt_of_le u.lt f.next, ⟨u.sl.1, ?_⟩, u.ne⟩
  rcases u.sl.2 with e | ⟨i, off, cap, x, vs, ro, e1, e2, e3, e4, e5, e6⟩
  · exact .inl e
  · exact .inr ⟨i, off, cap, x, vs, ro, e1, Nat.lt_of_lt_of_le e2 f.next, e3, by rw [f.get i (hv i (by rw [e1]; rfl))]; exact e4, e5, e6⟩

/-- how far the samples l0 are read -/
def DecJ (bs : Bits) (l0 : List Smp) (z : Bits) (j : Nat) (r : List Smp) (at' : Nat) (step : Int) : Prop :=
  r = l0.take j ∧ at' ≤ bs.length ∧ ((j = 0 ∧ step = 0 ∧ bs.drop at' = sampB l0 ++ z) ∨ (0 < j ∧ ∃ t w, l0[j - 1]? = some (t, w) ∧ bs.drop at' = tailB t w step (l0.drop j) ++ z))

/-- one sample more was read -/
def DecN (bs : Bits) (l0 : List Smp) (z : Bits) (j : Nat) (T : Int) (V : Nat) (at' : Nat) (bad : Bool) (step : Int) : Prop :=
  bad = false ∧ l0[j]? = some (T, V) ∧ at' ≤ bs.length ∧ bs.drop at' = tailB T V step (l0.drop (j + 1)) ++ z

def DecK0 (l0 : List Smp) (z : Bits) (bs : Bits) (cnt : Nat) : Prop := SmpR l0 ∧ l0.length = cnt ∧ bs = sampB l0 ++ z

theorem drop_at {α : Type} {l : List α} {j : Nat} {x : α} (h : l[j]? = some x) : l.drop j = x :: l.drop (j + 1) := by
  obtain ⟨h1, h2⟩ := List.getElem?_eq_some_iff.1 h
  rw [List.drop_eq_getElem_cons h1, h2]

/-- the first sample -/
theorem dec_first {bs : Bits} {cnt : Nat} {r : List Smp} {at' : Nat} {step : Int} (h0 : 0 < cnt) (hJ : ∀ l0 z, DecK0 l0 z bs cnt → DecJ bs l0 z 0 r at' step) {x1 x2 : Nat} {b1 b2 : Bool}
    (h1 : takeB bs at' 64 = some x1 ∧ b1 = false ∨ takeB bs at' 64 = none ∧ b1 = true ∧ x1 = 0) (h2 : takeB bs (at' + 64) 64 = some x2 ∧ b2 = b1 ∨ takeB bs (at' + 64) 64 = none ∧ b2 = true ∧ x2 = 0) :
    ∀ l0 z, DecK0 l0 z bs cnt → DecN bs l0 z 0 (wrapF .i64 (x1 : Int)) x2 (at' + 64 + 64) b2 0 := by
  intro l0 z hk
  obtain ⟨hr, hle, hc⟩ := hJ l0 z hk
  obtain ⟨hR, hlen, _⟩ := hk
  rcases hc with ⟨_, _, hd⟩ | ⟨h, _⟩
  rotate_left
  · omega
  cases l0 with
  | nil => simp at hlen; omega
  | cons x l =>
    obtain ⟨t, w⟩ := x
    rw [sampB, List.append_assoc, List.append_assoc] at hd
    obtain ⟨p1, p2, p3⟩ := takeB_low hd hle
    obtain ⟨q1, q2, q3⟩ := takeB_low p2 p3
    obtain ⟨ht, hw⟩ := hR (t, w) (by simp)
    simp only at ht hw
    have hu := u64_lt t
    rw [Nat.mod_eq_of_lt hu] at p1
    rw [Nat.mod_eq_of_lt hw] at q1
    rw [p1] at h1
    rw [q1] at h2
    rcases h1 with ⟨h1, rfl⟩ | ⟨h, _⟩
    · rcases h2 with ⟨h2, rfl⟩ | ⟨h, _⟩
      · cases h1
        cases h2
        have : wrapF .i64 (u64 t : Int) = t := by rw [wrap_i64n]; unfold u64; omega
        rw [this]
        exact ⟨rfl, rfl, q3, q2⟩
      · cases h
    · cases h

/-- a sample behind others -/
theorem dec_next {bs : Bits} {cnt j : Nat} {r : List Smp} {at' : Nat} {step : Int} (hj : j + 1 < cnt) (hJ : ∀ l0 z, DecK0 l0 z bs cnt → DecJ bs l0 z (j + 1) r at' step) {t : Int} {w : Nat} (hr : r[j]? = some (t, w))
    {n : Int} {a1 a2 x : Nat} {b1 b2 : Bool} (h1 : takeI bs at' = some (n, a1) ∧ b1 = false ∨ takeI bs at' = none ∧ b1 = true) (h2 : ValR bs a1 b1 x a2 b2) :
    ∀ l0 z, DecK0 l0 z bs cnt → DecN bs l0 z (j + 1) (wrapF .i64 (t + wrapF .i64 (step + n))) (w ^^^ x) a2 b2 (wrapF .i64 (step + n)) := by
  intro l0 z hk
  obtain ⟨hrt, hle, hc⟩ := hJ l0 z hk
  obtain ⟨hR, hlen, _⟩ := hk
  rcases hc with ⟨h, _⟩ | ⟨_, t0, w0, hp, hd⟩
  · omega
  rw [Nat.add_sub_cancel] at hp
  have : l0[j]? = some (t, w) := by
    rw [hrt, List.getElem?_take_of_lt (by omega)] at hr
    exact hr
  rw [hp] at this
  cases this
  obtain ⟨⟨t', w'⟩, hx⟩ := at_some (l := l0) (j := j + 1) (by omega)
  obtain ⟨ht', hw'⟩ := hR _ (List.mem_of_getElem? hx)
  obtain ⟨ht0, hw0⟩ := hR _ (List.mem_of_getElem? hp)
  simp only at ht' hw' ht0 hw0
  rw [drop_at hx, tailB, List.append_assoc, List.append_assoc] at hd
  have hrg : ∀ y, -9223372036854775808 ≤ wrapF .i64 y ∧ wrapF .i64 y < 9223372036854775808 := fun y => by rw [wrap_i64n]; omega
  obtain ⟨a', e1, e2, e3⟩ := takeI_int hd hle (hrg _)
  rw [e1] at h1
  rcases h1 with ⟨h1, rfl⟩ | ⟨h, _⟩
  · simp only [Option.some.injEq, Prod.mk.injEq] at h1
    obtain ⟨rfl, rfl⟩ := h1
    obtain ⟨f1, f2, f3, f4⟩ := h2.2 _ _ (Nat.xor_lt_two_pow hw' hw0) rfl e3 e2
    subst f1
    have s1 : wrapF .i64 (step + wrapF .i64 (wrapF .i64 (t' - t) - step)) = wrapF .i64 (t' - t) := by
      simp only [wrap_i64n]
      omega
    have s2 : wrapF .i64 (t + wrapF .i64 (t' - t)) = t' := by
      simp only [wrap_i64n]
      omega
    have s3 : w ^^^ (w' ^^^ w) = w' := by rw [Nat.xor_comm w', ← Nat.xor_assoc, Nat.xor_self, Nat.zero_xor]
    rw [s1, s2, s3]
    exact ⟨f2, hx, f4, f3⟩
  · cases h

/-- a sample is taken in -/
theorem dec_step {bs : Bits} {cnt j : Nat} {r : List Smp} {at' a2 : Nat} {step st2 : Int} {T : Int} {V : Nat} (hJ : ∀ l0 z, DecK0 l0 z bs cnt → DecJ bs l0 z j r at' step)
    (hN : ∀ l0 z, DecK0 l0 z bs cnt → DecN bs l0 z j T V a2 false st2) : ∀ l0 z, DecK0 l0 z bs cnt → DecJ bs l0 z (j + 1) (r ++ [(T, V)]) a2 st2 := by
  intro l0 z hk
  obtain ⟨rfl, _⟩ := hJ l0 z hk
  obtain ⟨_, h1, h2, h3⟩ := hN l0 z hk
  exact ⟨(take_snoc l0 j _ h1).symm, h2, .inr ⟨by omega, T, V, by simpa using h1, h3⟩⟩

/-- bytes that are samples -/
def IsS (b : List Nat) (l : List Smp) : Prop := SmpR l ∧ canS l = true ∧ encS l = b

theorem IsS.k {b : List Nat} {l : List Smp} (h : IsS b l) : ∃ z, DecK0 l z (bitsOf (b.drop 2)) (beV (b.take 2)) ∧ 2 ≤ b.length ∧ beV (b.take 2) ≤ 65535 := by
  obtain ⟨h1, h2, rfl⟩ := h
  have hl : l.length ≤ 65535 := by simp [canS] at h2; omega
  obtain ⟨z, hz⟩ := bitsOf_pack (sampB l)
  have e1 : (encS l).take 2 = be 2 l.length := by rw [encS, List.take_left' (by simp)]
  have e2 : (encS l).drop 2 = pack (sampB l) := by rw [encS, List.drop_left' (by simp)]
  have e3 : beV (be 2 l.length) = l.length := by rw [beV_be]; omega
  refine ⟨z, ⟨h1, ?_, ?_⟩, by simp [encS], by rw [e1, e3]; exact hl⟩
  · rw [e1, e3]
  · rw [e2, hz]

/-- what comes of bytes as samples -/
def DecS (h : AH) (b : List Nat) (r : AV) (g : AH) : Prop :=
  Fr h g ∧ ((∃ l v, IsS b l ∧ (∀ l0, IsS b l0 → l0 = l) ∧ r = .tuple [v, .int .i64 0] ∧ Sl g 2 l.length v (l.flatMap smC)) ∨ ((∀ l0, ¬ IsS b l0) ∧ r = .tuple [.nils, .int .i64 5]))

end Go.Dk

namespace Go.Dk
open Go Go.Dr
set_option maxRecDepth 100000

theorem BoO.fr {B : Nat} {h g : AH} {id : Nat} {v : AV} {l : Bits} (p : BoO B h id v l) (f : Fr h g) : BoO B g id v l :=
  ⟨by rw [f.get _ p.lt, p.cells], Nat.lt_of_lt_of_le p.lt f.next, p.ge, p.own.fr f, p.ne⟩

theorem wrap_wrap (x : Int) : wrapF .i64 (wrapF .i64 x) = wrapF .i64 x := by
  have e : wrapF .i64 x = (x + 9223372036854775808) % 18446744073709551616 - 9223372036854775808 := by rw [wrapF_eq, IntKind.wrap_i64]
  exact wrap_i64 (by omega) (by omega)

theorem val_one (x : Bool) : val [x] = x.toNat := by cases x <;> rfl

theorem set_same {α : Type} {l : List α} {i : Nat} {x : α} (h : l[i]? = some x) : l.set i x = l := by
  apply List.ext_getElem?
  intro k
  rw [List.getElem?_set]
  split
  · rename_i e
    subst e
    obtain ⟨h1, h2⟩ := List.getElem?_eq_some_iff.1 h
    rw [if_pos h1, h]
  · rfl

theorem pow_128 {r : Nat} (hr : r < 8) : 128 / 2 ^ r = 2 ^ (7 - r) := by
  have : (128 : Nat) = 2 ^ (7 - r) * 2 ^ r := by rw [← Nat.pow_add, show 7 - r + r = 7 from by omega]
  rw [this, Nat.mul_div_cancel _ (Nat.two_pow_pos _)]

/-- what stands as j samples are written -/
def RefI (h : AH) (l : List Smp) (j : Nat) (g : AH) : Prop := ∃ m step u, BoO h.next g h.next u m ∧ EncJ l j m step ∧
  (2 ≤ j → ∃ t1 w1 t2 w2, l[j - 1]? = some (t1, w1) ∧ l[j - 2]? = some (t2, w2) ∧ step = wrapF .i64 (t1 - t2)) ∧ (j = 1 → step = 0)

theorem ref11_Encode {h : AH} {n : Nat} {v : AV} {l : List Smp} (s : Sl h 2 n v (l.flatMap smC)) (hn : n ≤ 2 ^ 40) (hv : ∀ x ∈ l, x.2 < 2 ^ 64) :
    Ev P SI (.fn f_ref11_Encode) [v] h (EncK h l) := by
  refine ev_fn k_ref11_Encode rfl rfl ?_
  have hl := smp_len s
  unfold EncK
  by_cases hc : canS l = true
  case neg =>
    have hc' : canS l = false := by simpa using hc
    simp [c_ref11_Encode, ref11_Can s hn, hc']
    exact .refl _
  have hn2 : n ≤ 65535 := by
    simp [canS] at hc
    omega
  have hsl := sampB_len l hv
  simp [c_ref11_Encode, ref11_Can s hn, hc, s.len]
  have f0 := Fr.push (.refl h) (.cells [.nils] false)
  have p0 : BoO h.next (h.push (.cells [.nils] false)) h.next .nils [] := ⟨get_push_new _, Nat.lt_succ_self _, Nat.le_refl _, Own.nil _ _, by simp [idOf]⟩
  generalize hg0 : h.push (.cells [.nils] false) = g0 at *
  refine w_mono (Q := fun q σ ds g => q = .exit 0 ∧ ds = [] ∧ σ 0 = v ∧ σ 4 = .ptr h.next 0 ∧ Fr h g ∧ ∃ u, BoO h.next g h.next u (sampB l)) ?_ ?_
  · refine w_count (n := n) (by rfl) (fun j σ ds g => ds = [] ∧ σ 0 = v ∧ σ 4 = .ptr h.next 0 ∧ σ 15 = v ∧ σ 16 = .int .i64 (n : Int) ∧ Fr h g ∧ RefI h l j g) (by omega) (by simp)
      ⟨rfl, by simp, by simp, by simp, by simp, f0, [], 0, .nils, p0, .inl ⟨rfl, rfl, rfl⟩, fun h => by omega, fun h => by omega⟩ (fun j σ ds g hJ => by simp [hJ.2.2.2.2.1]) ?_ ?_
    · rintro j σ ds g hj hi ⟨rfl, e0, e4, e12, e13, fr, m, step, u, po, hJ, hst, hs1⟩
      obtain ⟨⟨t, w⟩, hx⟩ := at_some (l := l) (j := j) (by omega)
      have hm := hJ.len
      have hw : w < 2 ^ 64 := hv _ (List.mem_of_getElem? hx)
      obtain ⟨id, o, a1, a2, _⟩ := smp_t (s.fr fr) hx
      have f1 := Fr.push (.refl g) (.cells [.int .i64 t, .int .u64 (w : Int)] false)
      have gg : (g.push (.cells [.int .i64 t, .int .u64 (w : Int)] false)).get g.next = some (.cells [.int .i64 t, .int .u64 (w : Int)] false) := get_push_new _
      have gn : (g.push (.cells [.int .i64 t, .int .u64 (w : Int)] false)).next = g.next + 1 := rfl
      have hpn : h.next < g.next := po.lt
      have hun : idOf u ≠ some g.next := fun e => by have := Sl.idLt po.own.sl e; omega
      have hdrop : l.drop j = (t, w) :: l.drop (j + 1) := by
        obtain ⟨h1, h2⟩ := List.getElem?_eq_some_iff.1 hx
        rw [List.drop_eq_getElem_cons h1, h2]
      generalize hg1 : g.push (.cells [.int .i64 t, .int .u64 (w : Int)] false) = g1 at *
      have po1 := po.fr f1
      have ld0 : load1 g1 g.next 0 = .ok (.int .i64 t) := load1_of gg
      have ld1 : load1 g1 g.next 1 = .ok (.int .u64 (w : Int)) := load1_of gg
      simp [smC] at a2
      -- from a heap on: the value xored
      have frOf : ∀ {g2 : AH}, FrB h.next g1 g2 → Fr h g2 := fun fb => ⟨Nat.le_trans (fr.trans f1).next fb.next, fun i hi => by rw [fb.get i hi, (fr.trans f1).get i hi]⟩
      rcases hJ with ⟨rfl, rfl, rfl⟩ | ⟨h0, t0, w0, hp, hcat⟩
      · have wu := wrap_u64n t
        have a1' : opIdxV 2 v (.int .i64 0) = .ok (.ptr id o) := a1
        simp [e0, e4, e12, e13, hi, a1', a2, hg1, ld0, wu]
        refine (ref11_put (n := u64 t) (cnt := 64) po1 (u64_lt t) (by omega) (by simp)).mono ?_
        rintro r g2 ⟨rfl, fb2, u2, p2, k2⟩
        have ld1' : load1 g2 g.next 1 = .ok (.int .u64 (w : Int)) := by
          have := k2.get g.next (by omega) (by omega) hun
          rw [gg] at this
          exact load1_of this
        simp [ld1', e4]
        refine (ref11_put (n := w) (cnt := 64) p2 hw (by omega) (by simp)).mono ?_
        rintro r g3 ⟨rfl, fb3, u3, p3, k3⟩
        simp [e0, e4, e12, e13, hi]
        refine ⟨frOf (fb2.trans fb3), _, 0, u3, p3, .inr ⟨by omega, t, w, by simpa using hx, ?_⟩, fun h => by omega, fun _ => rfl⟩
        rw [show l = (t, w) :: l.drop 1 from by simpa using hdrop]
        simp [sampB]
      · obtain ⟨j, rfl⟩ : ∃ i, j = i + 1 := ⟨j - 1, by omega⟩
        obtain ⟨id', o', b1, _, b2, b3, hidlt⟩ := smp_t ((s.fr fr).fr f1) hp
        rw [Nat.add_sub_cancel] at b1
        simp only at b2 b3
        have hw0 : w0 < 2 ^ 64 := hv _ (List.mem_of_getElem? hp)
        have xx := xor_u64 (P := P) t_uint64 false w w0 hw hw0
        have hwx : w ^^^ w0 < 2 ^ 64 := Nat.xor_lt_two_pow hw hw0
        have w1 : wrapF .i64 (((j + 1 : Nat) : Int) - 1) = (j : Int) := by rw [wrap_i64 (by omega) (by omega)]; omega
        -- behind the number: the value
        have tail : ∀ (g2 : AH) (u2 : AV), FrB h.next g1 g2 → BoO h.next g2 h.next u2 (m ++ intB (wrapF .i64 (wrapF .i64 (t - t0) - step))) → BoF h.next u u2 g1 g2 →
            load1 g2 g.next 1 = .ok (.int .u64 (w : Int)) ∧ load1 g2 id' (o' + 1) = .ok (.int .u64 (w0 : Int)) ∧
            Ev P SI (.fn f_ref11_out_putXor) [.ptr h.next 0, .int .u64 ((w ^^^ w0 : Nat) : Int)] g2 fun r g3 => r = .tuple [] ∧ Fr h g3 ∧ ∃ m' step' u', BoO h.next g3 h.next u' m' ∧ EncJ l (j + 1 + 1) m' step' ∧ step' = wrapF .i64 (t - t0) := by
          intro g2 u2 fb2 p2 k2
          have F2 := frOf fb2
          refine ⟨?_, ?_, ?_⟩
          · have := k2.get g.next (by omega) (by omega) hun
            rw [gg] at this
            exact load1_of this
          · obtain ⟨id2, o2, c1, _, _, c3, _⟩ := smp_t (s.fr F2) hp
            rw [Nat.add_sub_cancel, b1] at c1
            cases c1
            exact c3
          · have hlen2 : (m ++ intB (wrapF .i64 (wrapF .i64 (t - t0) - step))).length ≤ 2 ^ 34 := by
              have := intB_len (wrapF .i64 (wrapF .i64 (t - t0) - step))
              rw [List.length_append]
              omega
            refine (ref11_putXor p2 hwx hlen2).mono ?_
            rintro r g3 ⟨rfl, fb3, u3, p3, k3⟩
            refine ⟨rfl, frOf (fb2.trans fb3), _, _, u3, p3, .inr ⟨by omega, t, w, hx, ?_⟩, rfl⟩
            rw [hdrop, tailB] at hcat
            rw [← hcat]
            simp
        by_cases hj0 : j = 0
        · subst hj0
          have hs0 := hs1 rfl
          subst hs0
          have b1' : opIdxV 2 v (.int .i64 0) = .ok (.ptr id' o') := b1
          have a1' : opIdxV 2 v (.int .i64 1) = .ok (.ptr id o) := a1
          have w2 : wrapF .i64 (wrapF .i64 (t - t0) - 0) = wrapF .i64 (t - t0) := by rw [Int.sub_zero]; exact wrap_wrap _
          rw [w2] at tail
          simp [e0, e4, e12, e13, hi, a1', a2, hg1, ld0, b1', b2]
          refine (ref11_putInt po1 (by omega)).mono ?_
          rintro r g2 ⟨rfl, fb2, u2, p2, k2⟩
          obtain ⟨q1, q2, q3⟩ := tail g2 u2 fb2 p2 k2
          generalize w ^^^ w0 = wx at *
          simp [e0, e4, q1, q2, b1', xx, show wrapF .i64 0 = 0 from rfl, -bin_xor_u64]
          refine q3.mono ?_
          rintro r g3 ⟨rfl, F3, m', st', u3, p3, e3, hst3⟩
          simp [e0, e4, e12, e13, hi]
          exact ⟨F3, m', st', u3, p3, e3, fun _ => ⟨t, w, t0, w0, by simpa using hx, by simpa using hp, hst3⟩, fun h => by omega⟩
        · obtain ⟨i, rfl⟩ : ∃ i, j = i + 1 := ⟨j - 1, by omega⟩
          obtain ⟨t1, w1', t2, w2', hp1, hp2, hs⟩ := hst (by omega)
          rw [hp1] at hp
          cases hp
          subst hs
          obtain ⟨idq, oq, d1, _, d2, _, _⟩ := smp_t ((s.fr fr).fr f1) hp2
          rw [show i + 1 + 1 - 2 = i from by omega] at d1
          simp only at d2
          have c0 : ¬ ((i + 1 + 1 : Nat) : Int) = 0 := by omega
          have c1 : ¬ ((i + 1 + 1 : Nat) : Int) = 1 := by omega
          have w2 : wrapF .i64 (((i + 1 + 1 : Nat) : Int) - 2) = (i : Int) := by rw [wrap_i64 (by omega) (by omega)]; omega
          generalize hjj : ((i + 1 + 1 : Nat) : Int) = j1 at *
          generalize hj2 : ((i + 1 : Nat) : Int) = j2 at *
          simp [e0, e4, e12, e13, hi, a1, a2, hg1, ld0, b1, b2, c0, c1, w1, w2, d1, d2]
          refine (ref11_putInt po1 (by omega)).mono ?_
          rintro r g2 ⟨rfl, fb2, u2, p2, k2⟩
          obtain ⟨q1, q2, q3⟩ := tail g2 u2 fb2 p2 k2
          generalize w ^^^ w0 = wx at *
          simp [e0, e4, q1, q2, b1, w1, xx, -bin_xor_u64]
          refine q3.mono ?_
          rintro r g3 ⟨rfl, F3, m', st', u3, p3, e3, hst3⟩
          simp [e0, e4, e12, e13, hi]
          exact ⟨F3, m', st', u3, p3, e3, fun _ => ⟨t, w, t0, w0, by simpa using hx, by simpa using hp1, hst3⟩, fun h => by omega⟩
    · rintro σ ds g ⟨rfl, e0, e4, e12, e13, fr, m, step, u, po, hJ, _⟩
      rw [← hl] at hJ
      have hm := hJ.fin
      subst hm
      simp [e0, e4]
      exact ⟨fr, u, po⟩
  · rintro q σ ds g ⟨rfl, rfl, e0, e4, fr, u, po⟩
    generalize hbits : sampB l = bits at *
    have hN : bits.length ≤ 150 * 65535 := by omega
    have wn : wrapF .u64 (n : Int) = (n : Int) := wrap_u64 (by omega) (by omega)
    have f2 := Fr.push (.refl g) (.cells (by8 (be 2 n)) false)
    have ow := Own.fresh (B := g.next) (h := g) (es := 1) (n := 2) (l := by8 (be 2 n)) true (Nat.le_refl _) (by simp)
    have su := po.own.sl
    have hug : load1 (g.push (.cells (by8 (be 2 n)) false)) h.next 0 = .ok u := by
      have := f2.get _ po.lt
      rw [po.cells] at this
      exact load1_of this
    generalize hg2 : g.push (.cells (by8 (be 2 n)) false) = g2 at *
    simp [e0, e4, s.len, wn, ref01_Put2 n (by omega), hg2, hug, su.len]
    refine w_count (n := bits.length) (by rfl) (fun j σ ds g' => ds = [] ∧ σ 89 = u ∧ σ 90 = .int .i64 (bits.length : Int) ∧ FrB g.next g2 g' ∧ ∃ b, σ 7 = b ∧ Own g.next g' 1 (2 + (j + 7) / 8) b (by8 (be 2 n ++ pack (bits.take j)))) (by omega) (by simp)
      ⟨rfl, by simp, by simp, .refl _ _, _, by simp; rfl, by simpa [pack] using ow⟩ (fun j σ ds g hJ => by simp [hJ.2.2.1]) ?_ ?_
    · clear e0 e4
      rintro j σ ds g3 hj hi ⟨rfl, e89, e90, fb, b, e7, ob⟩
      have F3 : Fr g g3 := ⟨Nat.le_trans f2.next fb.next, fun i hi => by rw [fb.get i hi, f2.get i hi]⟩
      obtain ⟨x, hx⟩ := at_some (l := bits) (j := j) hj
      obtain ⟨id, o, a1, a2, _⟩ := (su.fr F3).get1 (k := .i64) (i := (j : Int)) rfl hj (x := .bool x) (by rw [boC, List.getElem?_map, hx]; rfl)
      obtain ⟨r, hr⟩ : ∃ r, r = j % 8 := ⟨_, rfl⟩
      have hr8 : r < 8 := by omega
      have hrem : (j : Int).tmod 8 = (r : Int) := by rw [hr]; exact tmod_nat _ 8
      have hlt : (bits.take j).length = j := by simp; omega
      obtain ⟨Bt, hBt⟩ : ∃ Bt, Bt = if r = 0 then pack (bits.take j) ++ [0] else pack (bits.take j) := ⟨_, rfl⟩
      obtain ⟨y, hy1, hy2, hy3, hy4, hy5, hy6⟩ := pack_more (bits.take j) [x] (by simp) (by rw [hlt]; simp; omega) Bt (by rw [hBt, hr, hlt])
      rw [hlt, ← hr] at hy3 hy6
      rw [hlt] at hy5
      rw [val_one, List.length_singleton, show 8 - r - 1 = 7 - r from by omega] at hy6
      have htk : bits.take (j + 1) = bits.take j ++ [x] := take_snoc bits j x hx
      rw [← htk] at hy6
      simp [e89, e90, hi, a1, a2]
      refine w_mono (c := .cond (.c (.bool (decide ((j : Int).tmod 8 = 0)))) _ _) (Q := fun q σ ds g' => q = .normal ∧ ds = [] ∧ σ 89 = u ∧ σ 90 = .int .i64 (bits.length : Int) ∧ σ 91 = .int .i64 (j : Int) ∧ σ 8 = .int .i64 (j : Int) ∧ σ 9 = .bool x ∧ FrB g.next g2 g' ∧ ∃ b, σ 7 = b ∧
        Own g.next g' 1 (2 + Bt.length) b (by8 (be 2 n ++ Bt))) ?_ ?_
      · by_cases h0 : r = 0
        · rw [if_pos h0] at hBt
          obtain ⟨v', g', ap, o1, f1, p1, p2⟩ := ob.snoc2 (x := [.int .u8 0]) (bytes := 1) (Nat.le_trans F3.next (Nat.le_refl _)) rfl rfl (by omega) (by omega)
          simp [hrem, h0, e7, splice_eq, ap, e89, e90, hi]
          refine ⟨fb.trans f1, ?_⟩
          have e1 : 2 + (pack (bits.take j) ++ [0]).length = 2 + (j + 7) / 8 + 1 := by
            rw [List.length_append, pack_length, hlt]
            simp
            omega
          rw [hBt, e1, ← List.append_assoc, by8_append (be 2 n ++ pack (bits.take j))]
          exact o1
        · rw [if_neg h0] at hBt
          simp [hrem, h0, e7, e89, e90, hi]
          refine ⟨fb, ?_⟩
          rw [hBt, pack_length, hlt]
          exact ob
      clear fb ob e7 b e89 e90 hi a2 F3
      rintro q σ ds g4 ⟨rfl, rfl, e89, e90, hi, e8, e9, fb, b, e7, ob⟩
      rw [Kseq_normal]
      have hw : wrapF .i64 (((2 + Bt.length : Nat) : Int) - 1) = ((2 + Bt.length - 1 : Nat) : Int) := by rw [wrap_i64 (by omega) (by omega)]; omega
      obtain ⟨W, hW⟩ : ∃ W, W = 2 + Bt.length := ⟨_, rfl⟩
      rw [← hW] at ob hw
      obtain ⟨wl, hwl⟩ : ∃ wl, wl = W - 1 := ⟨_, rfl⟩
      rw [← hwl] at hw
      have hlast : (be 2 n ++ Bt)[wl]? = some y := by
        rw [List.getElem?_append_right (by simp; omega), be_length, show wl - 2 = Bt.length - 1 from by omega]
        exact hy1
      have hset : ∀ z, (be 2 n ++ Bt).set wl z = be 2 n ++ Bt.set (Bt.length - 1) z := by
        intro z
        rw [List.set_append_right _ _ (by simp; omega), be_length, show wl - 2 = Bt.length - 1 from by omega]
      have hlen1 : 2 + (j + 1 + 7) / 8 = W := by omega
      cases x with
      | false =>
        simp [e9, e7, e8, e89, e90, hi]
        refine ⟨fb, ?_⟩
        rw [hlen1, hy6]
        simp only [Bool.toNat_false, Nat.zero_mul, Nat.add_zero]
        rw [set_same hy1]
        exact ob
      | true =>
        simp only [Bool.toNat_true, Nat.one_mul] at hy6
        have s1 := shr_u8 (P := P) t_uint8 true .i64 128 r (by omega)
        rw [pow_128 hr8, show ((128 : Nat) : Int) = 128 from rfl] at s1
        have h2r : 2 ^ (7 - r) < 256 := Nat.pow_lt_pow_right (a := 2) (m := 7 - r) (n := 8) (by omega) (by omega)
        have s2 := or_u8 (P := P) t_uint8 false y (2 ^ (7 - r)) hy2 h2r
        rw [or_add _ _ (8 - r) hy3 (Nat.pow_lt_pow_right (by omega) (by omega))] at s2
        generalize 2 ^ (7 - r) = pr at *
        obtain ⟨id2, o2, g5, z1, z2, z3, z4, z5, z6⟩ := ob.store2 (k := .i64) (i := (wl : Int)) rfl (show wl < W by omega) (c := 0) (by omega) (x := .int .u8 ((y + pr : Nat) : Int)) rfl
        obtain ⟨id3, o3, k1, k2, _⟩ := ob.sl.get1 (k := .i64) (i := (wl : Int)) rfl (show wl < W by omega) (x := .int .u8 (y : Int)) (by rw [by8_get, hlast]; rfl)
        rw [z1] at k1
        cases k1
        rw [Nat.mul_one, Nat.add_zero, by8_set, hset] at z3
        rw [Nat.add_zero] at z2
        rw [← hy6] at z3
        generalize y + pr = ypr at *
        simp [e9, e7, e8, e89, e90, hi, ob.sl.len, ob.sl.same, hw, hrem, s1, s2, z1, z2, k2, -bin_shr_u8, -bin_or_u8]
        exact ⟨fb.trans z4, by rw [hlen1]; exact z3⟩
    · rintro σ ds g3 ⟨rfl, e89, e90, fb, b, e7, ob⟩
      rw [List.take_length] at ob
      have F3 : Fr g g3 := ⟨Nat.le_trans f2.next fb.next, fun i hi => by rw [fb.get i hi, f2.get i hi]⟩
      simp [e7]
      refine ⟨fr.trans F3, ?_⟩
      rw [show (encS l).length = 2 + (bits.length + 7) / 8 from by simp [encS, hbits], encS, hl, hbits]
      exact ob.sl

end Go.Dk

namespace Go.Dk
open Go Go.Dr
set_option maxRecDepth 100000

/-- a reader's block -/
structure InO (h : AH) (id : Nat) (v : AV) (n : Nat) (b : List Nat) (at' : Nat) (bad : Bool) : Prop where
  cells : h.get id = some (.cells [v, .int .i64 (at' : Int), .bool bad] false)
  lt : id < h.next
  sl : Sl h 1 n v (by8 b)
  ne : idOf v ≠ some id
  le : at' ≤ 8 * n

theorem InO.fr {h g : AH} {id : Nat} {v : AV} {n : Nat} {b : List Nat} {at' : Nat} {bad : Bool} (u : InO h id v n b at' bad) (f : Fr h g) : InO g id v n b at' bad :=
  ⟨by rw [f.get _ u.lt, u.cells], Nat.lt_of_lt_of_le u.lt f.next, u.sl.fr f, u.ne, u.le⟩

theorem InO.put {h : AH} {id : Nat} {v : AV} {n : Nat} {b : List Nat} {at' a2 : Nat} {bad b2 : Bool} (u : InO h id v n b at' bad) (ha : a2 ≤ 8 * n) :
    InO (h.set id (.cells [v, .int .i64 (a2 : Int), .bool b2] false)) id v n b a2 b2 ∧ FrX id h (h.set id (.cells [v, .int .i64 (a2 : Int), .bool b2] false)) :=
  ⟨⟨get_set_new _ _, u.lt, Sl.setX u.sl _ u.ne, u.ne, ha⟩, ⟨Nat.le_refl _, fun i hi hn => get_set_old hn⟩⟩

theorem InO.set {h : AH} {id j : Nat} {v : AV} {n : Nat} {b : List Nat} {at' : Nat} {bad : Bool} (u : InO h id v n b at' bad) (o : AObj) (hj : id ≠ j) (hv : idOf v ≠ some j) : InO (h.set j o) id v n b at' bad :=
  ⟨by rw [get_set_old hj, u.cells], u.lt, Sl.setX u.sl _ hv, u.ne, u.le⟩

theorem InO.frB {h g : AH} {B id : Nat} {v : AV} {n : Nat} {b : List Nat} {at' : Nat} {bad : Bool} (u : InO h id v n b at' bad) (f : FrB B h g) (hid : id < B) (hv : ∀ i, idOf v = some i → i < B) : InO g id v n b at' bad := by
  refine ⟨by rw [f.get _ hid, u.cells], Nat.lt_of_lt_of_le u.lt f.next, ⟨u.sl.1, ?_⟩, u.ne, u.le⟩
  rcases u.sl.2 with e | ⟨i, off, cap, x, vs, ro, e1, e2, e3, e4, e5, e6⟩
  · exact .inl e
  · exact .inr ⟨i, off, cap, x, vs, ro, e1, Nat.lt_of_lt_of_le e2 f.next, e3, by rw [f.get i (hv i (by rw [e1]; rfl))]; exact e4, e5, e6⟩

def InK (h : AH) (id : Nat) (v : AV) (n : Nat) (b : List Nat) (at' cnt : Nat) (bad : Bool) (r : AV) (g : AH) : Prop :=
  ∃ (x a2 : Nat) (b2 : Bool), r = .int .u64 (x : Int) ∧ x < 2 ^ cnt ∧ InO g id v n b a2 b2 ∧ FrX id h g ∧
    ((takeB (bitsOf b) at' cnt = some x ∧ b2 = bad ∧ a2 = at' + cnt) ∨ (takeB (bitsOf b) at' cnt = none ∧ b2 = true ∧ x = 0))

theorem bit8 (b : List Nat) (a y : Nat) (hy : b[a / 8]? = some y) : ((bitsOf b).drop a).take 1 = lowB (y / 2 ^ (7 - a % 8)) 1 := by
  have := bitsOf_within b a 1 y hy (by omega)
  rw [show 8 - a % 8 - 1 = 7 - a % 8 from by omega] at this
  exact this

theorem ref11_take {h : AH} {id : Nat} {v : AV} {n : Nat} {b : List Nat} {at' cnt : Nat} {bad : Bool} (u : InO h id v n b at' bad) (hb : ∀ x ∈ b, x < 256) (hn : n ≤ 2 ^ 36) (hc : cnt ≤ 64) :
    Ev P SI (.fn f_ref11_in_take) [.ptr id 0, .int .i64 (cnt : Int)] h (InK h id v n b at' cnt bad) := by
  refine ev_fn k_ref11_in_take rfl rfl ?_
  have hbl : b.length = n := by have := u.sl.1; simpa using this
  have hbs := bitsOf_length8 b
  have hle0 := u.le
  simp [c_ref11_in_take]
  refine w_count (n := cnt) (by rfl) (fun j σ ds g => ds = [] ∧ σ 0 = .ptr id 0 ∧ σ 6 = .int .i64 (cnt : Int) ∧ InO g id v n b (at' + j) bad ∧ FrX id h g ∧ σ 5 = .int .u64 ((val (((bitsOf b).drop at').take j) : Nat) : Int)) (by omega) (by simp)
    ⟨rfl, by simp, by simp, u, .refl _ _, by simp⟩ (fun j σ ds g hJ => by simp [hJ.2.2.1]) ?_ ?_
  · rintro j σ ds g hj hi ⟨rfl, e0, e6, I, fx, e5⟩
    have hle := I.le
    have lb : load1 g id 0 = .ok v := load1_of I.cells
    have la : load1 g id 1 = .ok (.int .i64 ((at' + j : Nat) : Int)) := load1_of I.cells
    obtain ⟨a, ha⟩ : ∃ a, a = at' + j := ⟨_, rfl⟩
    rw [← ha] at la I hle
    obtain ⟨N, hN⟩ : ∃ N, N = 8 * n := ⟨_, rfl⟩
    have w1 : wrapF .i64 (8 * (n : Int)) = (N : Int) := by rw [wrap_i64 (by omega) (by omega)]; omega
    by_cases hge : N ≤ a
    · have st := storeN_one (v := .bool true) (off := 2) I.cells (by simp) rfl
      simp [splice_eq] at st
      have I2 := I.put (a2 := a) (b2 := true) hle
      have ht : takeB (bitsOf b) at' cnt = none := by unfold takeB; rw [if_neg (by omega)]
      simp [e0, lb, la, I.sl.len, I.sl.same, w1, hge, st]
      exact ⟨0, a, true, rfl, Nat.two_pow_pos _, I2.1, fx.trans I2.2, .inr ⟨ht, rfl, rfl⟩⟩
    obtain ⟨y, hy⟩ := at_some (l := b) (j := a / 8) (by omega)
    have hy256 : y < 256 := hb _ (List.mem_of_getElem? hy)
    have hbit := bit8 b a y hy
    have hstep : ((bitsOf b).drop at').take (j + 1) = ((bitsOf b).drop at').take j ++ lowB (y / 2 ^ (7 - a % 8)) 1 := by
      rw [List.take_add, List.drop_drop, ← ha, hbit]
    have hval : val (((bitsOf b).drop at').take (j + 1)) = val (((bitsOf b).drop at').take j) * 2 + (y / 2 ^ (7 - a % 8)) % 2 := by
      rw [hstep, val_append, lowB_length, val_lowB]
    have hvl : val (((bitsOf b).drop at').take (j + 1)) < 2 ^ 64 := by
      have h1 := val_lt (((bitsOf b).drop at').take (j + 1))
      have h2 : (((bitsOf b).drop at').take (j + 1)).length = j + 1 := by simp; omega
      rw [h2] at h1
      exact Nat.lt_of_lt_of_le h1 (Nat.pow_le_pow_right (by omega) (by omega))
    have x1 : (a : Int).tdiv 8 = ((a / 8 : Nat) : Int) := tdiv_nat _ 8
    have x1' : wrapF .i64 ((a / 8 : Nat) : Int) = ((a / 8 : Nat) : Int) := wrap_i64 (by omega) (by omega)
    have x2 : (a : Int).tmod 8 = ((a % 8 : Nat) : Int) := tmod_nat _ 8
    have x3 : wrapF .i64 (7 - ((a % 8 : Nat) : Int)) = ((7 - a % 8 : Nat) : Int) := by rw [wrap_i64 (by omega) (by omega)]; omega
    have x4 := shr_u8 (P := P) t_uint8 false .i64 y (7 - a % 8) (by omega)
    have x5 := and_u8 (P := P) t_uint8 true (y / 2 ^ (7 - a % 8)) 1 (Nat.lt_of_le_of_lt (Nat.div_le_self _ _) hy256) (by omega)
    rw [show (y / 2 ^ (7 - a % 8)) &&& 1 = (y / 2 ^ (7 - a % 8)) % 2 from by rw [show (1 : Nat) = 2 ^ 1 - 1 from rfl, and_low], show ((1 : Nat) : Int) = 1 from rfl] at x5
    have hm2 : (y / 2 ^ (7 - a % 8)) % 2 < 2 := Nat.mod_lt _ (by decide)
    obtain ⟨id3, o3, k1, k2, _⟩ := I.sl.get1 (k := .i64) (i := ((a / 8 : Nat) : Int)) rfl (show a / 8 < n by omega) (x := .int .u8 (y : Int)) (by rw [by8_get, hy]; rfl)
    generalize val (((bitsOf b).drop at').take j) = xv at *
    generalize hV : val (((bitsOf b).drop at').take (j + 1)) = V at *
    generalize (y / 2 ^ (7 - a % 8)) % 2 = bt at *
    generalize y / 2 ^ (7 - a % 8) = ys at *
    generalize 7 - a % 8 = sh at *
    generalize hr : a % 8 = r at *
    generalize hq8 : a / 8 = a8 at *
    have x6 : wrapF .u64 (bt : Int) = (bt : Int) := wrap_u64 (by omega) (by omega)
    have x7 : wrapF .u64 ((xv : Int) * 2) = ((xv * 2 : Nat) : Int) := by rw [wrap_u64 (by omega) (by omega)]; omega
    have x8 : wrapF .u64 (((xv * 2 : Nat) : Int) + (bt : Int)) = (V : Int) := by rw [wrap_u64 (by omega) (by omega)]; omega
    have x9 : wrapF .i64 ((a : Int) + 1) = ((a + 1 : Nat) : Int) := by rw [wrap_i64 (by omega) (by omega)]; omega
    have st := storeN_one (v := .int .i64 ((a + 1 : Nat) : Int)) (off := 1) I.cells (by simp) rfl
    obtain ⟨a1, ha1⟩ : ∃ a1, a1 = a + 1 := ⟨_, rfl⟩
    rw [← ha1] at st x9
    simp [splice_eq] at st
    have I2 := I.put (a2 := a1) (b2 := bad) (by omega)
    generalize xv * 2 = xv2 at *
    have hge' : ¬ (N : Int) ≤ a := by omega
    simp [e0, e6, hi, lb, la, I.sl.len, I.sl.same, w1, hge, e5, x1, x1', k1, k2, x2, x3, x4, x5, x6, x7, x8, x9, st, hV, -bin_shr_u8, -bin_and_u8]
    rw [show at' + (j + 1) = a1 from by omega]
    exact ⟨I2.1, fx.trans I2.2⟩
  · rintro σ ds g ⟨rfl, e0, e6, I, fx, e5⟩
    have hle := I.le
    have ht : takeB (bitsOf b) at' cnt = some (val (((bitsOf b).drop at').take cnt)) := by unfold takeB; rw [if_pos (by omega)]
    have hlt := takeB_lt ht
    generalize val (((bitsOf b).drop at').take cnt) = x at *
    simp [e5]
    exact ⟨x, at' + cnt, bad, rfl, hlt, I, fx, .inl ⟨ht, rfl, rfl⟩⟩

end Go.Dk

namespace Go.Dk
open Go Go.Dr
set_option maxRecDepth 100000

/-- what was read as a number -/
def IntR (bs : Bits) (at' : Nat) (bad : Bool) (x : Int) (a2 : Nat) (b2 : Bool) : Prop :=
  (bad = true → b2 = true) ∧ ∀ n0 z, (-9223372036854775808 ≤ n0 ∧ n0 < 9223372036854775808) → bad = false → at' ≤ bs.length → bs.drop at' = intB n0 ++ z → x = n0 ∧ b2 = false ∧ bs.drop a2 = z ∧ a2 ≤ bs.length

def sy (w raw : Nat) : Int := if 0 < w ∧ w < 64 ∧ 2 ^ (w - 1) ≤ raw then (raw : Int) - ((2 ^ w : Nat) : Int) else wrapF .i64 (raw : Int)

theorem sy_round (n : Int) (h : -9223372036854775808 ≤ n ∧ n < 9223372036854775808) : sy (widthN (classN n)) (u64 n % 2 ^ widthN (classN n)) = n := by
  unfold classN
  by_cases h0 : n = 0
  · subst h0; rfl
  rw [if_neg h0]
  by_cases h1 : -64 ≤ n ∧ n < 64
  · rw [if_pos h1]
    simp only [widthN, sy, wrap_i64n]
    unfold u64
    split <;> omega
  rw [if_neg h1]
  by_cases h2 : -2048 ≤ n ∧ n < 2048
  · rw [if_pos h2]
    simp only [widthN, sy, wrap_i64n]
    unfold u64
    split <;> omega
  rw [if_neg h2]
  by_cases h3 : -2147483648 ≤ n ∧ n < 2147483648
  · rw [if_pos h3]
    simp only [widthN, sy, wrap_i64n]
    unfold u64
    split <;> omega
  rw [if_neg h3]
  simp only [widthN, sy, wrap_i64n]
  unfold u64
  split <;> omega

/-- the bits of a number, met -/
theorem int_met {bs : Bits} {a0 a k : Nat} {n : Int} {z : Bits} (e : bs.drop a0 = intB n ++ z) (hp : pre 4 (bs.drop a0) = some (k, bs.drop a)) (ha : a ≤ bs.length) :
    k = classN n ∧ takeB bs a (widthN k) = some (u64 n % 2 ^ widthN k) ∧ bs.drop (a + widthN k) = z ∧ a + widthN k ≤ bs.length := by
  have hk := classN_le n
  have hp2 : pre 4 (bs.drop a0) = some (classN n, lowB (u64 n) (widthN (classN n)) ++ z) := by
    rw [e, intB, List.append_assoc _ _ z]
    exact pre_int _ hk _
  rw [hp] at hp2
  simp only [Option.some.injEq, Prod.mk.injEq] at hp2
  obtain ⟨rfl, h2⟩ := hp2
  obtain ⟨t1, t2, t3⟩ := takeB_low h2 ha
  exact ⟨rfl, t1, t2, t3⟩

theorem int_pre {bs : Bits} {a0 : Nat} {n : Int} {z : Bits} (e : bs.drop a0 = intB n ++ z) : pre 4 (bs.drop a0) ≠ none := by
  rw [e, intB, List.append_assoc _ _ z, pre_int _ (classN_le n) _]
  exact fun h => by cases h

def IntK (h : AH) (id : Nat) (v : AV) (n : Nat) (b : List Nat) (at' : Nat) (bad : Bool) (r : AV) (g : AH) : Prop :=
  ∃ (x : Int) (a2 : Nat) (b2 : Bool), r = .int .i64 x ∧ InO g id v n b a2 b2 ∧ FrX id h g ∧ IntR (bitsOf b) at' bad x a2 b2

def IntQ (h : AH) (id : Nat) (v : AV) (n : Nat) (b : List Nat) (at' : Nat) (bad : Bool) (st : AV) (g : AH) : Prop :=
  ∃ (k a : Nat) (b1 : Bool), st = .int .i64 (k : Int) ∧ k ≤ 4 ∧ InO g id v n b a b1 ∧ FrX id h g ∧
      ((b1 = bad ∧ pre 4 ((bitsOf b).drop at') = some (k, (bitsOf b).drop a)) ∨ (b1 = true ∧ pre 4 ((bitsOf b).drop at') = none))

theorem ref11_takeInt {h : AH} {id : Nat} {v : AV} {n : Nat} {b : List Nat} {at' : Nat} {bad : Bool} (u : InO h id v n b at' bad) (hb : ∀ x ∈ b, x < 256) (hn : n ≤ 2 ^ 36) :
    Ev P SI (.fn f_ref11_in_takeInt) [.ptr id 0] h (IntK h id v n b at' bad) := by
  refine ev_fn k_ref11_in_takeInt rfl rfl ?_
  have hbl : b.length = n := by have := u.sl.1; simpa using this
  have hbs := bitsOf_length8 b
  simp [c_ref11_in_takeInt]
  refine w_mono (Q := fun x σ ds g => x = .exit 0 ∧ ds = [] ∧ σ 0 = .ptr id 0 ∧ IntQ h id v n b at' bad (σ 3) g) ?_ ?_
  · refine w_loop (fun q σ ds g => ∃ k a : Nat, q + k = 4 ∧ ds = [] ∧ σ 0 = .ptr id 0 ∧ σ 3 = .int .i64 (k : Int) ∧ InO g id v n b a bad ∧ FrX id h g ∧
        pre 4 ((bitsOf b).drop at') = (pre (4 - k) ((bitsOf b).drop a)).map fun p => (p.1 + k, p.2)) 4 ⟨0, at', rfl, rfl, by simp, by simp, u, .refl _ _, by simp⟩ ?_
    rintro q σ ds g ⟨k, a, hq, rfl, e0, e3, I, fx, hp⟩
    have hle := I.le
    by_cases hk : k < 4
    case neg =>
      have hk4 : k = 4 := by omega
      subst hk4
      rw [Nat.sub_self, pre] at hp
      have e3' : σ 3 = .int .i64 4 := e3
      simp [e0, e3']
      exact ⟨4, a, bad, rfl, by omega, I, fx, .inl ⟨rfl, by simpa using hp⟩⟩
    have hk' : (k : Int) < 4 := by omega
    have hm : 4 - k = (3 - k) + 1 := by omega
    simp [e0, e3, hk']
    refine (ref11_take (cnt := 1) I hb hn (by omega)).mono ?_
    rintro r g2 ⟨x, a2, b2, rfl, hx, I2, f2, hr⟩
    have F2 := fx.trans f2
    cases hd : (bitsOf b).drop a with
    | nil =>
      rw [takeB_nil hd] at hr
      rcases hr with ⟨h, _⟩ | ⟨_, rfl, rfl⟩
      · cases h
      rw [hd, hm, pre] at hp
      simp [e0, e3]
      exact ⟨k, a2, true, rfl, by omega, I2, F2, .inr ⟨rfl, by simpa using hp⟩⟩
    | cons y d =>
      obtain ⟨t1, t2, t3⟩ := takeB_cons hd
      rw [t1] at hr
      rcases hr with ⟨h, rfl, rfl⟩ | ⟨h, _⟩
      rotate_left
      · cases h
      cases h
      cases y with
      | false =>
        rw [hd, hm, pre] at hp
        simp [e0, e3]
        exact ⟨k, a + 1, b2, rfl, by omega, I2, F2, .inl ⟨rfl, by rw [hp, t2]; simp⟩⟩
      | true =>
        rw [hd, hm, pre] at hp
        have w2 : wrapF .i64 ((k : Int) + 1) = ((k + 1 : Nat) : Int) := by rw [wrap_i64 (by omega) (by omega)]; omega
        generalize hk1 : k + 1 = k1 at *
        simp [e0, e3, w2, Kloop_normal]
        refine ⟨q - 1, by omega, k1, by omega, rfl, a + 1, I2, F2, ?_⟩
        rw [hp, t2, show 4 - k1 = 3 - k from by omega]
        cases pre (3 - k) d with
        | none => rfl
        | some p =>
          simp only [Option.map_some]
          congr 2
          omega
  rintro x σ ds g ⟨rfl, rfl, e0, k, a, b1, e3, hk4, I, fx, hc⟩
  have hwN := widthN_le k
  have gn : (g.push (.cells [.int .i64 0, .int .i64 7, .int .i64 12, .int .i64 32, .int .i64 64] false)).get g.next = some (.cells [.int .i64 0, .int .i64 7, .int .i64 12, .int .i64 32, .int .i64 64] false) := get_push_new _
  have fp := Fr.push (.refl g) (.cells [.int .i64 0, .int .i64 7, .int .i64 12, .int .i64 32, .int .i64 64] false)
  have ix := opIdxV_slice (es := 1) (id := g.next) (off := 0) (len := 5) (cap := 5) (x := true) (k := .i64) (i := (k : Int)) ⟨by omega, by omega⟩
  rw [Int.toNat_natCast, Nat.mul_one, Nat.zero_add] at ix
  have lw : load1 (g.push (.cells [.int .i64 0, .int .i64 7, .int .i64 12, .int .i64 32, .int .i64 64] false)) g.next k = .ok (.int .i64 (widthN k : Int)) := by
    rw [load1_of gn]
    rcases (show k = 0 ∨ k = 1 ∨ k = 2 ∨ k = 3 ∨ k = 4 by omega) with rfl | rfl | rfl | rfl | rfl <;> rfl
  generalize hg1 : g.push (.cells [.int .i64 0, .int .i64 7, .int .i64 12, .int .i64 32, .int .i64 64] false) = g1 at *
  have I1 := I.fr fp
  obtain ⟨w, hw⟩ : ∃ w, w = widthN k := ⟨_, rfl⟩
  rw [← hw] at lw hwN
  have hw64 : w = 0 ∨ w = 7 ∨ w = 12 ∨ w = 32 ∨ w = 64 := by
    rw [hw]
    rcases (show k = 0 ∨ k = 1 ∨ k = 2 ∨ k = 3 ∨ k = 4 by omega) with rfl | rfl | rfl | rfl | rfl <;> simp [widthN]
  simp [splice_eq, hg1, e3, ix, lw, e0]
  refine (ref11_take (cnt := w) I1 hb hn hwN).mono ?_
  rintro r g2 ⟨raw, a2, b2, rfl, hraw, I2, f2, hr⟩
  have F2 : FrX id h g2 := (fx.trans (Fr.x fp)).trans f2
  have fin : IntR (bitsOf b) at' bad (sy w raw) a2 b2 := by
    refine ⟨fun hbad => ?_, fun n0 z hrng hbad hle hd => ?_⟩
    · subst hbad
      have hb1 : b1 = true := by rcases hc with ⟨h, _⟩ | ⟨h, _⟩ <;> exact h
      rcases hr with ⟨_, h, _⟩ | ⟨_, h, _⟩
      · rw [h, hb1]
      · exact h
    · rcases hc with ⟨hb1, hp⟩ | ⟨_, hp⟩
      · obtain ⟨rfl, t1, t2, t3⟩ := int_met hd hp (by have := I.le; omega)
        rw [← hw] at t1 t2 t3
        rw [t1] at hr
        rcases hr with ⟨h, h2, h3⟩ | ⟨h, _⟩
        · have e := Option.some.inj h
          refine ⟨?_, by rw [h2, hb1, hbad], by rw [h3]; exact t2, by rw [h3]; exact t3⟩
          rw [← e, hw]
          exact sy_round n0 hrng
        · cases h
      · exact absurd hp (int_pre hd)
  have fin2 : IntK h id v n b at' bad (.int .i64 (sy w raw)) g2 := ⟨_, _, _, rfl, I2, F2, fin⟩
  rcases hw64 with rfl | rfl | rfl | rfl | rfl
  · simp
    simpa [sy] using fin2
  · have wr : wrapF .i64 (raw : Int) = (raw : Int) := wrap_i64 (by omega) (by omega)
    by_cases h64 : 64 ≤ raw
    · have h64' : (64 : Int) ≤ raw := by omega
      have wd : wrapF .i64 ((raw : Int) - 128) = (raw : Int) - 128 := wrap_i64 (by omega) (by omega)
      simp [wr, show wrapF .i64 64 = 64 from rfl, show wrapF .i64 128 = 128 from rfl, h64', wd, show wrapF .i64 6 = 6 from rfl]
      simpa [sy, h64] using fin2
    · have h64' : ¬ (64 : Int) ≤ raw := by omega
      simp [wr, show wrapF .i64 64 = 64 from rfl, h64', show wrapF .i64 6 = 6 from rfl]
      simpa [sy, h64, wr] using fin2
  · have wr : wrapF .i64 (raw : Int) = (raw : Int) := wrap_i64 (by omega) (by omega)
    by_cases h64 : 2048 ≤ raw
    · have h64' : (2048 : Int) ≤ raw := by omega
      have wd : wrapF .i64 ((raw : Int) - 4096) = (raw : Int) - 4096 := wrap_i64 (by omega) (by omega)
      simp [wr, show wrapF .i64 2048 = 2048 from rfl, show wrapF .i64 4096 = 4096 from rfl, h64', wd, show wrapF .i64 11 = 11 from rfl]
      simpa [sy, h64] using fin2
    · have h64' : ¬ (2048 : Int) ≤ raw := by omega
      simp [wr, show wrapF .i64 2048 = 2048 from rfl, h64', show wrapF .i64 11 = 11 from rfl]
      simpa [sy, h64, wr] using fin2
  · have wr : wrapF .i64 (raw : Int) = (raw : Int) := wrap_i64 (by omega) (by omega)
    by_cases h64 : 2147483648 ≤ raw
    · have h64' : (2147483648 : Int) ≤ raw := by omega
      have wd : wrapF .i64 ((raw : Int) - 4294967296) = (raw : Int) - 4294967296 := wrap_i64 (by omega) (by omega)
      simp [wr, show wrapF .i64 2147483648 = 2147483648 from rfl, show wrapF .i64 4294967296 = 4294967296 from rfl, h64', wd, show wrapF .i64 31 = 31 from rfl]
      simpa [sy, h64] using fin2
    · have h64' : ¬ (2147483648 : Int) ≤ raw := by omega
      simp [wr, show wrapF .i64 2147483648 = 2147483648 from rfl, h64', show wrapF .i64 31 = 31 from rfl]
      simpa [sy, h64, wr] using fin2
  · simp
    simpa [sy] using fin2

end Go.Dk

namespace Go.Dk
open Go Go.Dr
set_option maxRecDepth 100000

def XorK (h : AH) (id : Nat) (v : AV) (n : Nat) (b : List Nat) (at' : Nat) (bad : Bool) (r : AV) (g : AH) : Prop :=
  ∃ (x a2 : Nat) (b2 : Bool), r = .int .u64 (x : Int) ∧ x < 2 ^ 64 ∧ InO g id v n b a2 b2 ∧ FrX id h g ∧ ValR (bitsOf b) at' bad x a2 b2

theorem ref11_takeXor {h : AH} {id : Nat} {v : AV} {n : Nat} {b : List Nat} {at' : Nat} {bad : Bool} (u : InO h id v n b at' bad) (hb : ∀ x ∈ b, x < 256) (hn : n ≤ 2 ^ 36) :
    Ev P SI (.fn f_ref11_in_takeXor) [.ptr id 0] h (XorK h id v n b at' bad) := by
  refine ev_fn k_ref11_in_takeXor rfl rfl ?_
  simp [c_ref11_in_takeXor]
  refine (ref11_take (cnt := 1) u hb hn (by omega)).mono ?_
  rintro r g1 ⟨x1, a1, b1, rfl, hx1, u1, f1, hc1⟩
  have bb1 : bad = true → b1 = true := by
    rintro rfl
    rcases hc1 with ⟨_, h, _⟩ | ⟨_, h, _⟩ <;> exact h
  by_cases h10 : x1 = 0
  · subst h10
    simp
    refine ⟨0, a1, b1, rfl, by omega, u1, f1, bb1, ?_⟩
    intro x0 z hx0 hbad hal hd
    subst hbad
    by_cases h0 : x0 = 0
    · subst h0
      rw [xorB, if_pos rfl] at hd
      obtain ⟨p1, p2, p3⟩ := takeB_low hd hal
      rcases hc1 with ⟨_, rfl, rfl⟩ | ⟨hn1, _⟩
      · exact ⟨rfl, rfl, p2, p3⟩
      · rw [p1] at hn1; cases hn1
    · obtain ⟨p1, _⟩ := value_takes hx0 h0 hd hal
      rw [p1] at hc1
      rcases hc1 with ⟨h, _⟩ | ⟨h, _⟩ <;> cases h
  simp [h10]
  refine (ref11_take (cnt := 6) u1 hb hn (by omega)).mono ?_
  rintro r g2 ⟨x2, a2, b2, rfl, hx2, u2, f2, hc2⟩
  have bb2 : b1 = true → b2 = true := by
    rintro rfl
    rcases hc2 with ⟨_, h, _⟩ | ⟨_, h, _⟩ <;> exact h
  have w2 : wrapF .i64 (x2 : Int) = (x2 : Int) := wrap_i64 (by omega) (by omega)
  simp [w2]
  refine (ref11_take (cnt := 6) u2 hb hn (by omega)).mono ?_
  rintro r g3 ⟨x3, a3, b3, rfl, hx3, u3, f3, hc3⟩
  have bb3 : b2 = true → b3 = true := by
    rintro rfl
    rcases hc3 with ⟨_, h, _⟩ | ⟨_, h, _⟩ <;> exact h
  have w3 : wrapF .i64 (x3 : Int) = (x3 : Int) := wrap_i64 (by omega) (by omega)
  obtain ⟨w, hw⟩ : ∃ w, w = x3 + 1 := ⟨_, rfl⟩
  have w4 : wrapF .i64 ((x3 : Int) + 1) = (w : Int) := by rw [wrap_i64 (by omega) (by omega)]; omega
  obtain ⟨hs, hhs⟩ : ∃ hs, hs = x2 + w := ⟨_, rfl⟩
  have w5 : wrapF .i64 ((x2 : Int) + (w : Int)) = (hs : Int) := by rw [wrap_i64 (by omega) (by omega)]; omega
  simp [w3, w4]
  refine (ref11_take (cnt := w) u3 hb hn (by omega)).mono ?_
  rintro r g4 ⟨x5, a5, b5, rfl, hx5, u5, f5, hc5⟩
  have bb5 : b3 = true → b5 = true := by
    rintro rfl
    rcases hc5 with ⟨_, h, _⟩ | ⟨_, h, _⟩ <;> exact h
  have F5 := ((f1.trans f2).trans f3).trans f5
  have hno : ∀ x0 z, x0 < 2 ^ 64 → at' ≤ (bitsOf b).length → (bitsOf b).drop at' = xorB x0 ++ z → x0 ≠ 0 := by
    rintro x0 z hx0 hal hd rfl
    rw [xorB, if_pos rfl] at hd
    obtain ⟨p1, _⟩ := takeB_low hd hal
    rw [p1] at hc1
    rcases hc1 with ⟨h, _⟩ | ⟨h, _⟩ <;> cases h
    exact h10 rfl
  have hall : ∀ x0 z, x0 < 2 ^ 64 → bad = false → at' ≤ (bitsOf b).length → (bitsOf b).drop at' = xorB x0 ++ z →
      b5 = false ∧ x2 = 64 - Lib.bitLen x0 ∧ w = widX x0 ∧ ¬ 64 < hs ∧ x5 = x0 / 2 ^ Lib.ctz 64 x0 ∧ 64 - x2 - w = Lib.ctz 64 x0 ∧ (bitsOf b).drop a5 = z ∧ a5 ≤ (bitsOf b).length := by
    intro x0 z hx0 hbad hal hd
    subst hbad
    obtain ⟨p1, p2, p3, p4, p5, p6, p7, p8, p9⟩ := value_takes hx0 (hno x0 z hx0 hal hd) hd hal
    rw [p1] at hc1
    rcases hc1 with ⟨_, rfl, rfl⟩ | ⟨h, _⟩
    rotate_left
    · cases h
    rw [p2] at hc2
    rcases hc2 with ⟨h2, rfl, rfl⟩ | ⟨h, _⟩
    rotate_left
    · cases h
    rw [p3] at hc3
    rcases hc3 with ⟨h3, rfl, rfl⟩ | ⟨h, _⟩
    rotate_left
    · cases h
    have e2 := Option.some.inj h2
    have e3 := Option.some.inj h3
    have e4 : w = widX x0 := by omega
    rw [e4, p4] at hc5
    rcases hc5 with ⟨h5, rfl, rfl⟩ | ⟨h, _⟩
    rotate_left
    · cases h
    have e5 := Option.some.inj h5
    refine ⟨rfl, e2.symm, e4, by omega, e5.symm, ?_, p5, p6⟩
    rw [e4, ← e2]
    exact p9
  by_cases hle : 64 < hs
  · have hle' : (64 : Int) < hs := by omega
    have st := storeN_one (v := .bool true) (off := 2) u5.cells (by simp) rfl
    simp [splice_eq] at st
    have I2 := u5.put (a2 := a5) (b2 := true) u5.le
    simp [w5, hle', st]
    exact ⟨0, a5, true, rfl, by omega, I2.1, F5.trans I2.2, fun _ => rfl, fun x0 z hx0 hbad hal hd => absurd hle (hall x0 z hx0 hbad hal hd).2.2.2.1⟩
  · have hle' : ¬ (64 : Int) < hs := by omega
    have w6 : wrapF .i64 (64 - (x2 : Int)) = ((64 - x2 : Nat) : Int) := by rw [wrap_i64 (by omega) (by omega)]; omega
    have w7 : wrapF .i64 (((64 - x2 : Nat) : Int) - (w : Int)) = ((64 - x2 - w : Nat) : Int) := by rw [wrap_i64 (by omega) (by omega)]; omega
    have s5 := shl_u64 (P := P) t_uint64 false .i64 x5 (64 - x2 - w) (by omega)
    have hres : x5 * 2 ^ (64 - x2 - w) % 2 ^ 64 < 2 ^ 64 := Nat.mod_lt _ (by omega)
    have fin : ValR (bitsOf b) at' bad (x5 * 2 ^ (64 - x2 - w) % 2 ^ 64) a5 b5 := by
      refine ⟨fun h => bb5 (bb3 (bb2 (bb1 h))), ?_⟩
      intro x0 z hx0 hbad hal hd
      obtain ⟨q1, q2, q3, q4, q5, q6, q7, q8⟩ := hall x0 z hx0 hbad hal hd
      have h0 := hno x0 z hx0 hal hd
      refine ⟨?_, q1, q7, q8⟩
      rw [q6, q5, ctz_mul hx0 h0, Nat.mod_eq_of_lt hx0]
    generalize x5 * 2 ^ (64 - x2 - w) % 2 ^ 64 = res at *
    generalize 64 - x2 - w = sh at *
    generalize 64 - x2 = sh2 at *
    simp [w5, hle', w6, w7, s5, -bin_shl_u64]
    exact ⟨res, a5, b5, rfl, hres, u5, F5, fin⟩

/-- a sample behind others -/
theorem dec_next2 {bs : Bits} {cnt j : Nat} {r : List Smp} {at' : Nat} {step : Int} (hj : j + 1 < cnt) (hJ : ∀ l0 z, DecK0 l0 z bs cnt → DecJ bs l0 z (j + 1) r at' step) {t : Int} {w : Nat} (hr : r[j]? = some (t, w))
    {n : Int} {a1 a2 x : Nat} {b1 b2 : Bool} (h1 : IntR bs at' false n a1 b1) (h2 : ValR bs a1 b1 x a2 b2) :
    ∀ l0 z, DecK0 l0 z bs cnt → DecN bs l0 z (j + 1) (wrapF .i64 (t + wrapF .i64 (step + n))) (w ^^^ x) a2 b2 (wrapF .i64 (step + n)) := by
  intro l0 z hk
  obtain ⟨hrt, hle, hc⟩ := hJ l0 z hk
  obtain ⟨hR, hlen, _⟩ := hk
  rcases hc with ⟨h, _⟩ | ⟨_, t0, w0, hp, hd⟩
  · omega
  rw [Nat.add_sub_cancel] at hp
  have : l0[j]? = some (t, w) := by
    rw [hrt, List.getElem?_take_of_lt (by omega)] at hr
    exact hr
  rw [hp] at this
  cases this
  obtain ⟨⟨t', w'⟩, hx⟩ := at_some (l := l0) (j := j + 1) (by omega)
  obtain ⟨ht', hw'⟩ := hR _ (List.mem_of_getElem? hx)
  obtain ⟨ht0, hw0⟩ := hR _ (List.mem_of_getElem? hp)
  simp only at ht' hw' ht0 hw0
  rw [drop_at hx, tailB, List.append_assoc, List.append_assoc] at hd
  have hrg : ∀ y, -9223372036854775808 ≤ wrapF .i64 y ∧ wrapF .i64 y < 9223372036854775808 := fun y => by rw [wrap_i64n]; omega
  obtain ⟨e1, e0, e2, e3⟩ := h1.2 _ _ (hrg _) rfl hle hd
  subst e1 e0
  obtain ⟨f1, f2, f3, f4⟩ := h2.2 _ _ (Nat.xor_lt_two_pow hw' hw0) rfl e3 e2
  subst f1
  have s1 : wrapF .i64 (step + wrapF .i64 (wrapF .i64 (t' - t) - step)) = wrapF .i64 (t' - t) := by
    simp only [wrap_i64n]
    omega
  have s2 : wrapF .i64 (t + wrapF .i64 (t' - t)) = t' := by
    simp only [wrap_i64n]
    omega
  have s3 : w ^^^ (w' ^^^ w) = w' := by rw [Nat.xor_comm w', ← Nat.xor_assoc, Nat.xor_self, Nat.zero_xor]
  rw [s1, s2, s3]
  exact ⟨f2, hx, f4, f3⟩

end Go.Dk

namespace Go.Dk
open Go Go.Dr
set_option maxRecDepth 100000

/-- what stands as samples are read: all but whether it is over -/
structure DecI (h g : AH) (v' : AV) (n' : Nat) (b' : List Nat) (cnt j : Nat) (acc : AV) (r : List Smp) (at' : Nat) (bad : Bool) (step : Int) : Prop where
  fr : Fr h g
  un : UnO g h.next v' n' b' at' bad
  own : Own (h.next + 1) g 2 r.length acc (r.flatMap smC)
  len : r.length = j
  rng : SmpR r
  far : at' ≤ 8 * n' + 300
  rel : ∀ l0 z, DecK0 l0 z (bitsOf b') cnt → DecJ (bitsOf b') l0 z j r at' step

/-- at the end of the loop -/
def DecE (h : AH) (v' : AV) (n' : Nat) (b' : List Nat) (cnt : Nat) (acc : AV) (g : AH) : Prop :=
  ∃ r at' bad step, SmpR r ∧ Fr h g ∧ UnO g h.next v' n' b' at' bad ∧ Own (h.next + 1) g 2 r.length acc (r.flatMap smC) ∧ r.length ≤ cnt ∧
    (bad = true → ∀ l0 z, ¬ DecK0 l0 z (bitsOf b') cnt) ∧ (bad = false → ∀ l0 z, DecK0 l0 z (bitsOf b') cnt → DecJ (bitsOf b') l0 z cnt r at' step)

def DecL (h : AH) (v' : AV) (n' : Nat) (b' : List Nat) (cnt j : Nat) (acc st : AV) (g : AH) : Prop :=
  ∃ r at' step, st = .int .i64 step ∧ DecI h g v' n' b' cnt j acc r at' false step

/-- a sample lies in its block -/
def DecM (h g : AH) (v' : AV) (n' : Nat) (b' : List Nat) (cnt j : Nat) (st : AV) (g' : AH) : Prop :=
  FrX h.next g g' ∧ ∃ T V a2 b2 step, st = .int .i64 step ∧ (-9223372036854775808 ≤ T ∧ T < 9223372036854775808) ∧ V < 2 ^ 64 ∧ g'.get g.next = some (.cells [.int .i64 T, .int .u64 ((V : Nat) : Int)] false) ∧ g.next < g'.next ∧
    UnO g' h.next v' n' b' a2 b2 ∧ (b2 = false → a2 ≤ 8 * n' + 300) ∧ ∀ l0 z, DecK0 l0 z (bitsOf b') cnt → DecN (bitsOf b') l0 z j T V a2 b2 step

theorem wrap_rng (y : Int) : -9223372036854775808 ≤ wrapF .i64 y ∧ wrapF .i64 y < 9223372036854775808 := by rw [wrap_i64n]; omega

theorem UnO.set {h : AH} {id j : Nat} {v : AV} {n : Nat} {b : List Nat} {at' : Nat} {bad : Bool} (u : UnO h id v n b at' bad) (o : AObj) (hj : id ≠ j) (hv : idOf v ≠ some j) : UnO (h.set j o) id v n b at' bad :=
  ⟨by rw [get_set_old hj, u.cells], u.lt, Sl.setX u.sl _ hv, u.ne⟩

theorem SmpR.snoc {r : List Smp} (h : SmpR r) {T : Int} {V : Nat} (hT : -9223372036854775808 ≤ T ∧ T < 9223372036854775808) (hV : V < 2 ^ 64) : SmpR (r ++ [(T, V)]) := by
  intro x hx
  rcases List.mem_append.1 hx with h1 | h1
  · exact h x h1
  · simp at h1; subst h1; exact ⟨hT, hV⟩

theorem codec_Decode {h : AH} {n : Nat} {v : AV} {b : List Nat} (s : Sl h 1 n v (by8 b)) (hb : ∀ x ∈ b, x < 256) (hn : n ≤ 2 ^ 30) (ht : TabIn h) :
    Ev P SI (.fn f_codec_Decode) [v] h (DecS h b) := by
  refine ev_fn k_codec_Decode rfl rfl ?_
  have hbl : b.length = n := by have := s.1; simpa using this
  by_cases hlt : n < 2
  · have hlt' : (n : Int) < 2 := by omega
    simp [c_codec_Decode, s.len, hlt', DecS]
    refine ⟨.refl _, ?_⟩
    intro l0 h0
    obtain ⟨_, _, h2, _⟩ := h0.k
    omega
  have hlt' : ¬ (n : Int) < 2 := by omega
  obtain ⟨u, eu, su⟩ := s.slice (lo := none) (hi := some (.int .i64 ((2 : Nat) : Int))) (a := 0) (b := 2) (.inl ⟨rfl, rfl⟩) (.inr ⟨.i64, rfl⟩) (by omega) (by omega)
  obtain ⟨v', ev', sv⟩ := s.slice (lo := some (.int .i64 ((2 : Nat) : Int))) (hi := none) (a := 2) (b := n) (.inr ⟨.i64, rfl⟩) (.inl ⟨rfl, rfl⟩) (by omega) (Nat.le_refl _)
  rw [Nat.mul_one, Nat.mul_one, by8_drop, by8_take, List.drop_zero, Nat.sub_zero] at su
  rw [Nat.mul_one, Nat.mul_one, by8_drop, by8_take, List.take_of_length_le (by simp; omega)] at sv
  rw [show ((2 : Nat) : Int) = 2 from rfl] at eu ev'
  have gt := crc_Get su (fun x hx => hb x (List.mem_of_mem_take hx)) (by omega) (by omega)
  have hcl := beV_lt (b.take 2) (fun x hx => hb x (List.mem_of_mem_take hx))
  rw [List.length_take, Nat.min_eq_left (by omega)] at hcl
  have hb' : ∀ x ∈ b.drop 2, x < 256 := fun x hx => hb x (List.mem_of_mem_drop hx)
  have hk := @IsS.k b
  obtain ⟨cnt, hcnt⟩ : ∃ cnt, cnt = beV (b.take 2) := ⟨_, rfl⟩
  rw [← hcnt] at hcl hk gt
  obtain ⟨n', hn'⟩ : ∃ n', n' = n - 2 := ⟨_, rfl⟩
  rw [← hn'] at sv
  obtain ⟨b', hbd⟩ : ∃ b', b' = b.drop 2 := ⟨_, rfl⟩
  rw [← hbd] at sv hb' hk
  obtain ⟨N, hN⟩ : ∃ N, N = 8 * n' := ⟨_, rfl⟩
  have w1 : wrapF .i64 ((n : Int) - 2) = (n' : Int) := by rw [wrap_i64 (by omega) (by omega)]; omega
  have w2 : wrapF .i64 (8 * (n' : Int)) = (N : Int) := by rw [wrap_i64 (by omega) (by omega)]; omega
  have w3 : wrapF .i64 (cnt : Int) = (cnt : Int) := wrap_i64 (by omega) (by omega)
  have f0 := Fr.push (.refl h) (.cells [v', .int .i64 (N : Int), .int .i64 0, .bool false] false)
  have u0 : UnO (h.push (.cells [v', .int .i64 (N : Int), .int .i64 0, .bool false] false)) h.next v' n' b' 0 false :=
    ⟨by rw [← hN]; exact get_push_new _, Nat.lt_succ_self _, sv.fr f0, fun e => by have := Sl.idLt sv e; omega⟩
  have hvc := sv.oneCell
  have hvlt : ∀ i, idOf v' = some i → i < h.next + 1 := fun i e => by have := Sl.idLt sv e; omega
  have g0n : (h.push (.cells [v', .int .i64 (N : Int), .int .i64 0, .bool false] false)).next = h.next + 1 := rfl
  generalize hg0 : h.push (.cells [v', .int .i64 (N : Int), .int .i64 0, .bool false] false) = g0 at *
  have i0 : DecI h g0 v' n' b' cnt 0 .nils [] 0 false 0 := ⟨f0, u0, Own.nil _ _, rfl, fun x hx => by simp at hx, by omega, fun l0 z hk => ⟨by simp, by omega, .inl ⟨rfl, rfl, by simpa using hk.2.2⟩⟩⟩
  simp [c_codec_Decode, s.len, hlt', eu, gt, ev', w1, w2, w3, hvc.1, splice_eq, hg0]
  refine w_mono (Q := fun x σ ds g => x = .exit 0 ∧ ds = [] ∧ σ 0 = v ∧ σ 6 = .ptr h.next 0 ∧ DecE h v' n' b' cnt (σ 7) g) ?_ ?_
  · refine w_count (n := cnt) (by rfl) (fun j σ ds g => ds = [] ∧ σ 0 = v ∧ σ 6 = .ptr h.next 0 ∧ σ 32 = .int .i64 (cnt : Int) ∧ DecL h v' n' b' cnt j (σ 7) (σ 8) g) (by omega) (by simp)
      ⟨rfl, by simp, by simp, by simp, [], 0, 0, by simp, by simpa using i0⟩ (fun j σ ds g hJ => by simp [hJ.2.2.2.1]) ?_ ?_
    · rintro j σ ds g hj hi ⟨rfl, e0, e6, e32, r, at', step, e8, I⟩
      have gg : (g.push (.cells [.int .i64 0, .int .u64 0] false)).get g.next = some (.cells [.int .i64 0, .int .u64 0] false) := get_push_new _
      have gn : (g.push (.cells [.int .i64 0, .int .u64 0] false)).next = g.next + 1 := rfl
      have fp := Fr.push (.refl g) (.cells [.int .i64 0, .int .u64 0] false)
      generalize hg1 : g.push (.cells [.int .i64 0, .int .u64 0] false) = g1 at *
      have hlt1 := I.un.lt
      have far := I.far
      have un1 := I.un.fr fp
      have ow1 := I.own.fr fp
      have hbl' : b'.length = n' := by have := I.un.sl.1; simpa using this
      have hbs := bitsOf_length8 b'
      generalize h7 : σ 7 = acc at *
      simp [hi, hg1]
      refine w_mono (c := .cond (.c (.bool (decide (j = 0)))) _ _) (Q := fun x σ ds g' => x = .normal ∧ ds = [] ∧ σ 0 = v ∧ σ 6 = .ptr h.next 0 ∧ σ 7 = acc ∧ σ 10 = .ptr g.next 0 ∧ σ 32 = .int .i64 (cnt : Int) ∧ σ 33 = .int .i64 (j : Int) ∧ DecM h g v' n' b' cnt j (σ 8) g') ?_ ?_
      · by_cases hj0 : j = 0
        · subst hj0
          simp [e6]
          refine (unpack_take (cnt := 64) un1 hb' (by omega) (by omega) (by omega)).mono ?_
          rintro rr g2 ⟨x1, b1, rfl, u2, f2, hx1, hc1⟩
          simp [e6]
          refine (unpack_take (cnt := 64) u2 hb' (by omega) (by omega) (by omega)).mono ?_
          rintro rr g3 ⟨x2, b2, rfl, u3, f3, hx2, hc2⟩
          have F3 := f2.trans f3
          have gg3 := F3.get g.next (by omega) (by omega)
          rw [gg] at gg3
          have st := store_pair gg3 (show allScalar [.int .i64 (wrapF .i64 (x1 : Int)), .int .u64 (x2 : Int)] = true by rfl)
          have hI0 : step = 0 ∨ True := .inr trivial
          have hN := dec_first (by omega) I.rel hc1 hc2
          simp [splice_eq, st, e0, e6, h7, e32, hi]
          refine ⟨⟨Nat.le_trans fp.next F3.next, fun i hi hn => by rw [get_set_old (by omega), F3.get i (by omega) hn, fp.get i hi]⟩, wrapF .i64 (x1 : Int), x2, at' + 64 + 64, b2, step, e8, wrap_rng _, hx2, get_set_new _ _, ?_, ?_, ?_, ?_⟩
          · show g.next < g3.next
            have := F3.next
            omega
          · exact u3.set _ (by omega) (fun e => by have := hvlt _ e; omega)
          · rintro rfl
            rcases hc2 with ⟨h, _⟩ | ⟨_, h, _⟩
            · unfold takeB at h
              split at h
              · omega
              · cases h
            · cases h
          · intro l0 z hk
            have h1 := hN l0 z hk
            obtain ⟨_, _, hc⟩ := I.rel l0 z hk
            rcases hc with ⟨_, rfl, _⟩ | ⟨h, _⟩
            · exact h1
            · omega
        · obtain ⟨i, rfl⟩ : ∃ i, j = i + 1 := ⟨j - 1, by omega⟩
          obtain ⟨⟨t, w⟩, hx⟩ := at_some (l := r) (j := i) (by have := I.len; omega)
          obtain ⟨_, hw⟩ := I.rng _ (List.mem_of_getElem? hx)
          simp only at hw
          simp [e6, hj0]
          refine (unpack_number un1 hb' (by omega) (by omega)).mono ?_
          rintro rr g2 ⟨nn, a1, b1, rfl, u2, f2, ha1, hc1⟩
          have own2 := Own.frX ow1 f2 (Nat.lt_succ_self _)
          obtain ⟨id2, o2, p1, _, p2, p3, _⟩ := smp_t own2.sl hx
          simp only at p2 p3
          have wj : wrapF .i64 (((i + 1 : Nat) : Int) - 1) = (i : Int) := by rw [wrap_i64 (by omega) (by omega)]; omega
          obtain ⟨st2, hst2⟩ : ∃ st2, st2 = wrapF .i64 (step + nn) := ⟨_, rfl⟩
          have wj2 : wrapF .i64 (i : Int) = (i : Int) := wrap_i64 (by omega) (by omega)
          generalize hjj : ((i + 1 : Nat) : Int) = j1 at *
          simp [e6, e8, h7, hi, wj, wj2, p1, p2, p3, ← hst2]
          refine (unpack_value u2 hb' (by omega) (by omega)).mono ?_
          rintro rr g3 ⟨x, a2, b2, rfl, hx64, u3, f3, ha2, hV⟩
          have F3 := f2.trans f3
          have gg3 := F3.get g.next (by omega) (by omega)
          rw [gg] at gg3
          have own3 := Own.frX own2 f3 (Nat.lt_succ_self _)
          obtain ⟨id3, o3, q1, _, q2, q3, _⟩ := smp_t own3.sl hx
          rw [p1] at q1
          cases q1
          simp only at q2 q3
          have xx := xor_u64 (P := P) t_uint64 false w x hw hx64
          have hwx : w ^^^ x < 2 ^ 64 := Nat.xor_lt_two_pow hw hx64
          have hN := dec_next hj I.rel hx hc1 hV
          rw [← hst2] at hN
          generalize w ^^^ x = wx at *
          have st := store_pair gg3 (show allScalar [.int .i64 (wrapF .i64 (t + st2)), .int .u64 (wx : Int)] = true by rfl)
          simp [splice_eq, st, e0, e6, h7, e32, hi, xx, q2, q3, -bin_xor_u64]
          refine ⟨by omega, ⟨Nat.le_trans fp.next F3.next, fun i hi hn => by rw [get_set_old (by omega), F3.get i (by omega) hn, fp.get i hi]⟩, wrapF .i64 (t + st2), wx, a2, b2, st2, rfl, wrap_rng _, hwx, get_set_new _ _, ?_, ?_, ?_, hN⟩
          · show g.next < g3.next
            have := F3.next
            omega
          · exact u3.set _ (by omega) (fun e => by have := hvlt _ e; omega)
          · intro _
            omega
      · clear h7 e0 e6 e32 hi e8
        rintro x σ ds g' ⟨rfl, rfl, e0, e6, e7, e10, e32, hi, fx, T, V, a2, b2, st2, e8, hT, hV, gs, hlts, u2, hfar, hN⟩
        have F' : Fr h g' := FrX.fr I.fr fx (Nat.le_refl _)
        have own' := Own.frX I.own fx (Nat.lt_succ_self _)
        rw [Kseq_normal]
        cases b2 with
        | true =>
          simp [e6, u2.ld, e0, e7]
          refine ⟨r, a2, true, st2, I.rng, F', u2, own', by rw [I.len]; omega, fun _ l0 z hk => ?_, fun h => (by cases h)⟩
          obtain ⟨h, _⟩ := hN l0 z hk
          cases h
        | false =>
          have hle : h.next + 1 ≤ g'.next := by have := u2.lt; omega
          have hrl : r.length ≤ 65535 := by rw [I.len]; omega
          obtain ⟨acc', g2, ap, o2, f2, p2, _⟩ := own'.snoc2 (x := [.int .i64 T, .int .u64 ((V : Nat) : Int)]) (bytes := 16) hle rfl rfl (by omega) (by omega)
          simp [e6, u2.ld, e7, e10, loadN_pair gs, splice_eq, ap, e0, e32, hi]
          refine ⟨r ++ [(T, V)], a2, st2, e8, ⟨?_, ?_, ?_, ?_, ?_, ?_, ?_⟩⟩
          · exact ⟨Nat.le_trans F'.next f2.next, fun i hi => by rw [f2.get i (by omega), F'.get i hi]⟩
          · exact u2.frB f2 (Nat.lt_succ_self _) hvlt
          · rw [List.length_append, List.flatMap_append]
            exact o2
          · rw [List.length_append, I.len]; rfl
          · exact I.rng.snoc hT hV
          · exact hfar rfl
          · exact dec_step I.rel hN
    · rintro σ ds g ⟨rfl, e0, e6, e32, r, at', step, e8, I⟩
      simp [e0, e6]
      exact ⟨r, at', false, step, I.rng, I.fr, I.un, I.own, by rw [I.len]; omega, fun h => (by cases h), fun _ => I.rel⟩
  · rintro x σ ds g ⟨rfl, rfl, e0, e6, r, at', bad, step, hR, F, un, own, hrl, hbad, hgood⟩
    generalize h7 : σ 7 = acc at *
    have hv : ∀ x ∈ r, x.2 < 2 ^ 64 := fun x hx => (hR x hx).2
    simp [e0, e6, h7]
    refine (codec_Encode own.sl (by omega) hv (ht.fr F)).mono ?_
    rintro rr g2 ⟨f2, hrr⟩
    have un2 := un.fr f2
    have s2 := (s.fr F).fr f2
    have F2 := F.trans f2
    have fail : (∀ l0, ¬ IsS b l0) → DecS h b (.tuple [.nils, .int .i64 5]) g2 := fun hno => ⟨F2, .inr ⟨hno, rfl⟩⟩
    have uniq : ∀ l0, IsS b l0 → bad = false ∧ r = l0 := by
      intro l0 h0
      obtain ⟨z, hz, _⟩ := hk h0
      cases bad with
      | true => exact absurd hz (hbad rfl l0 z)
      | false =>
        obtain ⟨h1, _⟩ := hgood rfl l0 z hz
        refine ⟨rfl, ?_⟩
        rw [h1, ← hz.2.1, List.take_length]
    by_cases hc : canS r = true
    · rw [if_pos hc] at hrr
      obtain ⟨w, rfl, sw⟩ := hrr
      cases bad with
      | true =>
        simp [e6, un2.ld]
        exact fail fun l0 h0 => by have := (uniq l0 h0).1; cases this
      | false =>
        have henc : ∀ x ∈ encS r, x < 256 := by
          intro x hx
          rw [encS] at hx
          rcases List.mem_append.1 hx with h | h
          · exact be_lt _ _ _ h
          · exact pack_lt _ _ h
        have be := bytes_Equal sw s2 henc hb
        by_cases heq : encS r = b
        · simp [e0, e6, h7, un2.ld, be, heq]
          exact ⟨F2, .inl ⟨r, acc, ⟨hR, hc, heq⟩, fun l0 h0 => (uniq l0 h0).2.symm, rfl, own.sl.fr f2⟩⟩
        · simp [e0, e6, un2.ld, be, heq]
          refine fail fun l0 h0 => ?_
          have := (uniq l0 h0).2
          rw [this] at heq
          exact heq h0.2.2
    · rw [if_neg hc] at hrr
      subst hrr
      have hno : ∀ l0, ¬ IsS b l0 := fun l0 h0 => by
        have := (uniq l0 h0).2
        rw [this] at hc
        exact hc h0.2.1
      cases bad <;> simp [e6, un2.ld] <;> exact fail hno

end Go.Dk

namespace Go.Dk
open Go Go.Dr
set_option maxRecDepth 100000

/-- the step is the last two samples' -/
def StepOk (r : List Smp) (st : Int) : Prop := (r.length ≤ 1 → st = 0) ∧ ∀ (j : Nat) (a b : Smp), r.length = j + 2 → r[j + 1]? = some a → r[j]? = some b → st = wrapF .i64 (a.1 - b.1)

structure RDecI (h g : AH) (v' : AV) (n' : Nat) (b' : List Nat) (cnt j : Nat) (acc : AV) (r : List Smp) (at' : Nat) (step : Int) : Prop where
  fr : Fr h g
  un : InO g h.next v' n' b' at' false
  own : Own (h.next + 1) g 2 r.length acc (r.flatMap smC)
  len : r.length = j
  rng : SmpR r
  rel : ∀ l0 z, DecK0 l0 z (bitsOf b') cnt → DecJ (bitsOf b') l0 z j r at' step
  stp : StepOk r step

def RDecL (h : AH) (v' : AV) (n' : Nat) (b' : List Nat) (cnt j : Nat) (acc : AV) (g : AH) : Prop :=
  ∃ r at' step, RDecI h g v' n' b' cnt j acc r at' step

def RDecE (h : AH) (b' : List Nat) (cnt : Nat) (acc : AV) (g : AH) : Prop :=
  ∃ r at' step, SmpR r ∧ Fr h g ∧ Own (h.next + 1) g 2 r.length acc (r.flatMap smC) ∧ r.length ≤ cnt ∧ (∀ l0 z, DecK0 l0 z (bitsOf b') cnt → DecJ (bitsOf b') l0 z cnt r at' step)

def RDecM (h g : AH) (v' : AV) (n' : Nat) (b' : List Nat) (cnt j : Nat) (r : List Smp) (g' : AH) : Prop :=
  FrX h.next g g' ∧ ∃ T V a2 b2 step, (-9223372036854775808 ≤ T ∧ T < 9223372036854775808) ∧ V < 2 ^ 64 ∧ g'.get g.next = some (.cells [.int .i64 T, .int .u64 ((V : Nat) : Int)] false) ∧ g.next < g'.next ∧
    InO g' h.next v' n' b' a2 b2 ∧ (∀ l0 z, DecK0 l0 z (bitsOf b') cnt → DecN (bitsOf b') l0 z j T V a2 b2 step) ∧ StepOk (r ++ [(T, V)]) step

theorem StepOk.one {T : Int} {V : Nat} {st : Int} (h : st = 0) : StepOk ([] ++ [(T, V)]) st := ⟨fun _ => h, fun j a b hl => by simp at hl⟩

theorem StepOk.snoc {r : List Smp} {j : Nat} {t n step : Int} {w V : Nat} (hl : r.length = j + 1) (hr : r[j]? = some (t, w)) : StepOk (r ++ [(wrapF .i64 (t + wrapF .i64 (step + n)), V)]) (wrapF .i64 (step + n)) := by
  refine ⟨fun h => by rw [List.length_append, List.length_singleton] at h; omega, fun i a b hli ha hb => ?_⟩
  rw [List.length_append, List.length_singleton] at hli
  have hi : i = j := by omega
  subst hi
  rw [List.getElem?_append_right (by omega), show i + 1 - r.length = 0 from by omega] at ha
  rw [List.getElem?_append_left (by omega), hr] at hb
  cases ha
  cases hb
  simp only [wrap_i64n]
  omega

theorem wrap_assoc (t s n : Int) : wrapF .i64 (wrapF .i64 (t + s) + n) = wrapF .i64 (t + wrapF .i64 (s + n)) := by
  simp only [wrap_i64n]
  omega

theorem wrap_first (t n : Int) : wrapF .i64 (t + n) = wrapF .i64 (t + wrapF .i64 (0 + n)) := by
  simp only [wrap_i64n]
  omega

/-- a cell of the sample's block is laid -/
theorem cell_set {g : AH} {id : Nat} {a b : AV} (hg : g.get id = some (.cells [a, b] false)) {x : AV} (hx : x.scalar = true) :
    storeN g id 0 [x] = .ok (g.set id (.cells [x, b] false)) ∧ storeN g id 1 [x] = .ok (g.set id (.cells [a, x] false)) := by
  refine ⟨?_, ?_⟩
  · rw [storeN_one hg (by simp) hx]; rfl
  · rw [storeN_one hg (by simp) hx]; rfl

theorem ref11_Decode {h : AH} {n : Nat} {v : AV} {b : List Nat} (s : Sl h 1 n v (by8 b)) (hb : ∀ x ∈ b, x < 256) (hn : n ≤ 2 ^ 30) :
    Ev P SI (.fn f_ref11_Decode) [v] h (DecS h b) := by
  refine ev_fn k_ref11_Decode rfl rfl ?_
  have hbl : b.length = n := by have := s.1; simpa using this
  by_cases hlt : n < 2
  · have hlt' : (n : Int) < 2 := by omega
    simp [c_ref11_Decode, s.len, hlt', DecS]
    refine ⟨.refl _, ?_⟩
    intro l0 h0
    obtain ⟨_, _, h2, _⟩ := h0.k
    omega
  have hlt' : ¬ (n : Int) < 2 := by omega
  obtain ⟨u, eu, su⟩ := s.slice (lo := none) (hi := some (.int .i64 ((2 : Nat) : Int))) (a := 0) (b := 2) (.inl ⟨rfl, rfl⟩) (.inr ⟨.i64, rfl⟩) (by omega) (by omega)
  obtain ⟨v', ev', sv⟩ := s.slice (lo := some (.int .i64 ((2 : Nat) : Int))) (hi := none) (a := 2) (b := n) (.inr ⟨.i64, rfl⟩) (.inl ⟨rfl, rfl⟩) (by omega) (Nat.le_refl _)
  rw [Nat.mul_one, Nat.mul_one, by8_drop, by8_take, List.drop_zero, Nat.sub_zero] at su
  rw [Nat.mul_one, Nat.mul_one, by8_drop, by8_take, List.take_of_length_le (by simp; omega)] at sv
  rw [show ((2 : Nat) : Int) = 2 from rfl] at eu ev'
  have gt := ref01_Get su (fun x hx => hb x (List.mem_of_mem_take hx)) (by omega) (by omega)
  have hcl := beV_lt (b.take 2) (fun x hx => hb x (List.mem_of_mem_take hx))
  rw [List.length_take, Nat.min_eq_left (by omega)] at hcl
  have hb' : ∀ x ∈ b.drop 2, x < 256 := fun x hx => hb x (List.mem_of_mem_drop hx)
  have hk := @IsS.k b
  obtain ⟨cnt, hcnt⟩ : ∃ cnt, cnt = beV (b.take 2) := ⟨_, rfl⟩
  rw [← hcnt] at hcl hk gt
  obtain ⟨n', hn'⟩ : ∃ n', n' = n - 2 := ⟨_, rfl⟩
  rw [← hn'] at sv
  obtain ⟨b', hbd⟩ : ∃ b', b' = b.drop 2 := ⟨_, rfl⟩
  rw [← hbd] at sv hb' hk
  have w3 : wrapF .i64 (cnt : Int) = (cnt : Int) := wrap_i64 (by omega) (by omega)
  have f0 := Fr.push (.refl h) (.cells [v', .int .i64 0, .bool false] false)
  have u0 : InO (h.push (.cells [v', .int .i64 0, .bool false] false)) h.next v' n' b' 0 false :=
    ⟨get_push_new _, Nat.lt_succ_self _, sv.fr f0, fun e => by have := Sl.idLt sv e; omega, by omega⟩
  have hvc := sv.oneCell
  have hvlt : ∀ i, idOf v' = some i → i < h.next + 1 := fun i e => by have := Sl.idLt sv e; omega
  have g0n : (h.push (.cells [v', .int .i64 0, .bool false] false)).next = h.next + 1 := rfl
  generalize hg0 : h.push (.cells [v', .int .i64 0, .bool false] false) = g0 at *
  have i0 : RDecI h g0 v' n' b' cnt 0 .nils [] 0 0 := ⟨f0, u0, Own.nil _ _, rfl, fun x hx => by simp at hx, fun l0 z hk => ⟨by simp, by omega, .inl ⟨rfl, rfl, by simpa using hk.2.2⟩⟩, fun _ => rfl, fun j a b hl => by simp at hl⟩
  simp [c_ref11_Decode, s.len, hlt', eu, gt, ev', w3, hvc.1, splice_eq, hg0]
  have fail0 : ∀ g2, Fr h g2 → (∀ l0 z, ¬ DecK0 l0 z (bitsOf b') cnt) → DecS h b (.tuple [.nils, .int .i64 5]) g2 := fun g2 F2 hno => ⟨F2, .inr ⟨fun l0 h0 => by obtain ⟨z, hz, _⟩ := hk h0; exact hno l0 z hz, rfl⟩⟩
  refine w_mono (Q := fun x σ ds g => ds = [] ∧ ((x = .exit 0 ∧ σ 0 = v ∧ RDecE h b' cnt (σ 7) g) ∨ (x = .ret ∧ σ 2 = .nils ∧ σ 3 = .int .i64 5 ∧ Fr h g ∧ ∀ l0 z, ¬ DecK0 l0 z (bitsOf b') cnt))) ?_ ?_
  · refine w_count (n := cnt) (by rfl) (fun j σ ds g => ds = [] ∧ σ 0 = v ∧ σ 6 = .ptr h.next 0 ∧ σ 26 = .int .i64 (cnt : Int) ∧ RDecL h v' n' b' cnt j (σ 7) g) (by omega) (by simp)
      ⟨rfl, by simp, by simp, by simp, [], 0, 0, by simpa using i0⟩ (fun j σ ds g hJ => by simp [hJ.2.2.2.1]) ?_ ?_
    · rintro j σ ds g hj hi ⟨rfl, e0, e6, e26, r, at', step, I⟩
      have gg : (g.push (.cells [.int .i64 0, .int .u64 0] false)).get g.next = some (.cells [.int .i64 0, .int .u64 0] false) := get_push_new _
      have gn : (g.push (.cells [.int .i64 0, .int .u64 0] false)).next = g.next + 1 := rfl
      have fp := Fr.push (.refl g) (.cells [.int .i64 0, .int .u64 0] false)
      have stz : opStore 2 (.ptr g.next 0) (.agg [.int .i64 0, .int .u64 0]) (g.push (.cells [.int .i64 0, .int .u64 0] false)) = skipH (.ok (g.push (.cells [.int .i64 0, .int .u64 0] false))) := opStore_new rfl rfl rfl
      generalize hg1 : g.push (.cells [.int .i64 0, .int .u64 0] false) = g1 at *
      have hlt1 := I.un.lt
      have un1 := I.un.fr fp
      have ow1 := I.own.fr fp
      have hvg : idOf v' ≠ some g.next := fun e => by have := hvlt _ e; omega
      generalize h7 : σ 7 = acc at *
      have hag : idOf acc ≠ some g.next := fun e => by have := Sl.idLt I.own.sl e; omega
      have fxp : FrX h.next g g1 := Fr.x fp
      -- a sample's two cells laid: what is told of it
      have laid : ∀ {g3 : AH} {T : Int} {V a2 : Nat} {b2 : Bool} {st2 : Int}, FrX h.next g g3 → g3.get g.next = some (.cells [.int .i64 T, .int .u64 (V : Int)] false) → g.next < g3.next → (-9223372036854775808 ≤ T ∧ T < 9223372036854775808) → V < 2 ^ 64 →
          InO g3 h.next v' n' b' a2 b2 → (∀ l0 z, DecK0 l0 z (bitsOf b') cnt → DecN (bitsOf b') l0 z j T V a2 b2 st2) → StepOk (r ++ [(T, V)]) st2 → RDecM h g v' n' b' cnt j r g3 :=
        fun fx gs hl hT hV u hN hs => ⟨fx, _, _, _, _, _, hT, hV, gs, hl, u, hN, hs⟩
      have setX : ∀ {g3 : AH} (o : AObj), FrX h.next g g3 → FrX h.next g (g3.set g.next o) := fun o fx => ⟨fx.next, fun i hi hn => by rw [get_set_old (by omega), fx.get i hi hn]⟩
      simp [hi, hg1, stz]
      refine w_mono (c := .cond (.c (.bool (decide (j = 0)))) _ _) (Q := fun x σ ds g' => x = .normal ∧ ds = [] ∧ σ 0 = v ∧ σ 6 = .ptr h.next 0 ∧ σ 7 = acc ∧ σ 9 = .ptr g.next 0 ∧ σ 26 = .int .i64 (cnt : Int) ∧ σ 27 = .int .i64 (j : Int) ∧ RDecM h g v' n' b' cnt j r g') ?_ ?_
      · by_cases hj0 : j = 0
        · subst hj0
          have hr0 : r = [] := List.length_eq_zero_iff.1 I.len
          have hst0 : step = 0 := I.stp.1 (by rw [hr0]; simp)
          simp [e6]
          refine (ref11_take (cnt := 64) un1 hb' (by omega) (by omega)).mono ?_
          rintro rr g2 ⟨x1, a1, b1, rfl, hx1, u2, f2, hc1⟩
          have gg2 := f2.get g.next (by omega) (by omega)
          rw [gg] at gg2
          obtain ⟨st1, _⟩ := cell_set (x := .int .i64 (wrapF .i64 (x1 : Int))) gg2 rfl
          have u2' := u2.set (.cells [.int .i64 (wrapF .i64 (x1 : Int)), .int .u64 0] false) (j := g.next) (by omega) hvg
          have f2' := setX (.cells [.int .i64 (wrapF .i64 (x1 : Int)), .int .u64 0] false) (fxp.trans f2)
          have gs2 : (g2.set g.next (.cells [.int .i64 (wrapF .i64 (x1 : Int)), .int .u64 0] false)).get g.next = some (.cells [.int .i64 (wrapF .i64 (x1 : Int)), .int .u64 0] false) := get_set_new _ _
          have hl2 : g.next < (g2.set g.next (.cells [.int .i64 (wrapF .i64 (x1 : Int)), .int .u64 0] false)).next := by
            show g.next < g2.next
            have := f2.next
            omega
          generalize hg2 : g2.set g.next (.cells [.int .i64 (wrapF .i64 (x1 : Int)), .int .u64 0] false) = g2' at *
          simp [e6, st1]
          refine (ref11_take (cnt := 64) u2' hb' (by omega) (by omega)).mono ?_
          rintro rr g3 ⟨x2, a2, b2, rfl, hx2, u3, f3, hc2⟩
          have gg3 := f3.get g.next hl2 (by omega)
          rw [gs2] at gg3
          obtain ⟨_, st2⟩ := cell_set (x := .int .u64 (x2 : Int)) gg3 rfl
          have u3' := u3.set (.cells [.int .i64 (wrapF .i64 (x1 : Int)), .int .u64 (x2 : Int)] false) (j := g.next) (by omega) hvg
          simp [e0, e6, h7, e26, hi, st2]
          refine laid (st2 := 0) (setX _ (f2'.trans f3)) (get_set_new _ _) (by show g.next < g3.next; have := f3.next; omega) (wrap_rng _) hx2 u3' ?_ (by rw [hr0]; exact StepOk.one rfl)
          intro l0 z hk
          have hI := I.rel l0 z hk
          have h1 : takeB (bitsOf b') at' 64 = some x1 ∧ b1 = false ∨ takeB (bitsOf b') at' 64 = none ∧ b1 = true ∧ x1 = 0 := by
            rcases hc1 with ⟨q1, q2, _⟩ | q
            · exact .inl ⟨q1, q2⟩
            · exact .inr q
          rcases hc1 with ⟨q1, rfl, rfl⟩ | ⟨q1, rfl, rfl⟩
          · have h2 : takeB (bitsOf b') (at' + 64) 64 = some x2 ∧ b2 = false ∨ takeB (bitsOf b') (at' + 64) 64 = none ∧ b2 = true ∧ x2 = 0 := by
              rcases hc2 with ⟨q1, q2, _⟩ | q
              · exact .inl ⟨q1, q2⟩
              · exact .inr q
            have hN := dec_first (by omega) I.rel h1 h2 l0 z hk
            rcases hc2 with ⟨q1, q2, rfl⟩ | ⟨_, rfl, _⟩
            · exact hN
            · cases hN.1
          · have hN := dec_first (x2 := 0) (b2 := true) (by omega) I.rel h1 (.inr ⟨by
              unfold takeB at q1 ⊢
              split at q1
              · cases q1
              · rw [if_neg (by omega)], rfl, rfl⟩) l0 z hk
            cases hN.1
        · obtain ⟨i, rfl⟩ : ∃ i, j = i + 1 := ⟨j - 1, by omega⟩
          obtain ⟨⟨t, w⟩, hx⟩ := at_some (l := r) (j := i) (by have := I.len; omega)
          obtain ⟨_, hw⟩ := I.rng _ (List.mem_of_getElem? hx)
          simp only at hw
          obtain ⟨id1, o1, p1, _, p2, p3, hid1⟩ := smp_t ow1.sl hx
          simp only at p2 p3
          -- behind the number
          have next : ∀ {g2 : AH} {nn : Int} {a1 : Nat} {b1 : Bool}, InO g2 h.next v' n' b' a1 b1 → FrX h.next g1 g2 → IntR (bitsOf b') at' false nn a1 b1 →
              ∃ g2', storeN g2 g.next 0 [.int .i64 (wrapF .i64 (t + wrapF .i64 (step + nn)))] = .ok g2' ∧ load1 g2 id1 o1 = .ok (.int .i64 t) ∧ load1 g2' id1 (o1 + 1) = .ok (.int .u64 (w : Int)) ∧
                Ev P SI (.fn f_ref11_in_takeXor) [.ptr h.next 0] g2' fun rr g3 => ∃ x : Nat, rr = .int .u64 (x : Int) ∧ load1 g3 id1 (o1 + 1) = .ok (.int .u64 (w : Int)) ∧
                  opBin P .xor t_uint64 false (.int .u64 (w : Int)) (.int .u64 (x : Int)) = .ok (.int .u64 ((w ^^^ x : Nat) : Int)) ∧ ∃ g3', storeN g3 g.next 1 [.int .u64 ((w ^^^ x : Nat) : Int)] = .ok g3' ∧ RDecM h g v' n' b' cnt (i + 1) r g3' := by
            intro g2 nn a1 b1 u2 f2 hI
            have own2 := Own.frX ow1 f2 (Nat.lt_succ_self _)
            have gg2 := f2.get g.next (by omega) (by omega)
            rw [gg] at gg2
            obtain ⟨st1, _⟩ := cell_set (x := .int .i64 (wrapF .i64 (t + wrapF .i64 (step + nn)))) gg2 rfl
            have hT := wrap_rng (t + wrapF .i64 (step + nn))
            have hstp : ∀ V : Nat, StepOk (r ++ [(wrapF .i64 (t + wrapF .i64 (step + nn)), V)]) (wrapF .i64 (step + nn)) := fun V => StepOk.snoc I.len hx
            have hN := fun {a2 x : Nat} {b2 : Bool} => dec_next2 (a2 := a2) (x := x) (b2 := b2) hj I.rel hx hI
            generalize wrapF .i64 (t + wrapF .i64 (step + nn)) = T at *
            have u2' := u2.set (.cells [.int .i64 T, .int .u64 0] false) (j := g.next) (by omega) hvg
            have f2' := setX (.cells [.int .i64 T, .int .u64 0] false) (fxp.trans f2)
            have own2' := own2.set (.cells [.int .i64 T, .int .u64 0] false) hag
            have gs2 : (g2.set g.next (.cells [.int .i64 T, .int .u64 0] false)).get g.next = some (.cells [.int .i64 T, .int .u64 0] false) := get_set_new _ _
            have hl2 : g.next < (g2.set g.next (.cells [.int .i64 T, .int .u64 0] false)).next := by
              show g.next < g2.next
              have := f2.next
              omega
            obtain ⟨idq, oq, q1, _, q2, _, _⟩ := smp_t own2.sl hx
            rw [p1] at q1
            cases q1
            obtain ⟨idq, oq, q1, _, _, q3, _⟩ := smp_t own2'.sl hx
            rw [p1] at q1
            cases q1
            simp only at q2 q3
            refine ⟨_, st1, q2, q3, ?_⟩
            generalize g2.set g.next (.cells [.int .i64 T, .int .u64 0] false) = g2' at *
            refine (ref11_takeXor u2' hb' (by omega)).mono ?_
            rintro rr g3 ⟨x, a2, b2, rfl, hx64, u3, f3, hV⟩
            have own3 := Own.frX own2' f3 (Nat.lt_succ_self _)
            obtain ⟨idq, oq, q1, _, _, q4, _⟩ := smp_t own3.sl hx
            rw [p1] at q1
            cases q1
            simp only at q4
            have gg3 := f3.get g.next hl2 (by omega)
            rw [gs2] at gg3
            have hwx : w ^^^ x < 2 ^ 64 := Nat.xor_lt_two_pow hw hx64
            obtain ⟨_, st2⟩ := cell_set (x := .int .u64 ((w ^^^ x : Nat) : Int)) gg3 rfl
            have u3' := u3.set (.cells [.int .i64 T, .int .u64 ((w ^^^ x : Nat) : Int)] false) (j := g.next) (by omega) hvg
            exact ⟨x, rfl, q4, xor_u64 _ _ _ _ hw hx64, _, st2, laid (setX _ (f2'.trans f3)) (get_set_new _ _) (by show g.next < g3.next; have := f3.next; omega) hT hwx u3' (hN hV) (hstp _)⟩
          by_cases hi0 : i = 0
          · subst hi0
            have hst0 : step = 0 := I.stp.1 (by have := I.len; omega)
            subst hst0
            have p1' : opIdxV 2 acc (.int .i64 0) = .ok (.ptr id1 o1) := p1
            simp [e6, h7, p1', p2]
            refine (ref11_takeInt un1 hb' (by omega)).mono ?_
            rintro rr g2 ⟨nn, a1, b1, rfl, u2, f2, hI⟩
            obtain ⟨g2', s1, s2, s3, s4⟩ := next u2 f2 hI
            rw [← wrap_first] at s1
            simp [e6, h7, p1', s1, s2, s3]
            refine s4.mono ?_
            rintro rr g3 ⟨x, rfl, r1, r2, g3', r3, r4⟩
            generalize w ^^^ x = wx at *
            simp [e0, e6, h7, e26, hi, r1, r2, r3, -bin_xor_u64]
            exact r4
          · obtain ⟨k, rfl⟩ : ∃ k, i = k + 1 := ⟨i - 1, by omega⟩
            obtain ⟨⟨tq, wq⟩, hy⟩ := at_some (l := r) (j := k) (by have := I.len; omega)
            have hstp := I.stp.2 k _ _ I.len hx hy
            simp only at hstp
            obtain ⟨idy, oy, y1, _, y2, _, _⟩ := smp_t ow1.sl hy
            simp only at y2
            have c1 : ¬ ((k + 1 + 1 : Nat) : Int) = 1 := by omega
            have w1 : wrapF .i64 (((k + 1 + 1 : Nat) : Int) - 1) = ((k + 1 : Nat) : Int) := by rw [wrap_i64 (by omega) (by omega)]; omega
            have w2 : wrapF .i64 (((k + 1 + 1 : Nat) : Int) - 2) = (k : Int) := by rw [wrap_i64 (by omega) (by omega)]; omega
            have hc0 : ¬ (k + 1 + 1 = 0) := by omega
            have stage : ∀ {g2 : AH}, FrX h.next g1 g2 → load1 g2 idy oy = .ok (.int .i64 tq) := by
              intro g2 f2
              obtain ⟨idq, oq, q1, _, q2, _, _⟩ := smp_t (Own.frX ow1 f2 (Nat.lt_succ_self _)).sl hy
              rw [y1] at q1
              cases q1
              exact q2
            generalize hjj : ((k + 1 + 1 : Nat) : Int) = j1 at *
            generalize hj2 : ((k + 1 : Nat) : Int) = j2 at *
            have hst' : wrapF .i64 (t - tq) = step := hstp.symm
            simp [e6, h7, hc0, c1, w1, w2, p1, p2, y1, y2, hst']
            refine (ref11_takeInt un1 hb' (by omega)).mono ?_
            rintro rr g2 ⟨nn, a1, b1, rfl, u2, f2, hI⟩
            obtain ⟨g2', s1, s2, s3, s4⟩ := next u2 f2 hI
            rw [← wrap_assoc] at s1
            have sg := stage f2
            simp [e6, h7, w1, p1, s1, s2, s3, sg]
            refine s4.mono ?_
            rintro rr g3 ⟨x, rfl, r1, r2, g3', r3, r4⟩
            generalize w ^^^ x = wx at *
            simp [e0, e6, h7, e26, hi, r1, r2, r3, -bin_xor_u64]
            exact r4
      · clear h7 e0 e6 e26 hi
        rintro x σ ds g' ⟨rfl, rfl, e0, e6, e7, e9, e26, hi, fx, T, V, a2, b2, st2, hT, hV, gs, hlts, u2, hN, hs⟩
        have F' : Fr h g' := FrX.fr I.fr fx (Nat.le_refl _)
        have own' := Own.frX I.own fx (Nat.lt_succ_self _)
        have lbad : load1 g' h.next 2 = .ok (.bool b2) := load1_of u2.cells
        rw [Kblk_normal, Kseq_normal]
        cases b2 with
        | true =>
          simp [e6, lbad]
          refine ⟨F', fun l0 z hk => ?_⟩
          obtain ⟨h, _⟩ := hN l0 z hk
          cases h
        | false =>
          have hle : h.next + 1 ≤ g'.next := by have := u2.lt; omega
          have hrl : r.length ≤ 65535 := by rw [I.len]; omega
          obtain ⟨acc', g2, ap, o2, f2, p2, _⟩ := own'.snoc2 (x := [.int .i64 T, .int .u64 ((V : Nat) : Int)]) (bytes := 16) hle rfl rfl (by omega) (by omega)
          simp [e6, lbad, e7, e9, loadN_pair gs, splice_eq, ap, e0, e26, hi]
          refine ⟨r ++ [(T, V)], a2, st2, ⟨?_, ?_, ?_, ?_, ?_, ?_, ?_⟩⟩
          · exact ⟨Nat.le_trans F'.next f2.next, fun i hi => by rw [f2.get i (by omega), F'.get i hi]⟩
          · exact u2.frB f2 (Nat.lt_succ_self _) hvlt
          · rw [List.length_append, List.flatMap_append]
            exact o2
          · rw [List.length_append, I.len]; rfl
          · exact I.rng.snoc hT hV
          · exact dec_step I.rel hN
          · exact hs
    · rintro σ ds g ⟨rfl, e0, e6, e26, r, at', step, I⟩
      simp [e0]
      exact ⟨r, at', step, I.rng, I.fr, I.own, by rw [I.len]; omega, I.rel⟩
  · rintro x σ ds g ⟨rfl, ⟨rfl, e0, r, at', step, hR, F, own, hrl, hgood⟩ | ⟨rfl, e2, e3, F, hno⟩⟩
    rotate_left
    · simp [e2, e3]
      exact fail0 _ F hno
    generalize h7 : σ 7 = acc at *
    have hv : ∀ x ∈ r, x.2 < 2 ^ 64 := fun x hx => (hR x hx).2
    simp [e0, h7]
    refine (ref11_Encode own.sl (by omega) hv).mono ?_
    rintro rr g2 ⟨f2, hrr⟩
    have s2 := (s.fr F).fr f2
    have F2 := F.trans f2
    have fail : (∀ l0, ¬ IsS b l0) → DecS h b (.tuple [.nils, .int .i64 5]) g2 := fun hno => ⟨F2, .inr ⟨hno, rfl⟩⟩
    have uniq : ∀ l0, IsS b l0 → r = l0 := by
      intro l0 h0
      obtain ⟨z, hz, _⟩ := hk h0
      obtain ⟨h1, _⟩ := hgood l0 z hz
      rw [h1, ← hz.2.1, List.take_length]
    by_cases hc : canS r = true
    · rw [if_pos hc] at hrr
      obtain ⟨w, rfl, sw⟩ := hrr
      have henc : ∀ x ∈ encS r, x < 256 := by
        intro x hx
        rw [encS] at hx
        rcases List.mem_append.1 hx with h | h
        · exact be_lt _ _ _ h
        · exact pack_lt _ _ h
      have c1 := conv_strB sw
      have c2 := conv_strB s2
      by_cases heq : encS r = b
      · have c1' := c1
        rw [heq] at c1'
        simp [e0, h7, c1', c2]
        exact ⟨F2, .inl ⟨r, acc, ⟨hR, hc, heq⟩, fun l0 h0 => (uniq l0 h0).symm, rfl, own.sl.fr f2⟩⟩
      · have heq' : ¬ txtOf (encS r) = txtOf b := fun e => heq (txt_inj henc hb e)
        simp [e0, h7, c1, c2, heq']
        refine fail fun l0 h0 => ?_
        have := uniq l0 h0
        rw [this] at heq
        exact heq h0.2.2
    · rw [if_neg hc] at hrr
      subst hrr
      have hno : ∀ l0, ¬ IsS b l0 := fun l0 h0 => by
        have := uniq l0 h0
        rw [this] at hc
        exact hc h0.2.1
      simp
      exact fail hno

end Go.Dk

namespace Go.Dk
open Go Go.Dr
set_option maxRecDepth 100000

/-- the first byte of some, the text behind it, and the rest -/
theorem piece_at {h : AH} {m : Nat} {v : AV} {r : List Nat} (s : Sl h 1 m v (by8 r)) (hm : m < 2 ^ 62) :
    (r = [] ∧ m = 0) ∨ ∃ n t, r = n :: t ∧ m = t.length + 1 ∧ (∃ id o, opIdxV 1 v (.int .i64 0) = .ok (.ptr id o) ∧ (∀ g, Sl g 1 m v (by8 r) → load1 g id o = .ok (.int .u8 (n : Int)))) ∧
      (n ≤ t.length → ∃ u w, opSliceV 1 v (some (.int .i64 1)) (some (.int .i64 (1 + (n : Int)))) none = .ok u ∧ (∀ g, Sl g 1 m v (by8 r) → Sl g 1 n u (by8 (t.take n))) ∧
        opSliceV 1 v (some (.int .i64 (1 + (n : Int)))) none none = .ok w ∧ (∀ g, Sl g 1 m v (by8 r) → Sl g 1 (t.length - n) w (by8 (t.drop n)))) := by
  cases r with
  | nil => exact .inl ⟨rfl, by have := s.1; simpa using this.symm⟩
  | cons n t =>
    have hm1 : m = t.length + 1 := by have := s.1; simp at this; omega
    refine .inr ⟨n, t, rfl, hm1, ?_, fun hn => ?_⟩
    · obtain ⟨id, o, g1, g2, _⟩ := s.get1 (k := .i64) (i := 0) (j := 0) rfl (by omega) (x := .int .u8 (n : Int)) rfl
      refine ⟨id, o, g1, fun g sg => ?_⟩
      obtain ⟨id2, o2, k1, k2, _⟩ := sg.get1 (k := .i64) (i := 0) (j := 0) rfl (by omega) (x := .int .u8 (n : Int)) rfl
      rw [g1] at k1
      cases k1
      exact k2
    · obtain ⟨u, eu, _⟩ := s.slice (lo := some (.int .i64 ((1 : Nat) : Int))) (hi := some (.int .i64 ((1 + n : Nat) : Int))) (a := 1) (b := 1 + n) (.inr ⟨.i64, rfl⟩) (.inr ⟨.i64, rfl⟩) (by omega) (by omega)
      obtain ⟨w, ew, _⟩ := s.slice (lo := some (.int .i64 ((1 + n : Nat) : Int))) (hi := none) (a := 1 + n) (b := m) (.inr ⟨.i64, rfl⟩) (.inl ⟨rfl, rfl⟩) (by omega) (by omega)
      have ec : ((1 + n : Nat) : Int) = 1 + (n : Int) := by omega
      refine ⟨u, w, by rw [← ec]; exact eu, fun g sg => ?_, by rw [← ec]; exact ew, fun g sg => ?_⟩
      · obtain ⟨u', eu', su⟩ := sg.slice (lo := some (.int .i64 ((1 : Nat) : Int))) (hi := some (.int .i64 ((1 + n : Nat) : Int))) (a := 1) (b := 1 + n) (.inr ⟨.i64, rfl⟩) (.inr ⟨.i64, rfl⟩) (by omega) (by omega)
        rw [eu] at eu'
        cases eu'
        rw [show 1 + n - 1 = n from by omega, Nat.mul_one, Nat.mul_one, by8_drop, by8_take, List.drop_succ_cons, List.drop_zero] at su
        exact su
      · obtain ⟨w', ew', sw⟩ := sg.slice (lo := some (.int .i64 ((1 + n : Nat) : Int))) (hi := none) (a := 1 + n) (b := m) (.inr ⟨.i64, rfl⟩) (.inl ⟨rfl, rfl⟩) (by omega) (by omega)
        rw [ew] at ew'
        cases ew'
        rw [show m - (1 + n) = t.length - n from by omega, Nat.mul_one, Nat.mul_one, by8_drop, by8_take, show 1 + n = n + 1 from by omega, List.drop_succ_cons, List.take_of_length_le (by simp)] at sw
        exact sw

/-- within the round of label j: i texts are read -/
def InnerL (h : AH) (n j : Nat) (v : AV) (r0 : List Nat) (ls0 : List Lab) (x : Lab) (i : Nat) (b0 : AV) (g : AH) : Prop :=
  ∃ (m : Nat) (r : List Nat) (ls : List Lab), Sl h 1 m b0 (by8 r) ∧ (∀ y ∈ r, y < 256) ∧ m < 2 ^ 62 ∧ Own h.next g 2 n v (ls.flatMap labC) ∧ FrB h.next h g ∧ ls.length = n ∧
    ((i = 0 ∧ r = r0 ∧ ls = ls0) ∨ (i = 1 ∧ ∃ nm, piece r0 = some (nm, r) ∧ ls = ls0.set j (nm, x.2)) ∨ (i = 2 ∧ ∃ nm r1 vl, piece r0 = some (nm, r1) ∧ piece r1 = some (vl, r) ∧ ls = ls0.set j (nm, vl)))

/-- what comes of bytes as labels -/
def DecK (h : AH) (b : List Nat) (r : AV) (g : AH) : Prop :=
  Fr h g ∧ match decL b with
    | .ok (l, rest) => ∃ v w, r = .tuple [v, w, .int .i64 0] ∧ Own h.next g 2 l.length v (l.flatMap labC) ∧ Sl g 1 rest.length w (by8 rest)
    | .error e => r = .tuple [.nils, .nils, .int .i64 e]

theorem labels_Decode {h : AH} {n : Nat} {v : AV} {b : List Nat} (s : Sl h 1 n v (by8 b)) (hn : n ≤ 2 ^ 40) (hb : ∀ x ∈ b, x < 256) : Ev P SI (.fn f_labels_Decode) [v] h (DecK h b) := by
  refine ev_fn k_labels_Decode rfl rfl ?_
  rcases piece_at s (by omega) with ⟨rfl, rfl⟩ | ⟨k, t, rfl, hm, ⟨id0, o0, i1, i2⟩, _⟩
  · simp [c_labels_Decode, s.len]
    exact ⟨.refl _, rfl⟩
  have c0 : ¬ n = 0 := by omega
  have hk : k < 256 := hb k (by simp)
  have i2' := i2 h s
  obtain ⟨b0, eb, sb⟩ := s.slice (lo := some (.int .i64 ((1 : Nat) : Int))) (hi := none) (a := 1) (b := n) (.inr ⟨.i64, rfl⟩) (.inl ⟨rfl, rfl⟩) (by omega) (Nat.le_refl _)
  rw [Nat.mul_one, Nat.mul_one, by8_drop, by8_take, List.drop_succ_cons, List.drop_zero, List.take_of_length_le (by omega)] at sb
  rw [show ((1 : Nat) : Int) = 1 from rfl] at eb
  have mk := opMkS_nat (h := h) 2 32 k [.str [], .str []] .u8 .u8 (by omega) (by omega)
  rw [repl_lab] at mk
  have hcell : ((List.replicate k (([], []) : Lab)).flatMap labC).length = k * 2 := by rw [flatMap_len (es := 2) _ (fun _ _ => rfl)]; simp
  have ow := Own.fresh (B := h.next) (h := h) (es := 2) (n := k) (l := (List.replicate k (([], []) : Lab)).flatMap labC) true (Nat.le_refl _) hcell
  generalize hg0 : h.push (.cells ((List.replicate k (([], []) : Lab)).flatMap labC) false) = g0 at *
  generalize hvv : AV.slice h.next 0 k k true 2 = vv at *
  have f0 : FrB h.next h g0 := by rw [← hg0]; exact (Fr.push (.refl h) _).b (Nat.le_refl _)
  simp [c_labels_Decode, s.len, c0, i1, i2', mk, eb, ow.sl.len]
  refine w_count (n := k) (by rfl) (fun j σ ds g => ∃ (m : Nat) (r : List Nat) (ls : List Lab) (b0 : AV), σ 0 = b0 ∧ σ 5 = vv ∧ σ 20 = .int .i64 (k : Int) ∧ ds = [] ∧ Sl h 1 m b0 (by8 r) ∧ (∀ y ∈ r, y < 256) ∧ m < 2 ^ 62 ∧
      Own h.next g 2 k vv (ls.flatMap labC) ∧ FrB h.next h g ∧ ls.length = k ∧ labsN k t = (labsN (k - j) r).map (fun p => (ls.take j ++ p.1, p.2))) (by omega) (by simp)
    ⟨n - 1, t, List.replicate k ([], []), b0, by simp, by simp, by simp, rfl, sb, fun y hy => hb y (List.mem_cons_of_mem _ hy), by omega, ow, f0, by simp, by simp⟩
    (fun j σ ds g ⟨_, _, _, _, hJ⟩ => by simp [hJ.2.2.1]) ?_ ?_
  · rintro j σ ds g hj hi ⟨m, r, ls, b0, e0, e5, e20, rfl, sr, hr, hmb, og, fg, hll, hlab⟩
    obtain ⟨id, o, p1, _⟩ := og.sl.get (k := .i64) (i := (j : Int)) rfl hj
    have hxj : ls[j]? = some ls[j] := List.getElem?_eq_getElem (by omega)
    have hkj : k - j = (k - (j + 1)) + 1 := by omega
    simp [e0, e5, e20, hi, p1, splice_eq]
    refine w_count (n := 2) (by rfl) (fun i σ ds g => ds = [] ∧ σ 5 = vv ∧ σ 20 = .int .i64 (k : Int) ∧ σ 21 = .int .i64 (j : Int) ∧ σ 32 = .agg [.ptr id o, .ptr id (o + 1)] ∧ InnerL h k j vv r ls ls[j] i (σ 0) g) (by omega) (by simp)
      ⟨rfl, by simp [e5], by simp [e20], by simp [hi], by simp, m, r, ls, by simpa [e0] using sr, hr, hmb, og, fg, hll, .inl ⟨rfl, rfl, rfl⟩⟩ (fun i σ ds g hJ => by simp) ?_ ?_
    · rintro i σ ds g hi2 hi33 ⟨rfl, a5, a20, a21, a32, m', r', ls', sr', hr', hm', og', fg', hll', hcase⟩
      have bad : piece r' = none → decL (k :: t) = .error 3 := by
        intro hp
        have hno : labsN (k - j) r = none := by
          rw [hkj, labsN]
          rcases hcase with ⟨_, rfl, _⟩ | ⟨_, nm, h1, _⟩ | ⟨rfl, _⟩
          · rw [hp]
          · rw [h1]; simp only [hp]
          · omega
        rw [hno] at hlab
        simp only [decL, hlab, Option.map_none]
      have srg := sr'.fr fg'.fr
      have pi : opIndex true 2 1 (.agg [.ptr id o, .ptr id (o + 1)]) (.int .i64 (i : Int)) = .ok (.ptr id (o + i)) := by
        rcases (show i = 0 ∨ i = 1 by omega) with rfl | rfl <;> simp [opIndex, aggOne]
      generalize hb' : σ 0 = b' at *
      rcases piece_at sr' hm' with ⟨rfl, rfl⟩ | ⟨q, u, rfl, hmq, ⟨id1, o1, q1, q2⟩, hq⟩
      · have := bad rfl
        simp [a5, a20, a21, a32, hi33, pi, hb', srg.len, DecK, this]
        exact ⟨fg'.next, fg'.get⟩
      have q2 := q2 g srg
      have cm : ¬ m' = 0 := by omega
      have wm : wrapF .i64 ((m' : Int) - 1) = (u.length : Int) := by rw [wrap_i64 (by omega) (by omega)]; omega
      have hq256 : q < 256 := hr' q (by simp)
      have wq : wrapF .i64 (q : Int) = (q : Int) := wrap_i64 (by omega) (by omega)
      by_cases hle : q ≤ u.length
      case neg =>
        have := bad (by simp [piece, hle])
        have c2 : (u.length : Int) < q := by omega
        simp [a5, a20, a21, a32, hi33, pi, hb', srg.len, cm, q1, q2, wm, wq, c2, DecK, this]
        exact ⟨fg'.next, fg'.get⟩
      have c2 : ¬ (u.length : Int) < q := by omega
      have w1 : wrapF .i64 (1 + (q : Int)) = 1 + (q : Int) := wrap_i64 (by omega) (by omega)
      obtain ⟨su, sw, y1, y2, y3, y4⟩ := hq hle
      have cs := conv_strB (y2 g srg)
      have hpc : piece (q :: u) = some (txtOf (u.take q), u.drop q) := by simp [piece, hle]
      have sw' := y4 h sr'
      have hmw : u.length - q < 2 ^ 62 := by omega
      obtain ⟨id2, o2, g2, z1, z2, z3, z4, z5⟩ := og'.store (k := .i64) (i := (j : Int)) rfl hj (c := i) (by omega) (x := .str (txtOf (u.take q))) rfl
      rw [p1] at z1
      cases z1
      simp [a5, a20, a21, a32, hi33, pi, hb', srg.len, cm, q1, q2, wm, wq, c2, w1, y1, y3, cs, z2]
      rcases hcase with ⟨rfl, rfl, rfl⟩ | ⟨rfl, nm, h1, rfl⟩ | ⟨h1, _⟩
      · rw [lab_set0 _ _ _ _ hxj] at z3
        exact ⟨_, _, _, sw', fun y hy => hr' y (List.mem_cons_of_mem _ (List.mem_of_mem_drop hy)), hmw, z3, fg'.trans z4, by simp [hll'], .inr (.inl ⟨rfl, _, hpc, rfl⟩)⟩
      · rw [lab_set1 _ _ _ (nm, ls[j].2) (List.getElem?_set_self (by omega)), List.set_set] at z3
        exact ⟨_, _, _, sw', fun y hy => hr' y (List.mem_cons_of_mem _ (List.mem_of_mem_drop hy)), hmw, z3, fg'.trans z4, by simpa using hll', .inr (.inr ⟨rfl, _, _, _, h1, hpc, rfl⟩)⟩
      · omega
    · rintro σ ds g ⟨rfl, a5, a20, a21, a32, m', r', ls', sr', hr', hm', og', fg', hll', hcase⟩
      rcases hcase with ⟨h0, _⟩ | ⟨h1, _⟩ | ⟨_, nm, r1, vl, h1, h2, rfl⟩
      · omega
      · omega
      simp [a5, a20, a21]
      refine ⟨m', r', sr', hr', hm', _, og', fg', hll', ?_⟩
      rw [hlab, hkj, labsN, h1]
      simp only [h2]
      cases labsN (k - (j + 1)) r' with
      | none => rfl
      | some p =>
        simp only [Option.map_some]
        congr 2
        rw [take_snoc (ls.set j (nm, vl)) j (nm, vl) (List.getElem?_set_self (by omega)), List.take_set, List.set_eq_of_length_le (by simp; omega), List.append_assoc]
        rfl
  · rintro σ ds g ⟨m, r, ls, b0, e0, e5, e20, rfl, sr, hr, hmb, og, fg, hll, hlab⟩
    rw [Nat.sub_self, labsN, Option.map_some, List.append_nil, List.take_of_length_le (by omega)] at hlab
    obtain ⟨_, hrl, hsh, hrm⟩ := labsN_len hlab
    simp only at hrl hlab
    have hshort : Short ls := fun x hx => by have := hsh x hx; omega
    simp [e0, e5]
    refine (labels_Can og.sl hshort).mono ?_
    rintro rr g1 ⟨rfl, fa⟩
    have fr1 : Fr h g1 := fg.fr.trans fa
    cases hc : canL ls with
    | false =>
      simp [DecK, decL, hlab, hc]
      exact fr1
    | true =>
      have o0 : Own g1.next (g1.push (.cells [] false)) 1 0 (.slice g1.next 0 0 0 true 1) [] := ⟨by simp, .inr ⟨g1.next, 0, true, [], rfl, Nat.le_refl _, by simp, get_push_new _, by simp, by simp⟩⟩
      have f2 := fr1.push (.cells [] false)
      have hml : m = r.length := by have := sr.1; simpa using this.symm
      subst hml
      obtain ⟨v1, g2, ap, o1, fb, _⟩ := o0.append (bytes := 1) (sr.fr f2) (by simp) (by8_scalar _) (by omega) (by omega)
      simp [e0, ap, DecK, decL, hlab, hc]
      rw [Nat.zero_add, List.nil_append] at o1
      have f3 : Fr g1 g2 := ⟨Nat.le_trans (Nat.le_succ _) fb.next, fun i hi => (fb.get i hi).trans (get_push_old (by omega))⟩
      refine ⟨fr1.trans f3, _, _, ⟨rfl, rfl⟩, ?_, o1.sl⟩
      rw [hll, e5]
      exact (og.fr fa).fr f3

end Go.Dk

namespace Go.Dk
open Go Go.Dr
set_option maxRecDepth 100000

def PieceK (h : AH) (n : Nat) (v : AV) (b : List Nat) (r : AV) (g : AH) : Prop :=
  g = h ∧ match piece b with
    | some (s, t) => ∃ w, r = .tuple [.str s, w, .bool true] ∧ ∀ g', Sl g' 1 n v (by8 b) → Sl g' 1 t.length w (by8 t)
    | none => r = .tuple [.str [], .nils, .bool false]

theorem ref07_Piece {h : AH} {n : Nat} {v : AV} {b : List Nat} (s : Sl h 1 n v (by8 b)) (hn : n ≤ 2 ^ 40) (hb : ∀ x ∈ b, x < 256) : Ev P SI (.fn f_ref07_Piece) [v] h (PieceK h n v b) := by
  refine ev_fn k_ref07_Piece rfl rfl ?_
  rcases piece_at s (by omega) with ⟨rfl, rfl⟩ | ⟨k, t, rfl, hm, ⟨id0, o0, i1, i2⟩, hq⟩
  · simp [c_ref07_Piece, s.len, PieceK, piece]
  have i2 := i2 h s
  have hk : k < 256 := hb k (by simp)
  have c0 : ¬ n = 0 := by omega
  have w1 : wrapF .i64 ((n : Int) - 1) = (t.length : Int) := by rw [wrap_i64 (by omega) (by omega)]; omega
  have wq : wrapF .i64 (k : Int) = (k : Int) := wrap_i64 (by omega) (by omega)
  have w2 : wrapF .i64 (1 + (k : Int)) = 1 + (k : Int) := wrap_i64 (by omega) (by omega)
  by_cases hle : k ≤ t.length
  · have c2 : ¬ (t.length : Int) < k := by omega
    obtain ⟨su, sw, y1, y2, y3, y4⟩ := hq hle
    have cs := conv_strB (y2 h s)
    simp [c_ref07_Piece, s.len, c0, i1, i2, w1, wq, w2, c2, y1, y3, cs, PieceK, piece, hle]
    exact y4
  · have c2 : (t.length : Int) < k := by omega
    simp [c_ref07_Piece, s.len, c0, i1, i2, w1, wq, w2, c2, PieceK, piece, hle]

theorem ref07_Decode {h : AH} {n : Nat} {v : AV} {b : List Nat} (s : Sl h 1 n v (by8 b)) (hn : n ≤ 2 ^ 30) (hb : ∀ x ∈ b, x < 256) : Ev P SI (.fn f_ref07_Decode) [v] h (DecK h b) := by
  refine ev_fn k_ref07_Decode rfl rfl ?_
  rcases piece_at s (by omega) with ⟨rfl, rfl⟩ | ⟨k, t, rfl, hm, ⟨id0, o0, i1, i2⟩, _⟩
  · simp [c_ref07_Decode, s.len]
    exact ⟨.refl _, rfl⟩
  have c0 : ¬ n = 0 := by omega
  have hk : k < 256 := hb k (by simp)
  have i2' := i2 h s
  have wk : wrapF .i64 (k : Int) = (k : Int) := wrap_i64 (by omega) (by omega)
  obtain ⟨b0, eb, sb⟩ := s.slice (lo := some (.int .i64 ((1 : Nat) : Int))) (hi := none) (a := 1) (b := n) (.inr ⟨.i64, rfl⟩) (.inl ⟨rfl, rfl⟩) (by omega) (Nat.le_refl _)
  rw [Nat.mul_one, Nat.mul_one, by8_drop, by8_take, List.drop_succ_cons, List.drop_zero, List.take_of_length_le (by omega)] at sb
  rw [show ((1 : Nat) : Int) = 1 from rfl] at eb
  simp [c_ref07_Decode, s.len, c0, i1, i2', eb, wk]
  refine w_count (n := k) (by rfl) (fun j σ ds g => ∃ (m : Nat) (r : List Nat) (ls : List Lab), ds = [] ∧ σ 22 = .int .i64 (k : Int) ∧ Sl h 1 m (σ 0) (by8 r) ∧ (∀ y ∈ r, y < 256) ∧ m ≤ 2 ^ 30 ∧
      Own h.next g 2 j (σ 6) (ls.flatMap labC) ∧ FrB h.next h g ∧ ls.length = j ∧ labsN k t = (labsN (k - j) r).map (fun p => (ls ++ p.1, p.2))) (by omega) (by simp)
    ⟨n - 1, t, [], rfl, by simp, by simpa using sb, fun y hy => hb y (List.mem_cons_of_mem _ hy), by omega, by simpa using Own.nil _ _, .refl _ _, rfl, by simp⟩
    (fun j σ ds g ⟨_, _, _, hJ⟩ => by simp [hJ.2.1]) ?_ ?_
  · rintro j σ ds g hj hi ⟨m, r, ls, rfl, e22, sr, hr, hmb, og, fg, hll, hlab⟩
    have hkj : k - j = (k - (j + 1)) + 1 := by omega
    have bad : labsN (k - j) r = none → decL (k :: t) = .error 3 := fun hno => by
      rw [hno] at hlab
      simp only [decL, hlab, Option.map_none]
    have srg := sr.fr fg.fr
    simp
    refine (ref07_Piece srg (by omega) hr).mono ?_
    rintro r1 g1 ⟨rfl, h1⟩
    cases hp1 : piece r with
    | none =>
      rw [hp1] at h1
      simp only at h1
      subst h1
      have := bad (by rw [hkj, labsN, hp1])
      simp
      refine (ref07_Piece (n := 0) (b := []) (Sl.nil 1) (by omega) (by simp)).mono ?_
      rintro r2 g2 ⟨rfl, h2⟩
      have h2 : r2 = .tuple [.str [], .nils, .bool false] := h2
      subst h2
      simp [DecK, this]
      exact ⟨fg.next, fg.get⟩
    | some p =>
      obtain ⟨nm, r'⟩ := p
      rw [hp1] at h1
      obtain ⟨w, rfl, sw⟩ := h1
      have pl := piece_len hp1
      have hml : r.length = m := by have := sr.1; simpa using this
      simp
      refine (ref07_Piece (sw _ srg) (by omega) (fun y hy => hr y (piece_mem hp1 y hy))).mono ?_
      rintro r2 g2 ⟨rfl, h2⟩
      cases hp2 : piece r' with
      | none =>
        rw [hp2] at h2
        simp only at h2
        subst h2
        have := bad (by rw [hkj, labsN, hp1]; simp only [hp2])
        simp [DecK, this]
        exact ⟨fg.next, fg.get⟩
      | some p =>
        obtain ⟨vl, r''⟩ := p
        rw [hp2] at h2
        obtain ⟨w2, rfl, sw2⟩ := h2
        have pl2 := piece_len hp2
        obtain ⟨v', g3, ea, oa, fa⟩ := og.snoc (bytes := 32) (x := [.str nm, .str vl]) fg.next rfl rfl (by omega) (by omega)
        simp [splice_eq, ea, hi, e22]
        refine ⟨_, _, sw2 h (sw h sr), fun y hy => hr y (piece_mem hp1 y (piece_mem hp2 y hy)), by omega, ls ++ [(nm, vl)], by simpa [labC] using oa, fg.trans fa, by simp [hll], ?_⟩
        rw [hlab, hkj, labsN, hp1]
        simp only [hp2]
        cases labsN (k - (j + 1)) r'' with
        | none => rfl
        | some p => simp
  · rintro σ ds g ⟨m, r, ls, rfl, e22, sr, hr, hmb, og, fg, hll, hlab⟩
    rw [Nat.sub_self, labsN, Option.map_some, List.append_nil] at hlab
    obtain ⟨_, hrl, hsh, hrm⟩ := labsN_len hlab
    simp only at hrl hlab
    have hshort : Short ls := fun x hx => by have := hsh x hx; omega
    simp
    refine (ref07_Can og.sl hshort).mono ?_
    rintro rr g1 ⟨rfl, fa⟩
    have fr1 : Fr h g1 := fg.fr.trans fa
    cases hc : canL ls with
    | false =>
      simp [DecK, decL, hlab, hc]
      exact fr1
    | true =>
      have o0 : Own g1.next (g1.push (.cells [] false)) 1 0 (.slice g1.next 0 0 0 true 1) [] := ⟨by simp, .inr ⟨g1.next, 0, true, [], rfl, Nat.le_refl _, by simp, get_push_new _, by simp, by simp⟩⟩
      have f2 := fr1.push (.cells [] false)
      have hml : m = r.length := by have := sr.1; simpa using this.symm
      subst hml
      obtain ⟨v1, g2, ap, o1, fb, _⟩ := o0.append (bytes := 1) (sr.fr f2) (by simp) (by8_scalar _) (by omega) (by omega)
      simp [ap, DecK, decL, hlab, hc]
      rw [Nat.zero_add, List.nil_append] at o1
      have f3 : Fr g1 g2 := ⟨Nat.le_trans (Nat.le_succ _) fb.next, fun i hi => (fb.get i hi).trans (get_push_old (by omega))⟩
      refine ⟨fr1.trans f3, _, _, ⟨rfl, rfl⟩, ?_, o1.sl⟩
      rw [hll]
      exact (og.fr fa).fr f3

end Go.Dk

namespace Go.Dk
open Go Go.Dr
set_option maxRecDepth 100000

open Classical in
noncomputable def decSm (b : List Nat) : Option (List Smp) := if h : ∃ l, IsS b l then some h.choose else none

theorem DecS.m {h g : AH} {b : List Nat} {r : AV} (d : DecS h b r g) : Fr h g ∧ match decSm b with
    | some l => ∃ v, r = .tuple [v, .int .i64 0] ∧ Sl g 2 l.length v (l.flatMap smC)
    | none => r = .tuple [.nils, .int .i64 5] := by
  obtain ⟨f, d⟩ := d
  refine ⟨f, ?_⟩
  rcases d with ⟨l, v, h1, h2, h3, h4⟩ | ⟨hno, h3⟩
  · have hex : ∃ l, IsS b l := ⟨l, h1⟩
    have : decSm b = some l := by
      unfold decSm
      rw [dif_pos hex, h2 _ hex.choose_spec]
    rw [this]
    exact ⟨v, h3, h4⟩
  · have : decSm b = none := by
      unfold decSm
      rw [dif_neg (fun ⟨l, hl⟩ => hno l hl)]
    rw [this]
    exact h3

/-- the first chunk of bytes: labels, samples, how long it is -/
noncomputable def chunkB (b : List Nat) (k : Nat) : Option (List Lab × List Smp × Nat) :=
  if b.length - 4 < k then none else
    match decL ((b.drop 4).take k) with
    | .error _ => none
    | .ok (l, rest) => match decSm rest with
      | none => none
      | some s => if s.length = 0 ∨ 20 < s.length then none else some (l, s, 4 + k)

noncomputable def chunkOf (b : List Nat) : Option (List Lab × List Smp × Nat) := if b.length < 4 then none else chunkB b (beV (b.take 4))

def ChunkK (h : AH) (b : List Nat) (r : AV) (g : AH) : Prop :=
  Fr h g ∧ match chunkOf b with
    | some (l, s, n) => ∃ lv sv, r = .tuple [lv, sv, .int .i64 (n : Int)] ∧ Own h.next g 2 l.length lv (l.flatMap labC) ∧ Sl g 2 s.length sv (s.flatMap smC)
    | none => r = .tuple [.nils, .nils, .int .i64 0]

theorem decL_ok {b : List Nat} {l : List Lab} {rest : List Nat} (e : decL b = .ok (l, rest)) : rest.length ≤ b.length ∧ (∀ x ∈ rest, x ∈ b) ∧ (∀ x ∈ l, x.1.length ≤ b.length ∧ x.2.length ≤ b.length) := by
  cases b with
  | nil => cases e
  | cons n r =>
    simp only [decL] at e
    cases hl : labsN n r with
    | none => rw [hl] at e; cases e
    | some p =>
      obtain ⟨l', rest'⟩ := p
      rw [hl] at e
      simp only at e
      split at e
      · cases e
        obtain ⟨h1, h2, h3, h4⟩ := labsN_len hl
        refine ⟨by simp; omega, fun x hx => List.mem_cons_of_mem _ (h4 x hx), fun x hx => ?_⟩
        have := h3 x hx
        simp
        omega
      · cases e

theorem chunk_chunk {h : AH} {n : Nat} {v : AV} {b : List Nat} (s : Sl h 1 n v (by8 b)) (hn : n ≤ 2 ^ 30) (hb : ∀ x ∈ b, x < 256) (ht : TabIn h) : Ev P SI (.fn f_chunk_chunk) [v] h (ChunkK h b) := by
  refine ev_fn k_chunk_chunk rfl rfl ?_
  have hbl : b.length = n := by have := s.1; simpa using this
  by_cases h4 : n < 4
  · have h4' : (n : Int) < 4 := by omega
    have : chunkOf b = none := by unfold chunkOf; rw [if_pos (by omega)]
    simp [c_chunk_chunk, s.len, h4', ChunkK, this]
    exact .refl _
  have h4' : ¬ (n : Int) < 4 := by omega
  obtain ⟨u, eu, su⟩ := s.slice (lo := none) (hi := some (.int .i64 ((4 : Nat) : Int))) (a := 0) (b := 4) (.inl ⟨rfl, rfl⟩) (.inr ⟨.i64, rfl⟩) (by omega) (by omega)
  rw [Nat.mul_one, Nat.mul_one, by8_drop, by8_take, List.drop_zero, Nat.sub_zero] at su
  have gt := crc_Get su (fun x hx => hb x (List.mem_of_mem_take hx)) (by omega) (by omega)
  have hcl := beV_lt (b.take 4) (fun x hx => hb x (List.mem_of_mem_take hx))
  rw [List.length_take, Nat.min_eq_left (by omega)] at hcl
  have hco : chunkOf b = chunkB b (beV (b.take 4)) := by
    unfold chunkOf; rw [if_neg (by omega)]
  unfold chunkB at hco
  generalize beV (b.take 4) = k at *
  obtain ⟨m, hm⟩ : ∃ m, m = n - 4 := ⟨_, rfl⟩
  have w1 : wrapF .i64 ((n : Int) - 4) = (m : Int) := by rw [wrap_i64 (by omega) (by omega)]; omega
  have w2 : wrapF .u64 (m : Int) = (m : Int) := wrap_u64 (by omega) (by omega)
  rw [show ((4 : Nat) : Int) = 4 from rfl] at eu
  by_cases hlt : m < k
  · rw [if_pos (by omega)] at hco
    simp [c_chunk_chunk, s.len, h4', eu, gt, w1, w2, hlt, ChunkK, hco]
    exact .refl _
  rw [if_neg (by omega)] at hco
  have w3 : wrapF .i64 (k : Int) = (k : Int) := wrap_i64 (by omega) (by omega)
  have w4 : wrapF .i64 (4 + (k : Int)) = ((4 + k : Nat) : Int) := by rw [wrap_i64 (by omega) (by omega)]; omega
  obtain ⟨q, eq, sq⟩ := s.slice (lo := some (.int .i64 ((4 : Nat) : Int))) (hi := some (.int .i64 ((4 + k : Nat) : Int))) (a := 4) (b := 4 + k) (.inr ⟨.i64, rfl⟩) (.inr ⟨.i64, rfl⟩) (by omega) (by omega)
  rw [Nat.mul_one, Nat.mul_one, by8_drop, by8_take, Nat.add_sub_cancel_left] at sq
  rw [show ((4 : Nat) : Int) = 4 from rfl] at eq
  obtain ⟨k4, hk4⟩ : ∃ k4, k4 = 4 + k := ⟨_, rfl⟩
  rw [← hk4] at w4 eq hco
  simp [c_chunk_chunk, s.len, h4', eu, gt, w1, w2, hlt, w3, w4, eq]
  refine (labels_Decode sq (by omega) (fun x hx => hb x (List.mem_of_mem_drop (List.mem_of_mem_take hx)))).mono ?_
  rintro r g ⟨f1, hr⟩
  cases hd : decL ((b.drop 4).take k) with
  | error e =>
    rw [hd] at hr hco
    simp only at hr hco
    have he : e ≠ 0 := by
      rintro rfl
      revert hd
      cases (b.drop 4).take k with
      | nil => intro hd; cases hd
      | cons x y =>
        simp only [decL]
        cases labsN x y with
        | none => intro hd; cases hd
        | some p =>
          obtain ⟨l, rr⟩ := p
          simp only
          split
          · intro hd; cases hd
          · intro hd; cases hd
    subst hr
    simp [he, ChunkK, hco]
    exact f1
  | ok p =>
    obtain ⟨l, rest⟩ := p
    obtain ⟨hl1, hl2, _⟩ := decL_ok hd
    rw [hd] at hr hco
    simp only at hr hco
    obtain ⟨lv, rv, rfl, sl, sr⟩ := hr
    have hrl : rest.length ≤ 2 ^ 30 := by simp at hl1; omega
    simp
    refine (codec_Decode sr (fun x hx => hb x (List.mem_of_mem_drop (List.mem_of_mem_take (hl2 x hx)))) hrl (ht.fr f1)).mono ?_
    rintro r g2 hd2
    obtain ⟨f2, hd2⟩ := hd2.m
    cases hs : decSm rest with
    | none =>
      rw [hs] at hd2 hco
      simp only at hd2 hco
      subst hd2
      simp [ChunkK, hco]
      exact f1.trans f2
    | some ss =>
      rw [hs] at hd2 hco
      simp only at hd2 hco
      obtain ⟨sv, rfl, s2⟩ := hd2
      by_cases c0 : ss.length = 0
      · rw [if_pos (.inl c0)] at hco
        have c0' : ss = [] := List.length_eq_zero_iff.1 c0
        simp [s2.len, c0', ChunkK, hco]
        exact f1.trans f2
      · by_cases c20 : 20 < ss.length
        · rw [if_pos (.inr c20)] at hco
          have c20' : (20 : Int) < ss.length := by omega
          have c0' : ss ≠ [] := fun h => c0 (by rw [h]; rfl)
          simp [s2.len, c0', c20', ChunkK, hco]
          exact f1.trans f2
        · rw [if_neg (by omega)] at hco
          have c20' : ¬ (20 : Int) < ss.length := by omega
          have c0' : ss ≠ [] := fun h => c0 (by rw [h]; rfl)
          simp [s2.len, c0', c20', w3, w4, ChunkK, hco]
          exact ⟨f1.trans f2, _, _, ⟨rfl, rfl⟩, sl.fr f2, s2⟩

end Go.Dk

namespace Go.Dk
open Go Go.Dr
set_option maxRecDepth 100000

theorem ref10_Int4 {h : AH} {n : Nat} {v : AV} {bs : List Nat} (hv : Sl h 1 n v (by8 bs)) (hb : ∀ x ∈ bs, x < 256) (hn : 4 ≤ n) :
    ∃ v', (∀ g, Sl g 1 n v (by8 bs) → Sl g 1 (n - 4) v' (by8 (bs.drop 4))) ∧ ∀ K, Ev P SI (.fn f_ref10_Int) [v, .int .i64 4] h K = K (.tuple [.int .i64 (wrapF .i64 (beV (bs.take 4) : Int)), v', .bool true]) h :=
  ref10_Int (k := 4) hv hb (by omega) (by omega) hn

theorem ref10_Int4s {h : AH} {n : Nat} {v : AV} {l : List AV} (hv : Sl h 1 n v l) (hn : n < 4) (K : AV → AH → Prop) :
    Ev P SI (.fn f_ref10_Int) [v, .int .i64 4] h K = K (.tuple [.int .i64 0, .nils, .bool false]) h := ref10_Int_short (k := 4) hv hn K

theorem ref12_First {h : AH} {n : Nat} {v : AV} {b : List Nat} (s : Sl h 1 n v (by8 b)) (hn : n ≤ 2 ^ 30) (hb : ∀ x ∈ b, x < 256) : Ev P SI (.fn f_ref12_First) [v] h (ChunkK h b) := by
  refine ev_fn k_ref12_First rfl rfl ?_
  have hbl : b.length = n := by have := s.1; simpa using this
  by_cases h4 : n < 4
  · have : chunkOf b = none := by unfold chunkOf; rw [if_pos (by omega)]
    simp [c_ref12_First, ref10_Int4s s h4, ChunkK, this]
    exact .refl _
  obtain ⟨v', sv', gt⟩ := ref10_Int4 s hb (by omega)
  have sv := sv' h s
  have hcl := beV_lt (b.take 4) (fun x hx => hb x (List.mem_of_mem_take hx))
  rw [List.length_take, Nat.min_eq_left (by omega)] at hcl
  have hco : chunkOf b = chunkB b (beV (b.take 4)) := by
    unfold chunkOf; rw [if_neg (by omega)]
  unfold chunkB at hco
  generalize beV (b.take 4) = k at *
  obtain ⟨m, hm⟩ : ∃ m, m = n - 4 := ⟨_, rfl⟩
  rw [← hm] at sv
  have w3 : wrapF .i64 (k : Int) = (k : Int) := wrap_i64 (by omega) (by omega)
  rw [w3] at gt
  by_cases hlt : m < k
  · rw [if_pos (by omega)] at hco
    simp [c_ref12_First, gt, sv.len, hlt, ChunkK, hco]
    exact .refl _
  rw [if_neg (by omega)] at hco
  have w4 : wrapF .i64 ((k : Int) + 4) = ((4 + k : Nat) : Int) := by rw [wrap_i64 (by omega) (by omega)]; omega
  obtain ⟨q, eq, sq⟩ := sv.slice (lo := none) (hi := some (.int .i64 (k : Int))) (a := 0) (b := k) (.inl ⟨rfl, rfl⟩) (.inr ⟨.i64, rfl⟩) (by omega) (by omega)
  rw [Nat.mul_one, Nat.mul_one, by8_drop, by8_take, List.drop_zero, Nat.sub_zero] at sq
  obtain ⟨k4, hk4⟩ : ∃ k4, k4 = 4 + k := ⟨_, rfl⟩
  rw [← hk4] at w4 hco
  simp [c_ref12_First, gt, sv.len, hlt, eq]
  refine (ref07_Decode sq (by omega) (fun x hx => hb x (List.mem_of_mem_drop (List.mem_of_mem_take hx)))).mono ?_
  rintro r g ⟨f1, hr⟩
  cases hd : decL ((b.drop 4).take k) with
  | error e =>
    rw [hd] at hr hco
    simp only at hr hco
    have he : e ≠ 0 := by
      rintro rfl
      revert hd
      cases (b.drop 4).take k with
      | nil => intro hd; cases hd
      | cons x y =>
        simp only [decL]
        cases labsN x y with
        | none => intro hd; cases hd
        | some p =>
          obtain ⟨l, rr⟩ := p
          simp only
          split
          · intro hd; cases hd
          · intro hd; cases hd
    subst hr
    simp [he, ChunkK, hco]
    exact f1
  | ok p =>
    obtain ⟨l, rest⟩ := p
    obtain ⟨hl1, hl2, _⟩ := decL_ok hd
    rw [hd] at hr hco
    simp only at hr hco
    obtain ⟨lv, rv, rfl, sl, sr⟩ := hr
    have hrl : rest.length ≤ 2 ^ 30 := by simp at hl1; omega
    simp
    refine (ref11_Decode sr (fun x hx => hb x (List.mem_of_mem_drop (List.mem_of_mem_take (hl2 x hx)))) hrl).mono ?_
    rintro r g2 hd2
    obtain ⟨f2, hd2⟩ := hd2.m
    cases hs : decSm rest with
    | none =>
      rw [hs] at hd2 hco
      simp only at hd2 hco
      subst hd2
      simp [ChunkK, hco]
      exact f1.trans f2
    | some ss =>
      rw [hs] at hd2 hco
      simp only at hd2 hco
      obtain ⟨sv, rfl, s2⟩ := hd2
      by_cases c0 : ss.length = 0
      · rw [if_pos (.inl c0)] at hco
        have c0' : ss = [] := List.length_eq_zero_iff.1 c0
        simp [s2.len, c0', ChunkK, hco]
        exact f1.trans f2
      · have c1 : ¬ (ss.length : Int) < 1 := by omega
        by_cases c20 : 20 < ss.length
        · rw [if_pos (.inr c20)] at hco
          have c20' : (20 : Int) < ss.length := by omega
          simp [s2.len, c1, c20', ChunkK, hco]
          exact f1.trans f2
        · rw [if_neg (by omega)] at hco
          have c20' : ¬ (20 : Int) < ss.length := by omega
          simp [s2.len, c1, c20', w4, ChunkK, hco]
          exact ⟨f1.trans f2, _, _, ⟨rfl, rfl⟩, sl.fr f2, s2⟩

end Go.Dk
