import Derived.Test.YthkoheaklmgonaaDoorIxB
namespace Go.Proofs.YthkoheaklmgonaaDoor
open Go Go.Dr
set_option maxRecDepth 100000

theorem index70 {h : AH} {v : AV} {l : List Int} {n : Nat} (hv : Sl h 1 n v (iv l)) (hn : n < 2 ^ 62) (x : Int) : Ev Tryd.prog SI (.fn 70) [v, .int .i64 x] h fun r g => g = h ∧ ∃ p : Int, r = .int .i64 p ∧ (0 ≤ p ↔ x ∈ l) := by
  refine ev_fn comp70 rfl rfl ?_
  have hl : l.length = n := by have := hv.1; simpa using this
  simp [cc70, hv.len]
  refine w_count (n := n) (by rfl) (fun j σ ds h' => ds = [] ∧ σ 0 = v ∧ σ 1 = .int .i64 x ∧ σ 7 = .int .i64 (n : Int) ∧ h' = h ∧ ∀ i, i < j → l[i]? ≠ some x) (by omega) (by simp) (by simp) (fun j σ ds h' hJ => by simp [hJ.2.2.2.1]) ?_ ?_
  · rintro j σ ds h' hj hi ⟨rfl, e0, e1, e7, rfl, hno⟩
    have hjl : j < l.length := by omega
    obtain ⟨id, o, g1, g2, _⟩ := hv.get1 (k := .i64) (i := (j : Int)) rfl hj (x := .int .i64 l[j]) (by rw [iv_get, List.getElem?_eq_getElem hjl]; rfl)
    by_cases hx : x = l[j]
    · simp [e0, e1, e7, hi, g1, g2, hx]
    · simp [e0, e1, e7, hi, g1, g2, hx]
      intro i hij
      by_cases e : i = j
      · subst e; rw [List.getElem?_eq_getElem hjl]; intro h; exact hx (Option.some.inj h).symm
      · exact hno i (by omega)
  · rintro σ ds h' ⟨rfl, e0, e1, e7, rfl, hno⟩
    have : x ∉ l := fun hx => by
      obtain ⟨i, hi⟩ := List.mem_iff_getElem?.1 hx
      have : i < l.length := (List.getElem?_eq_some_iff.1 hi).1
      exact hno i (by omega) hi
    simp [this]

theorem contains43 {h : AH} {v : AV} {l : List Int} {n : Nat} (hv : Sl h 1 n v (iv l)) (hn : n < 2 ^ 62) (x : Int) (K : AV → AH → Prop) : Ev Tryd.prog SI (.fn 43) [v, .int .i64 x] h K = K (.bool (decide (x ∈ l))) h := by
  refine Ev.eq (ev_fn comp43 rfl rfl ?_) K
  simp [cc43]
  refine (index70 hv hn x).mono ?_
  rintro r g ⟨rfl, p, rfl, hp⟩
  simp [hp]

theorem minus42 {h : AH} {b : Nat} {v : AV} {l : List Int} {n : Nat} (hv : Sl h 1 n v (iv l)) (hb : load1 h b 0 = .ok v) (hn : n < 2 ^ 62) (x : Int) (K : AV → AH → Prop) : Ev Tryd.prog SI (.fn 42) [.int .i64 x, .ptr b 0] h K = K (.bool (decide (x ∈ l))) h := by
  refine Ev.eq (ev_fn comp42 rfl rfl ?_) K
  simp [cc42, hb, contains43 hv hn]

theorem meet44 {h : AH} {b : Nat} {v : AV} {l : List Int} {n : Nat} (hv : Sl h 1 n v (iv l)) (hb : load1 h b 0 = .ok v) (hn : n < 2 ^ 62) (x : Int) (K : AV → AH → Prop) : Ev Tryd.prog SI (.fn 44) [.int .i64 x, .ptr b 0] h K = K (.bool (!decide (x ∈ l))) h := by
  refine Ev.eq (ev_fn comp44 rfl rfl ?_) K
  simp [cc44, hb, contains43 hv hn]

theorem equal19 {h : AH} {v u : AV} {l : List Int} {n m : Nat} (hv : Sl h 1 n v (iv l)) (hu : Sl h 1 m u (iv l)) (hn : n < 2 ^ 62) (K : AV → AH → Prop) : Ev Tryd.prog SI (.fn 19) [v, u] h K = K (.bool true) h := by
  refine Ev.eq (ev_fn comp19 rfl rfl ?_) K
  have hl : l.length = n := by have := hv.1; simpa using this
  have hm : m = n := by have := hu.1; simp at this; omega
  subst hm
  simp [cc19, hv.len, hu.len]
  refine w_count (n := m) (by rfl) (fun j σ ds h' => ds = [] ∧ σ 0 = v ∧ σ 1 = u ∧ σ 12 = .int .i64 (m : Int) ∧ h' = h) (by omega) (by simp) (by simp) (fun j σ ds h' hJ => by simp [hJ.2.2.2.1]) ?_ ?_
  · rintro j σ ds h' hj hi ⟨rfl, e0, e1, e12, rfl⟩
    have hjl : j < l.length := by omega
    obtain ⟨id, o, g1, g2, _⟩ := hv.get1 (k := .i64) (i := (j : Int)) rfl hj (x := .int .i64 l[j]) (by rw [iv_get, List.getElem?_eq_getElem hjl]; rfl)
    obtain ⟨id', o', g1', g2', _⟩ := hu.get1 (k := .i64) (i := (j : Int)) rfl hj (x := .int .i64 l[j]) (by rw [iv_get, List.getElem?_eq_getElem hjl]; rfl)
    simp [e0, e1, e12, hi, g1, g2, g1', g2']
  · rintro σ ds h' ⟨rfl, e0, e1, e12, rfl⟩
    simp

/-- the first place where a predicate holds -/
theorem indexFunc66 {h : AH} {B n : Nat} {v : AV} {l : List Int} {f : FuncId} {c : Nat} {p : Int → Bool} (hv : Sl h 1 n v (iv l)) (hn : n < 2 ^ 62)
    (hp : ∀ g, FrB B h g → ∀ x K, Ev Tryd.prog SI (.fn f) [.int .i64 x, .ptr c 0] g K = K (.bool (p x)) g) (K : AV → AH → Prop) :
    Ev Tryd.prog SI (.fn 66) [v, .func (.func f) [] [.ptr c 0]] h K = K (.int .i64 (match l.findIdx? p with | some i => (i : Int) | none => -1)) h := by
  refine Ev.eq (ev_fn comp66 rfl rfl ?_) K
  have hl : l.length = n := by have := hv.1; simpa using this
  simp [cc66, hv.len]
  refine w_count (n := n) (by rfl) (fun j σ ds h' => ds = [] ∧ σ 0 = v ∧ σ 1 = .func (.func f) [] [.ptr c 0] ∧ σ 7 = .int .i64 (n : Int) ∧ h' = h ∧ ∀ i y, i < j → l[i]? = some y → p y = false) (by omega) (by simp) (by simp) (fun j σ ds h' hJ => by simp [hJ.2.2.2.1]) ?_ ?_
  · rintro j σ ds h' hj hi ⟨rfl, e0, e1, e7, rfl, hno⟩
    have hjl : j < l.length := by omega
    obtain ⟨id, o, g1, g2, _⟩ := hv.get1 (k := .i64) (i := (j : Int)) rfl hj (x := .int .i64 l[j]) (by rw [iv_get, List.getElem?_eq_getElem hjl]; rfl)
    have hc := hp h' (.refl _ _) l[j]
    cases hx : p l[j] with
    | true =>
      rw [hx] at hc
      have hf : l.findIdx? p = some j := by
        rw [List.findIdx?_eq_some_iff_getElem]
        refine ⟨hjl, hx, fun i hi => ?_⟩
        have := hno i l[i] hi (List.getElem?_eq_getElem (by omega))
        simp [this]
      simp [e0, e1, e7, hi, g1, g2, hc, hf]
    | false =>
      rw [hx] at hc
      simp [e0, e1, e7, hi, g1, g2, hc]
      intro i y hij hy
      by_cases e : i = j
      · subst e; rw [List.getElem?_eq_getElem hjl] at hy; cases hy; exact hx
      · exact hno i y (by omega) hy
  · rintro σ ds h' ⟨rfl, e0, e1, e7, rfl, hno⟩
    have hf : l.findIdx? p = none := by
      rw [List.findIdx?_eq_none_iff]
      intro x hx
      obtain ⟨i, hi⟩ := List.mem_iff_getElem?.1 hx
      have : i < l.length := (List.getElem?_eq_some_iff.1 hi).1
      exact hno i x (by omega) hi
    simp [hf]

end Go.Proofs.YthkoheaklmgonaaDoor
