import Derived.Test.YthkoheaklmgonaaDoorBfB
namespace Go.Proofs.YthkoheaklmgonaaDoor
open Go Go.Dr
set_option maxRecDepth 100000

/-- a footer -/
structure Ft where
  num : Int
  gen : Int
  level : Int
  rank : Int
  min : Int
  max : Int
  bytes : Int
  par : AV

def Ft.cells (f : Ft) : List AV := [.int .i64 f.num, .int .i64 f.gen, .int .i64 f.level, .int .i64 f.rank, .int .i64 f.min, .int .i64 f.max, .int .i64 f.bytes, f.par]
theorem Ft.cells_length (f : Ft) : f.cells.length = 8 := rfl
def Ft.fl (f : Ft) : List Int := [f.num, f.gen, f.level, f.rank, f.min, f.max, f.bytes]

def zeroOk (f : Ft) : Bool := !(decide (f.bytes = 0) && (decide (¬ f.min = 0) || decide (¬ f.max = 0)))
def canB (f : Ft) (ps : List Int) : Bool :=
  num f.num && (num f.gen && (num f.rank && (decide (1 ≤ f.level) && (decide (f.level ≤ 3) && (decide (0 ≤ f.bytes) && (decide (f.bytes ≤ 2147483647) && (decide (f.min ≤ f.max) && (zeroOk f && (decide (ps.length ≤ 3) && ps.all num)))))))))

theorem can48 (n : Int) (h : AH) (K : AV → AH → Prop) : Ev Tryd.prog SB (.fn 48) [.int .i64 n] h K = K (.bool (!num n)) h := by
  refine Ev.eq (ev_fn comp48 rfl rfl ?_) K
  simp [cc48, number46]

theorem index66 {h : AH} {v : AV} {l : List Int} {n : Nat} (hv : Sl h 1 n v (iv l)) (hn : n < 2 ^ 62) :
    Ev Tryd.prog SB (.fn 66) [v, .func (.func 48) [] []] h fun r h' => ∃ i : Int, r = .int .i64 i ∧ h' = h ∧ decide (0 ≤ i) = !l.all num := by
  have hl : l.length = n := by have := hv.1; simpa using this
  refine ev_fn comp66 rfl rfl ?_
  simp [cc66, hv.len]
  refine w_count (n := n) (by rfl) (fun j σ ds h' => ds = [] ∧ σ 0 = v ∧ σ 1 = .func (.func 48) [] [] ∧ σ 7 = .int .i64 (n : Int) ∧ h' = h ∧ ∀ i, i < j → ∀ x, l[i]? = some x → num x = true) (by omega) (by simp) (by simp) (fun j σ ds h' hJ => by simp [hJ.2.2.2.1]) ?_ ?_
  · rintro j σ ds h' hj hi ⟨rfl, e0, e1, e7, rfl, hall⟩
    have hjl : j < l.length := by omega
    obtain ⟨id, o, g1, g2, _⟩ := hv.get1 (k := .i64) (i := (j : Int)) rfl hj (x := .int .i64 l[j]) (by rw [iv_get, List.getElem?_eq_getElem hjl]; rfl)
    cases hx : num l[j]
    · have : l.all num = false := by
        rw [List.all_eq_false]
        exact ⟨l[j], List.getElem_mem hjl, by simp [hx]⟩
      simp [e0, e1, e7, hi, g1, g2, can48, hx, this]
    · simp [e0, e1, e7, hi, g1, g2, can48, hx]
      intro i hij x hxi
      by_cases hij' : i = j
      · subst hij'; rw [List.getElem?_eq_getElem hjl] at hxi; cases hxi; exact hx
      · exact hall i (by omega) x hxi
  · rintro σ ds h' ⟨rfl, e0, e1, e7, rfl, hall⟩
    have : l.all num = true := by
      rw [List.all_eq_true]
      intro x hx
      obtain ⟨i, hi⟩ := List.mem_iff_getElem?.1 hx
      exact hall i (by have := (List.getElem?_eq_some_iff.1 hi).1; omega) x hi
    simp [this]

theorem contains47 {h : AH} {v : AV} {l : List Int} {n : Nat} (hv : Sl h 1 n v (iv l)) (hn : n < 2 ^ 62) (K : AV → AH → Prop) :
    Ev Tryd.prog SB (.fn 47) [v, .func (.func 48) [] []] h K = K (.bool (!l.all num)) h := by
  refine Ev.eq (ev_fn comp47 rfl rfl ?_) K
  simp [cc47]
  refine (index66 hv hn).mono ?_
  rintro r h' ⟨i, rfl, rfl, hi⟩
  simp [hi]

theorem can21 {h : AH} {f : Ft} {ps : List Int} (hp : Sl h 1 ps.length f.par (iv ps)) (hn : ps.length ≤ 9223372036854775807) (K : AV → AH → Prop) :
    Ev Tryd.prog SB (.fn 21) [.agg f.cells] h K = K (.bool (canB f ps)) (h.push (.cells f.cells false)) := by
  refine Ev.eq (ev_fn comp21 rfl rfl ?_) K
  have hp1 := hp.fr (Fr.push (.refl h) (.cells f.cells false))
  have hl := hp.len
  have ct : ps.length ≤ 3 → ∀ K, _ := fun h3 => contains47 hp1 (show ps.length < 2 ^ 62 by omega)
  simp only [Ft.cells] at ct
  cases h1 : num f.num
  · simp [cc21, Ft.cells, canB, number46, h1]
  cases h2 : num f.gen
  · simp [cc21, Ft.cells, canB, number46, h1, h2]
  cases h3 : num f.rank
  · simp [cc21, Ft.cells, canB, number46, h1, h2, h3]
  by_cases h4 : f.level < 1
  · simp [cc21, Ft.cells, canB, number46, h1, h2, h3, h4, show ¬ 1 ≤ f.level by omega]
  by_cases h5 : 3 < f.level
  · simp [cc21, Ft.cells, canB, number46, h1, h2, h3, h4, h5, show ¬ f.level ≤ 3 by omega]
  by_cases h6 : f.bytes < 0
  · simp [cc21, Ft.cells, canB, number46, h1, h2, h3, h4, h5, h6, show ¬ 0 ≤ f.bytes by omega]
  by_cases h7 : 2147483647 < f.bytes
  · simp [cc21, Ft.cells, canB, number46, h1, h2, h3, h4, h5, h6, h7, show ¬ f.bytes ≤ 2147483647 by omega]
  by_cases h8 : f.max < f.min
  · simp [cc21, Ft.cells, canB, number46, h1, h2, h3, h4, h5, h6, h7, h8, show ¬ f.min ≤ f.max by omega]
  have k4 : 1 ≤ f.level := by omega
  have k5 : f.level ≤ 3 := by omega
  have k6 : 0 ≤ f.bytes := by omega
  have k7 : f.bytes ≤ 2147483647 := by omega
  have k8 : f.min ≤ f.max := by omega
  by_cases z1 : f.bytes = 0
  · by_cases z2 : f.min = 0
    · have h8' : ¬ f.max < 0 := by omega
      by_cases z3 : f.max = 0
      · rw [z1, z2, z3] at ct
        by_cases hn3 : ps.length ≤ 3
        · have hn3' : (ps.length : Int) ≤ 3 := by omega
          simp [cc21, Ft.cells, canB, zeroOk, number46, h1, h2, h3, h4, h5, k4, k5, z1, z2, z3, hl, hn3, hn3', ct hn3]
        · have hn3' : ¬ (ps.length : Int) ≤ 3 := by omega
          simp [cc21, Ft.cells, canB, zeroOk, number46, h1, h2, h3, h4, h5, z1, z2, z3, hl, hn3, hn3']
      · simp [cc21, Ft.cells, canB, zeroOk, number46, h1, h2, h3, h4, h5, h8', z1, z2, z3]
    · simp [cc21, Ft.cells, canB, zeroOk, number46, h1, h2, h3, h4, h5, h8, z1, z2]
  · by_cases hn3 : ps.length ≤ 3
    · have hn3' : (ps.length : Int) ≤ 3 := by omega
      simp [cc21, Ft.cells, canB, zeroOk, number46, h1, h2, h3, h4, h5, h6, h7, h8, k4, k5, k6, k7, k8, z1, hl, hn3, hn3', ct hn3]
    · have hn3' : ¬ (ps.length : Int) ≤ 3 := by omega
      simp [cc21, Ft.cells, canB, zeroOk, number46, h1, h2, h3, h4, h5, h6, h7, h8, z1, hl, hn3, hn3']

theorem can23 {h : AH} {f : Ft} {ps : List Int} (hp : Sl h 1 ps.length f.par (iv ps)) (hn : ps.length ≤ 9223372036854775807) (K : AV → AH → Prop) :
    Ev Tryd.prog SB (.fn 23) [.agg f.cells] h K = K (.bool (canB f ps)) (h.push (.cells f.cells false)) := by
  refine Ev.eq (ev_fn comp23 rfl rfl ?_) K
  have hp1 := hp.fr (Fr.push (.refl h) (.cells f.cells false))
  have hl := hp.len
  cases h1 : num f.num
  · simp [cc23, Ft.cells, canB, number49, h1]
  cases h2 : num f.gen
  · simp [cc23, Ft.cells, canB, number49, h1, h2]
  cases h3 : num f.rank
  · simp [cc23, Ft.cells, canB, number49, h1, h2, h3]
  by_cases h4 : f.level < 1
  · simp [cc23, Ft.cells, canB, number49, h1, h2, h3, h4, show ¬ 1 ≤ f.level by omega]
  by_cases h5 : 3 < f.level
  · simp [cc23, Ft.cells, canB, number49, h1, h2, h3, h4, h5, show ¬ f.level ≤ 3 by omega]
  by_cases h6 : f.bytes < 0
  · simp [cc23, Ft.cells, canB, number49, h1, h2, h3, h4, h5, h6, show ¬ 0 ≤ f.bytes by omega]
  by_cases h7 : 2147483647 < f.bytes
  · simp [cc23, Ft.cells, canB, number49, h1, h2, h3, h4, h5, h6, h7, show ¬ f.bytes ≤ 2147483647 by omega]
  by_cases h8 : f.max < f.min
  · simp [cc23, Ft.cells, canB, number49, h1, h2, h3, h4, h5, h6, h7, h8, show ¬ f.min ≤ f.max by omega]
  have k4 : 1 ≤ f.level := by omega
  have k5 : f.level ≤ 3 := by omega
  have k6 : 0 ≤ f.bytes := by omega
  have k7 : f.bytes ≤ 2147483647 := by omega
  have k8 : f.min ≤ f.max := by omega
  cases hzo : zeroOk f
  · by_cases z1 : f.bytes = 0
    · by_cases z2 : f.min = 0
      · have h8' : ¬ f.max < 0 := by omega
        by_cases z3 : f.max = 0
        · simp [zeroOk, z1, z2, z3] at hzo
        · simp [cc23, Ft.cells, canB, number49, h1, h2, h3, h4, h5, h8', z1, z2, z3, hzo]
      · simp [cc23, Ft.cells, canB, number49, h1, h2, h3, h4, h5, h8, z1, z2, hzo]
    · simp [zeroOk, z1] at hzo
  have hcan : canB f ps = (decide (ps.length ≤ 3) && ps.all num) := by simp [canB, h1, h2, h3, k4, k5, k6, k7, k8, hzo]
  rw [hcan]
  simp only [cc23, wpC_seq]
  refine w_mono (Q := fun x σ ds g => x = .normal ∧ ds = [] ∧ σ 1 = .ptr h.next 0 ∧ σ 2 = .bool false ∧ g = h.push (.cells f.cells false)) (by simp) ?_
  rintro x σ ds g ⟨rfl, rfl, e1, e2, rfl⟩
  simp only [Kseq_normal, wpC_seq]
  refine w_mono (Q := fun x σ ds g => x = .normal ∧ ds = [] ∧ σ 1 = .ptr h.next 0 ∧ σ 62 = .bool false ∧ g = h.push (.cells f.cells false)) ?_ ?_
  · by_cases z1 : f.bytes = 0
    · by_cases z2 : f.min = 0
      · by_cases z3 : f.max = 0
        · simp [Ft.cells, number49, h1, h2, h3, h4, h5, z1, z2, z3, e1]
        · simp [zeroOk, z1, z3] at hzo
      · simp [zeroOk, z1, z2] at hzo
    · simp [Ft.cells, number49, h1, h2, h3, h4, h5, h6, h7, h8, z1, e1]
  · rintro x σ ds g ⟨rfl, rfl, e1, e62, rfl⟩
    have lp : load1 (h.push (.cells f.cells false)) h.next 7 = .ok f.par := load1_of (get_push_new _)
    simp [e1, e62, lp, hl]
    refine w_count (n := ps.length) (by rfl) (fun j σ ds g => ds = [] ∧ σ 1 = .ptr h.next 0 ∧ σ 64 = f.par ∧ σ 65 = .int .i64 (ps.length : Int) ∧ g = h.push (.cells f.cells false) ∧ ∀ i, i < j → ∀ x, ps[i]? = some x → num x = true) (by omega) (by simp) (by simp [e1]) (fun j σ ds h' hJ => by simp [hJ.2.2.2.1]) ?_ ?_
    · rintro j σ ds g hj hi ⟨rfl, e1, e64, e65, rfl, hall⟩
      obtain ⟨id, o, g1, g2, _⟩ := hp1.get1 (k := .i64) (i := (j : Int)) rfl hj (x := .int .i64 ps[j]) (by rw [iv_get, List.getElem?_eq_getElem hj]; rfl)
      cases hx : num ps[j]
      · have : ps.all num = false := by
          rw [List.all_eq_false]
          exact ⟨ps[j], List.getElem_mem hj, by simp [hx]⟩
        simp [e1, e64, e65, hi, g1, g2, number49, hx, this]
      · simp [e1, e64, e65, hi, g1, g2, number49, hx]
        intro i hij x hxi
        by_cases hij' : i = j
        · subst hij'; rw [List.getElem?_eq_getElem hj] at hxi; cases hxi; exact hx
        · exact hall i (by omega) x hxi
    · rintro σ ds g ⟨rfl, e1, e64, e65, rfl, hall⟩
      have : ps.all num = true := by
        rw [List.all_eq_true]
        intro x hx
        obtain ⟨i, hi⟩ := List.mem_iff_getElem?.1 hx
        exact hall i (List.getElem?_eq_some_iff.1 hi).1 x hi
      simp [e1, lp, hl, this]
      omega

end Go.Proofs.YthkoheaklmgonaaDoor
