import Derived.Test.YthkoheaklmgonaaFmH
namespace Go.Proofs.Ythkoheaklmgonaa
open Go Go.Dr
set_option maxRecDepth 100000

theorem equal10 {h : AH} {v u : AV} {l : List Nat} {n : Nat} (hv : Sl h 1 n v (by8 l)) (hu : Sl h 1 n u (by8 l)) (hn : n < 2 ^ 62) (K : AV → AH → Prop) : Ev Try.prog S0 (.fn 10) [v, u] h K = K (.bool true) h := by
  refine Ev.eq (ev_fn comp10 rfl rfl ?_) K
  have hl : l.length = n := by have := hv.1; simpa using this
  simp [cc10, hv.len, hu.len]
  refine w_count (n := n) (by rfl) (fun j σ ds h' => ds = [] ∧ σ 0 = v ∧ σ 1 = u ∧ σ 12 = .int .i64 (n : Int) ∧ h' = h) (by omega) (by simp) (by simp) (fun j σ ds h' hJ => by simp [hJ.2.2.2.1]) ?_ ?_
  · rintro j σ ds h' hj hi ⟨rfl, e0, e1, e12, rfl⟩
    have hjl : j < l.length := by omega
    obtain ⟨id, o, g1, g2, _⟩ := hv.get1 (k := .i64) (i := (j : Int)) rfl hj (x := .int .u8 (l[j] : Int)) (by rw [by8_get, List.getElem?_eq_getElem hjl]; rfl)
    obtain ⟨id', o', g1', g2', _⟩ := hu.get1 (k := .i64) (i := (j : Int)) rfl hj (x := .int .u8 (l[j] : Int)) (by rw [by8_get, List.getElem?_eq_getElem hjl]; rfl)
    simp [e0, e1, e12, hi, g1, g2, g1', g2']
  · rintro σ ds h' ⟨rfl, e0, e1, e12, rfl⟩
    simp

theorem equal28 {h : AH} (K : AV → AH → Prop) : Ev Try.prog S0 (.fn 28) [.nils, .nils] h K = K (.bool true) h := by
  refine Ev.eq (ev_fn comp28 rfl rfl ?_) K
  simp [cc28]
  refine w_count (n := 0) (by rfl) (fun j σ ds h' => ds = [] ∧ σ 12 = .int .i64 0 ∧ h' = h) (by omega) (by simp) (by simp) (fun j σ ds h' hJ => by simp [hJ.2.1]) (fun j σ ds h' hj => absurd hj (by omega)) ?_
  rintro σ ds h' ⟨rfl, e12, rfl⟩
  simp

theorem same23 {h : AH} {f : Ft} (hp : f.par = .nils) (K : AV → AH → Prop) : Ev Try.prog S0 (.fn 23) [.agg f.cells, .agg f.cells] h K = K (.bool true) ((h.push (.cells f.cells false)).push (.cells f.cells false)) := by
  refine Ev.eq (ev_fn comp23 rfl rfl ?_) K
  have ld : ∀ c, load1 ((h.push (.cells f.cells false)).push (.cells f.cells false)) h.next c = ofO "load: out of the known cells" f.cells[c]? := fun c => load1_of (by rw [get_push_old (by simp), get_push_new])
  have ld' : ∀ c, load1 ((h.push (.cells f.cells false)).push (.cells f.cells false)) (h.next + 1) c = ofO "load: out of the known cells" f.cells[c]? := fun c => load1_of (get_push_new _)
  simp only [Ft.cells, hp] at ld ld'
  simp [cc23, Ft.cells, hp, ld, ld', equal28]

theorem equal22 {h : AH} {v u : AV} {l : List Ft} {n : Nat} (hv : Sl h 8 n v (feet l)) (hu : Sl h 8 n u (feet l)) (hn : l.length = n) (hp : ∀ f ∈ l, f.par = .nils) (hb : n < 2 ^ 62) :
    Ev Try.prog S0 (.fn 22) [v, u, .func (.func 23) [] []] h (fun r h' => r = .bool true ∧ Fr h h') := by
  refine ev_fn comp22 rfl rfl ?_
  simp [cc22, hv.len, hu.len]
  refine w_count (n := n) (by rfl) (fun j σ ds h' => ds = [] ∧ σ 1 = u ∧ σ 2 = .func (.func 23) [] [] ∧ σ 15 = v ∧ σ 16 = .int .i64 (n : Int) ∧ Fr h h') (by omega) (by simp) (by simp [Fr.refl]) (fun j σ ds h' hJ => by simp [hJ.2.2.2.2.1]) ?_ ?_
  · rintro j σ ds h' hj hi ⟨rfl, e1, e2, e15, e16, hf⟩
    have hjl : j < l.length := by omega
    obtain ⟨id, o, g1, g2, _⟩ := foot_at (hv.fr hf) hn hjl
    obtain ⟨id', o', g1', _, _⟩ := foot_at (hu.fr hf) hn hjl
    have hpar : l[j].par = .nils := hp _ (List.getElem_mem hjl)
    have s1 := store_foot h' (f := l[j]) (by rw [hpar]; rfl)
    obtain ⟨id2, o2, g1'', g2'', _⟩ := foot_at (hu.fr (hf.push (.cells l[j].cells false))) hn hjl
    rw [g1'] at g1''
    cases g1''
    have s2 := store_foot (h'.push (.cells l[j].cells false)) (f := l[j]) (by rw [hpar]; rfl)
    generalize l[j] = f at *
    have l1 : loadN ((h'.push (.cells f.cells false)).push (.cells f.cells false)) h'.next 0 8 = .ok f.cells := loadN_of (by rw [get_push_old (by simp), get_push_new]) rfl
    have l2 : loadN ((h'.push (.cells f.cells false)).push (.cells f.cells false)) (h'.next + 1) 0 8 = .ok f.cells := loadN_of (get_push_new _) rfl
    simp only [AH.next_push] at s2
    have fF := ((((hf.push (.cells f.cells false)).push (.cells f.cells false)).push (.cells f.cells false)).push (.cells f.cells false))
    simp [e1, e2, e15, e16, hi, g1, g2, s1, g1', g2'', s2, l1, l2, same23 hpar, fF]
  · rintro σ ds h' ⟨rfl, e1, e2, e15, e16, hf⟩
    simp [hf]

theorem same11 {h : AH} {v u : AV} {l : List Ft} {n : Nat} (hv : Sl h 8 n v (feet l)) (hu : Sl h 8 n u (feet l)) (hn : l.length = n) (hp : ∀ f ∈ l, f.par = .nils) (hb : n < 2 ^ 62) :
    Ev Try.prog S0 (.fn 11) [v, u] h (fun r h' => r = .bool true ∧ Fr h h') := by
  refine ev_fn comp11 rfl rfl ?_
  simp [cc11]
  refine (equal22 hv hu hn hp hb).mono ?_
  rintro r h' ⟨rfl, hf⟩
  simp [hf]

theorem und23 : Try.prog.underlying 23 = some (.slice 5) := by kernel_rfl
theorem und22 : Try.prog.underlying 22 = some (.slice 37) := by kernel_rfl

theorem clone5 {h : AH} {v : AV} {l : List AV} {n : Nat} (hv : Sl h 1 n v l) (hs : allScalar l = true) (hn : n ≤ 2 ^ 40) : Ev Try.prog S0 (.fn 5) [v] h (fun r h' => Fr h h' ∧ Own h.next h' 1 n r l) := by
  refine ev_fn comp5 rfl rfl ?_
  have hv2 := hv.2
  rcases hv2 with ⟨rfl, rfl⟩ | ⟨id, off, cap, x, vs, ro, rfl, _⟩
  · have : l = [] := by have := hv.1; simpa using this
    subst this
    simp [cc5, bin_nil_nil und23, Fr.refl, Own.nil]
  · have o0 : Own h.next (h.push (.cells [] false)) 1 0 (.slice h.next 0 0 0 true 1) [] := Own.fresh true (Nat.le_refl _) rfl
    obtain ⟨r, h', a1, a2, a3, _, _⟩ := o0.append (bytes := 1) (hv.fr (Fr.push (.refl h) (.cells [] false))) (by simp) hs (by omega) (by omega)
    rw [Nat.zero_add, List.nil_append] at a2
    simp [cc5, bin_nil_slice und23, a1, a2]
    exact ⟨Nat.le_trans (by simp) a3.next, fun i hi => (a3.get i hi).trans (get_push_old (by omega))⟩

theorem clone13 {h : AH} {v : AV} {l : List AV} {n : Nat} (hv : Sl h 8 n v l) (hs : allScalar l = true) (hn : n ≤ 2 ^ 30) : Ev Try.prog S0 (.fn 13) [v] h (fun r h' => Fr h h' ∧ Own h.next h' 8 n r l) := by
  refine ev_fn comp13 rfl rfl ?_
  have hv2 := hv.2
  rcases hv2 with ⟨rfl, rfl⟩ | ⟨id, off, cap, x, vs, ro, rfl, _⟩
  · have : l = [] := by have := hv.1; simpa using this
    subst this
    simp [cc13, bin_nil_nil und22, Fr.refl, Own.nil]
  · have o0 : Own h.next (h.push (.cells [] false)) 8 0 (.slice h.next 0 0 0 true 8) [] := Own.fresh true (Nat.le_refl _) rfl
    obtain ⟨r, h', a1, a2, a3, _, _⟩ := o0.append (bytes := 80) (hv.fr (Fr.push (.refl h) (.cells [] false))) (by simp) hs (by omega) (by omega)
    rw [Nat.zero_add, List.nil_append] at a2
    simp [cc13, bin_nil_slice und22, a1, a2]
    exact ⟨Nat.le_trans (by simp) a3.next, fun i hi => (a3.get i hi).trans (get_push_old (by omega))⟩

def ft1 : Ft := ⟨1, 1, 1, 1, 0, 0, 0, .nils⟩
def man1 : List Nat := be 4 1 ++ manB [ft1]
theorem can_ft1 : canFrom [] 0 [ft1] = true := by decide
theorem man1_lt : ∀ x ∈ man1, x < 256 := by decide
theorem man1_ok : manOk man1 := by unfold manOk; decide
theorem man1_one : beV (man1.take 4) = 1 := by decide

theorem awake12 {h : AH} : Ev Try.prog S0 (.fn 12) [] h (fun r h' => r = .bool true ∧ Fr h h') := by
  refine ev_fn comp12 rfl rfl ?_
  have hsl : Sl (h.push (.cells (feet [ft1]) false)) 8 1 (.slice h.next 0 1 1 true 8) (feet [ft1]) := (Own.fresh (B := 0) true (Nat.zero_le _) rfl).sl
  have m6 := man6 hsl rfl (by simp [ft1]) (by decide)
  simp [cc12, splice_eq]
  simp only [feet, ft1, Ft.cells, List.map_cons, List.map_nil, List.flatten_cons, List.flatten_nil, List.append_nil] at m6
  refine m6.mono ?_
  rintro r h1 ⟨f1, ⟨_, _, b, rfl, ho⟩ | ⟨hno, _⟩⟩
  · have ho' : Own (h.push (.cells (feet [ft1]) false)).next h1 1 60 b (by8 man1) := ho
    simp
    refine (read8 ho'.sl man1_lt (by decide)).mono ?_
    rintro r h2 ⟨f2, ⟨_, x, rfl, ox⟩ | ⟨hno, _⟩⟩
    · rw [man1_one] at ox
      simp [(ho'.fr f2).sl.len, ox.sl.len]
      exact (Fr.push (.refl h) _).trans (f1.trans f2)
    · exact absurd man1_ok hno
  · exact absurd ⟨can_ft1, by decide⟩ hno

end Go.Proofs.Ythkoheaklmgonaa
