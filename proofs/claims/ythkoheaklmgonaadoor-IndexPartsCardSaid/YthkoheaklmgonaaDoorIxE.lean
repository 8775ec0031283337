import Derived.Test.YthkoheaklmgonaaDoorIxD
namespace Go.Proofs.YthkoheaklmgonaaDoor
open Go Go.Dr
set_option maxRecDepth 100000

def VInv (n : Nat) (ly b : Nat) (Inv : Nat → AH → Prop) (v : AV) (r : Nat) (σ : Sg) (ds : List ADef) (g : AH) : Prop :=
  ∃ j, r + j = n ∧ ds = [] ∧ σ 0 = .func (.yield ly) [] [] ∧ σ 5 = v ∧ σ 6 = .int .i64 (n : Int) ∧ σ 7 = .int .i64 (j : Int) ∧ Inv j g

theorem values93 {h : AH} {v : AV} {l : List Int} {n b ly : Nat} (hn : n < 2 ^ 62) (Inv : Nat → AH → Prop)
    (hi : ∀ j g, Inv j g → load1 g b 0 = .ok v ∧ Sl g 1 n v (iv l))
    (hy : ∀ j g x, l[j]? = some x → Inv j g → Ev Tryd.prog SI (.yield ly) [.int .i64 x] g fun r g' => r = .bool true ∧ Inv (j + 1) g') (h0 : Inv 0 h) :
    Ev Tryd.prog SI (.fn 93) [.func (.yield ly) [] [], .ptr b 0] h fun _ g => Inv n g := by
  refine ev_fn comp93 rfl rfl ?_
  obtain ⟨l0, s0⟩ := hi 0 h h0
  have hl : l.length = n := by have := s0.1; simpa using this
  simp [cc93, l0, s0.len]
  refine w_count (n := n) (by rfl) (fun j σ ds g => ds = [] ∧ σ 0 = .func (.yield ly) [] [] ∧ σ 5 = v ∧ σ 6 = .int .i64 (n : Int) ∧ Inv j g) (by omega) (by simp) (by simp [h0]) (fun j σ ds h' hJ => by simp [hJ.2.2.2.1]) ?_ ?_
  · rintro j σ ds g hj hij ⟨rfl, e0, e5, e6, hI⟩
    have hjl : j < l.length := by omega
    obtain ⟨_, s⟩ := hi j g hI
    obtain ⟨id, o, g1, g2, _⟩ := s.get1 (k := .i64) (i := (j : Int)) rfl hj (x := .int .i64 l[j]) (by rw [iv_get, List.getElem?_eq_getElem hjl]; rfl)
    simp [e0, e5, e6, hij, g1, g2]
    refine (hy j g _ (List.getElem?_eq_getElem hjl) hI).mono ?_
    rintro r g' ⟨rfl, hI'⟩
    simp [e0, e5, e6, hij, hI']
  · rintro σ ds g ⟨rfl, e0, e5, e6, hI⟩
    simp [hI]

/-- what stands in the heap as numbers are collected -/
structure RInv (h : AH) (l : List Int) (tmps : PT AV) (j : Nat) (g : AH) : Prop where
  fr : Fr h g
  cell : ∃ x, g.get h.next = some (.cells [x] false) ∧ Own (h.next + 3) g 1 j x (iv (l.take j)) ∧ (j = 0 → x = .nils)
  did : g.get (h.next + 1) = some (.deferred (some []))
  lid : g.get (h.next + 2) = some (.loop { state := .ready, pending := none, n := 13, tmps := tmps, params := #[7], assign := goAssign 114 0, body := goBody 114 0 })
  next : h.next + 3 ≤ g.next

theorem round114 {h : AH} {l : List Int} {tmps : PT AV} {j : Nat} {x : Int} {g : AH} (h2 : valT tmps 2 = .ptr h.next 0) (hx : l[j]? = some x) (hl : l.length ≤ 2 ^ 30) (hI : RInv h l tmps j g) :
    Ev Tryd.prog SI (.yield (h.next + 2)) [.int .i64 x] g fun r g' => r = .bool true ∧ RInv h l tmps (j + 1) g' := by
  obtain ⟨hF, ⟨y, hc, oy, _⟩, hdid, hlid, hnext⟩ := hI
  have hj : j < l.length := (List.getElem?_eq_some_iff.1 hx).1
  refine ev_yield hlid rfl rfl goAssignComp114_0 goBodyComp114_0 ?_
  simp only [goAssignC114_0, wpC_ops, wpOps_row, evS_move, CO.evS_t, wpN_okV, wpOps_nil, setS, Kass]
  refine ⟨_, hlid, rfl, ?_⟩
  generalize hgb : g.set (h.next + 2) _ = gb
  have nb : gb.next = g.next := by rw [← hgb]; rfl
  have gbo : ∀ i, i ≠ h.next + 2 → gb.get i = g.get i := fun i hi => by rw [← hgb]; exact get_set_old hi
  have gbl : gb.get (h.next + 2) = some (.loop { state := .busy, pending := none, n := 13, tmps := tmps, params := #[7], assign := goAssign 114 0, body := goBody 114 0 }) := by rw [← hgb]; exact get_set_new _ _
  have oyb : Own (h.next + 3) gb 1 j y (iv (l.take j)) := by rw [← hgb]; exact oy.set _ (oy.ne (by omega))
  have ly : load1 gb h.next 0 = .ok y := by
    rw [load1_of (vs := [y]) (ro := false) (by rw [gbo _ (by omega)]; exact hc)]; rfl
  have fp := Fr.push (.refl gb) (.cells [.int .i64 x] false)
  have oy2 := oyb.fr fp
  have hsl : Sl (gb.push (.cells [.int .i64 x] false)) 1 1 (.slice gb.next 0 1 1 true 1) [.int .i64 x] :=
    (Own.fresh (B := 0) (h := gb) true (Nat.zero_le _) rfl).sl
  obtain ⟨x', h3, a1, a2, a3, a4, a5⟩ := oy2.append (bytes := 8) hsl (by simp; omega) rfl (by omega) (by omega)
  have low : ∀ i, i < h.next + 3 → h3.get i = gb.get i := fun i hi => by
    rw [a3.get i hi, get_push_old (by omega)]
  have hn3 : gb.next + 1 ≤ h3.next := by have := a3.next; simpa using this
  have st : storeN h3 h.next 0 [x'] = .ok (h3.set h.next (.cells [x'] false)) := by
    rw [storeN_one (vs := [y]) (by rw [low _ (by omega), gbo _ (by omega)]; exact hc) (by simp) a2.sl.oneCell.2]; rfl
  have fin : Own (h.next + 3) ((h3.set h.next (.cells [x'] false)).set (h.next + 2) (.loop { state := .ready, pending := none, n := 13, tmps := tmps, params := #[7], assign := goAssign 114 0, body := goBody 114 0 })) 1 (j + 1) x' (iv (l.take (j + 1))) := by
    have e : iv (l.take (j + 1)) = iv (l.take j) ++ [.int .i64 x] := by rw [take_succ_snoc l j x hx, iv_append]; rfl
    rw [e]
    exact (a2.set _ (a2.ne (by omega))).set _ (a2.ne (by omega))
  have hcl := a2.sl.oneCell.1
  simp [goBodyC114_0, h2, ly, splice_eq, a1, hcl, st, Kend]
  refine ⟨_, (get_set_old (by omega)).trans ((low _ (by omega)).trans gbl), ?_⟩
  have g4 : ∀ i, i < h.next + 2 → i ≠ h.next → ((h3.set h.next (.cells [x'] false)).set (h.next + 2) (.loop { state := .ready, pending := none, n := 13, tmps := tmps, params := #[7], assign := goAssign 114 0, body := goBody 114 0 })).get i = g.get i := fun i h1 h2 => by
    rw [get_set_old (by omega), get_set_old h2, low _ (by omega), gbo _ (by omega)]
  refine ⟨⟨by simp; omega, fun i hi => (g4 i (by omega) (by omega)).trans (hF.get i hi)⟩, ⟨x', ?_, fin, by omega⟩, ?_, ?_, by simp; omega⟩
  · rw [get_set_old (by omega), get_set_new]
  · rw [g4 _ (by omega) (by omega)]; exact hdid
  · exact get_set_new _ _

end Go.Proofs.YthkoheaklmgonaaDoor
