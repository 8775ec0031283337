import Derived.Test.YthkoheaklmgonaaDoorBfC
namespace Go.Proofs.YthkoheaklmgonaaDoor
open Go Go.Dr
set_option maxRecDepth 100000

def numsB (l : List Int) : List Nat := (l.map fun n => be 8 (u64 n)).flatten

theorem numsB_take (l : List Int) (j : Nat) (hj : j < l.length) : numsB (l.take (j + 1)) = numsB (l.take j) ++ be 8 (u64 l[j]) := by
  unfold numsB
  rw [List.take_add_one, List.getElem?_eq_getElem hj, Option.toList_some, List.map_append, List.flatten_append, List.map_singleton, List.flatten_singleton]

theorem numsB_length : ∀ l : List Int, (numsB l).length = l.length * 8
  | [] => rfl
  | x :: l => by
    have := numsB_length l
    simp only [numsB, List.map_cons, List.flatten_cons, List.length_append, be_length, List.length_cons] at this ⊢
    omega

/-- a footer as bytes -/
def encB (f : Ft) (ps : List Int) : List Nat := numsB f.fl ++ (ps.length :: numsB ps)

/-- what a footer is written as -/
def EncPost (h : AH) (f : Ft) (ps : List Int) (r : AV) (h' : AH) : Prop :=
  Fr h h' ∧ ((canB f ps = true ∧ ∃ b, r = .tuple [b, .int .i64 0] ∧ Own h.next h' 1 (57 + ps.length * 8) b (by8 (encB f ps))) ∨ (canB f ps = false ∧ r = .tuple [.nils, .int .i64 1]))

theorem canB_few {f : Ft} {ps : List Int} (h : canB f ps = true) : ps.length ≤ 3 := by
  simp only [canB, Bool.and_eq_true, decide_eq_true_eq] at h
  exact h.2.2.2.2.2.2.2.2.2.1

theorem enc6 {h : AH} {f : Ft} {ps : List Int} (hp : Sl h 1 ps.length f.par (iv ps)) (hn : ps.length ≤ 9223372036854775807) : Ev Tryd.prog SB (.fn 6) [.agg f.cells] h (EncPost h f ps) := by
  refine ev_fn comp6 rfl rfl ?_
  have hp1 := hp.fr (Fr.push (.refl h) (.cells f.cells false))
  have lN : loadN (h.push (.cells f.cells false)) h.next 0 8 = .ok f.cells := loadN_of (get_push_new _) rfl
  have f1 : Fr h ((h.push (.cells f.cells false)).push (.cells f.cells false)) := (Fr.push (.refl h) _).push _
  cases hc : canB f ps
  · simp [cc6, lN, can21 hp1 hn, hc, EncPost, f1]
  have h3 := canB_few hc
  have ld : ∀ c, load1 ((h.push (.cells f.cells false)).push (.cells f.cells false)) h.next c = ofO "load: out of the known cells" f.cells[c]? := fun c => load1_of (by rw [get_push_old (by simp), get_push_new])
  have ld0 : load1 ((h.push (.cells f.cells false)).push (.cells f.cells false)) h.next 0 = .ok (.int .i64 f.num) := ld 0
  have ld1 : load1 ((h.push (.cells f.cells false)).push (.cells f.cells false)) h.next 1 = .ok (.int .i64 f.gen) := ld 1
  have ld2 : load1 ((h.push (.cells f.cells false)).push (.cells f.cells false)) h.next 2 = .ok (.int .i64 f.level) := ld 2
  have ld3 : load1 ((h.push (.cells f.cells false)).push (.cells f.cells false)) h.next 3 = .ok (.int .i64 f.rank) := ld 3
  have ld4 : load1 ((h.push (.cells f.cells false)).push (.cells f.cells false)) h.next 4 = .ok (.int .i64 f.min) := ld 4
  have ld5 : load1 ((h.push (.cells f.cells false)).push (.cells f.cells false)) h.next 5 = .ok (.int .i64 f.max) := ld 5
  have ld6 : load1 ((h.push (.cells f.cells false)).push (.cells f.cells false)) h.next 6 = .ok (.int .i64 f.bytes) := ld 6
  have lp : ∀ g, Fr ((h.push (.cells f.cells false)).push (.cells f.cells false)) g → load1 g h.next 7 = .ok f.par := fun g hg => by
    rw [load1_of (vs := f.cells) (ro := false) (by rw [hg.get _ (by simp; omega), get_push_old (by simp), get_push_new])]; rfl
  generalize hh1 : (h.push (.cells f.cells false)).push (.cells f.cells false) = h1 at *
  simp [cc6, lN, can21 hp1 hn, hc, hh1, ld0, ld1, ld2, ld3, ld4, ld5, ld6, splice_eq]
  have hB : h.next ≤ h1.next := f1.next
  refine w_count (n := 7) (by rfl) (fun i σ ds g => ds = [] ∧ σ 1 = .ptr h.next 0 ∧ σ 26 = .agg (iv f.fl) ∧ Fr h1 g ∧ ∃ b, σ 4 = b ∧ Own h1.next g 1 (i * 8) b (by8 (numsB (f.fl.take i)))) (by omega) (by simp) ?_ (fun _ _ _ _ _ => rfl) ?_ ?_
  · simp [Fr.refl, iv, Ft.fl, numsB]
    exact Own.nil _ _
  · rintro i σ ds g hi7 hi ⟨rfl, e1, e26, hg, b, e4, ho⟩
    have hil : i < f.fl.length := hi7
    have htk := numsB_take f.fl i hil
    have x1 : opIndex true 7 1 (.agg (iv f.fl)) (.int .i64 (i : Int)) = .ok (.int .i64 f.fl[i]) := by
      simp only [opIndex]
      rw [if_pos ⟨by omega, by omega⟩]
      simp [aggOne, iv_get, List.getElem?_eq_getElem hil]
    generalize f.fl[i] = x at htk x1
    have ho2 := ho.fr (Fr.push (.refl g) (.cells (by8 (be 8 (u64 x))) false))
    have hsl : Sl (g.push (.cells (by8 (be 8 (u64 x))) false)) 1 8 (.slice g.next 0 8 8 true 1) (by8 (be 8 (u64 x))) := (Own.fresh (B := 0) true (Nat.zero_le _) (by simp)).sl
    obtain ⟨b', g', a1, a2, a3, _, _⟩ := ho2.append (bytes := 1) hsl (by have := hg.next; simp; omega) (by8_scalar _) (by omega) (by omega)
    simp [e1, e26, e4, hi, x1, wrap_u, put22_8 _ (u64_lt x), a1]
    refine ⟨⟨?_, ?_⟩, ?_⟩
    · have := a3.next; have := hg.next; simp at *; omega
    · intro k hk
      rw [a3.get k hk, get_push_old (by have := hg.next; omega)]
      exact hg.get k hk
    · rw [htk, show (i + 1) * 8 = i * 8 + 8 from by omega]
      simpa [by8_append] using a2
  · rintro σ ds g ⟨rfl, e1, e26, hg, b, e4, ho⟩
    rw [show f.fl.take 7 = f.fl from rfl] at ho
    have w8 : wrapF .u8 (ps.length : Int) = (ps.length : Int) := wrap_u8 (by omega) (by omega)
    have hsl : Sl (g.push (.cells [.int .u8 (ps.length : Int)] false)) 1 1 (.slice g.next 0 1 1 true 1) (by8 [ps.length]) := (Own.fresh (B := 0) true (Nat.zero_le _) rfl).sl
    obtain ⟨b', g', a1, a2, a3, _, _⟩ := (ho.fr (Fr.push (.refl g) (.cells [.int .u8 (ps.length : Int)] false))).append (bytes := 1) hsl (by have := hg.next; simp; omega) (by8_scalar _) (by omega) (by omega)
    have hg' : Fr h1 g' := ⟨by have := a3.next; have := hg.next; simp at *; omega, fun k hk => by
      rw [a3.get k hk, get_push_old (by have := hg.next; omega)]
      exact hg.get k hk⟩
    simp [e1, e4, lp g hg, lp g' hg', hp.len, w8, splice_eq, a1]
    refine w_count (n := ps.length) (by rfl) (fun j σ ds g => ds = [] ∧ σ 44 = f.par ∧ σ 45 = .int .i64 (ps.length : Int) ∧ Fr h1 g ∧ ∃ b, σ 4 = b ∧ Own h1.next g 1 (57 + j * 8) b (by8 (numsB f.fl ++ (ps.length :: numsB (ps.take j))))) (by omega) (by simp) ?_ (fun j σ ds h' hJ => by simp [hJ.2.2.1]) ?_ ?_
    · simp [hg', numsB]
      simpa [by8_append, numsB] using a2
    · rintro j σ ds g2 hj hi ⟨rfl, e44, e45, hg2, b2, e4, ho2⟩
      have htk := numsB_take ps j hj
      obtain ⟨id, o, x1, x2, _⟩ := (hp.fr (f1.trans hg2)).get1 (k := .i64) (i := (j : Int)) rfl hj (x := .int .i64 ps[j]) (by rw [iv_get, List.getElem?_eq_getElem hj]; rfl)
      generalize ps[j] = x at htk x1 x2
      have ho3 := ho2.fr (Fr.push (.refl g2) (.cells (by8 (be 8 (u64 x))) false))
      have hsl : Sl (g2.push (.cells (by8 (be 8 (u64 x))) false)) 1 8 (.slice g2.next 0 8 8 true 1) (by8 (be 8 (u64 x))) := (Own.fresh (B := 0) true (Nat.zero_le _) (by simp)).sl
      obtain ⟨b3, g3, c1, c2, c3, _, _⟩ := ho3.append (bytes := 1) hsl (by have := hg2.next; simp; omega) (by8_scalar _) (by omega) (by omega)
      simp [e44, e45, e4, hi, x1, x2, wrap_u, put22_8 _ (u64_lt x), c1]
      refine ⟨⟨?_, ?_⟩, ?_⟩
      · have := c3.next; have := hg2.next; simp at *; omega
      · intro k hk
        rw [c3.get k hk, get_push_old (by have := hg2.next; omega)]
        exact hg2.get k hk
      · rw [htk, show 57 + (j + 1) * 8 = 57 + j * 8 + 8 from by omega]
        simpa [by8_append, by8] using c2
    · rintro σ ds g2 ⟨rfl, e44, e45, hg2, b2, e4, ho2⟩
      rw [List.take_length] at ho2
      simp [e4, EncPost, hc, f1.trans hg2]
      exact ho2.base hB

end Go.Proofs.YthkoheaklmgonaaDoor
