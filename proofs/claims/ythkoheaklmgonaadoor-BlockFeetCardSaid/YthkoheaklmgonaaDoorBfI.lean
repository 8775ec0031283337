import Derived.Test.YthkoheaklmgonaaDoorBfH
namespace Go.Proofs.YthkoheaklmgonaaDoor
open Go Go.Dr
set_option maxRecDepth 100000

def Ft.withP (f : Ft) (p : AV) : Ft := { f with par := p }

theorem same11 {h : AH} {f : Ft} {p q : AV} {ps : List Int} {n : Nat} (hp : Sl h 1 n p (iv ps)) (hq : Sl h 1 n q (iv ps)) (hn : n < 2 ^ 62) (K : AV → AH → Prop) :
    Ev Tryd.prog SB (.fn 11) [.agg (f.withP p).cells, .agg (f.withP q).cells] h K = K (.bool true) ((h.push (.cells (f.withP p).cells false)).push (.cells (f.withP q).cells false)) := by
  refine Ev.eq (ev_fn comp11 rfl rfl ?_) K
  have ff : Fr h ((h.push (.cells (f.withP p).cells false)).push (.cells (f.withP q).cells false)) := (Fr.push (.refl h) _).push _
  have ld : ∀ c, load1 ((h.push (.cells (f.withP p).cells false)).push (.cells (f.withP q).cells false)) h.next c = ofO "load: out of the known cells" (f.withP p).cells[c]? := fun c => load1_of (by rw [get_push_old (by simp), get_push_new])
  have ld' : ∀ c, load1 ((h.push (.cells (f.withP p).cells false)).push (.cells (f.withP q).cells false)) (h.next + 1) c = ofO "load: out of the known cells" (f.withP q).cells[c]? := fun c => load1_of (get_push_new _)
  have eq := equal19 (hp.fr ff) (hq.fr ff) hn
  simp only [Ft.cells, Ft.withP] at ld ld' eq
  simp [cc11, Ft.cells, Ft.withP, ld, ld', eq]

open Classical in
noncomputable def encE (f : Ft) (ps : List Int) : Int := if canB f ps = true then 0 else 1
open Classical in
noncomputable def encL (f : Ft) (ps : List Int) : List Nat := if canB f ps = true then encB f ps else []
open Classical in
noncomputable def dE (bs : List Nat) : Int := if decOk bs then 0 else 5
open Classical in
noncomputable def dF (bs : List Nat) : Ft := if decOk bs then decFt bs .nils else zeroFt
open Classical in
noncomputable def dPs (bs : List Nat) : List Int := if decOk bs then decP bs else []

theorem encB_length (f : Ft) (ps : List Int) : (encB f ps).length = 57 + ps.length * 8 := by
  rw [encB, List.length_append, numsB_length, List.length_cons, numsB_length]
  simp only [Ft.fl, List.length_cons, List.length_nil]
  omega

theorem EncPost.get {h h' : AH} {f : Ft} {ps : List Int} {r : AV} (p : EncPost h f ps r h') : Fr h h' ∧ ∃ x, r = .tuple [x, .int .i64 (encE f ps)] ∧ Own h.next h' 1 (encL f ps).length x (by8 (encL f ps)) := by
  obtain ⟨ff, ⟨h1, b, rfl, ho⟩ | ⟨hno, rfl⟩⟩ := p
  · refine ⟨ff, b, ?_, ?_⟩
    · rw [encE, if_pos h1]
    · rw [encL, if_pos h1, encB_length]; exact ho
  · refine ⟨ff, .nils, ?_, ?_⟩
    · rw [encE, if_neg (by rw [hno]; simp)]
    · rw [encL, if_neg (by rw [hno]; simp)]; exact Own.nil _ _

theorem DecPost.get {h h' : AH} {bs : List Nat} {r : AV} (p : DecPost h bs r h') : Fr h h' ∧ ∃ p, r = .tuple [.agg ((dF bs).withP p).cells, .int .i64 (dE bs)] ∧ Sl h' 1 (dPs bs).length p (iv (dPs bs)) := by
  obtain ⟨ff, ⟨h1, b, rfl, ho⟩ | ⟨hno, rfl⟩⟩ := p
  · refine ⟨ff, b, ?_, ?_⟩
    · rw [dE, if_pos h1, dF, if_pos h1]; rfl
    · rw [dPs, if_pos h1]; exact ho
  · refine ⟨ff, .nils, ?_, ?_⟩
    · rw [dE, if_neg hno, dF, if_neg hno]; rfl
    · rw [dPs, if_neg hno]; exact Sl.nil _

theorem dPs_few (bs : List Nat) : (dPs bs).length ≤ 3 := by
  unfold dPs
  split
  · rename_i h; exact canB_few h.2.2
  · simp

def inI64 (n : Int) : Prop := -9223372036854775808 ≤ n ∧ n < 9223372036854775808

theorem wrap_back {n : Int} (h : inI64 n) : wrapF .i64 (u64 n : Int) = n := by
  obtain ⟨h1, h2⟩ := h
  rw [wrapF_eq, IntKind.wrap_i64]
  unfold u64
  omega

theorem numsB_at (l : List Int) (i : Nat) (hi : i < l.length) : ((numsB l).drop (8 * i)).take 8 = be 8 (u64 l[i]) := by
  have := (flat_get (l.map fun n => be 8 (u64 n)) 8 (by simp)).2 i (be 8 (u64 l[i])) (by simp [hi])
  rw [Nat.mul_comm]
  exact this

theorem g8_nums (l : List Int) (hl : ∀ n ∈ l, inI64 n) (i : Nat) (hi : i < l.length) : g8 (numsB l) i = l[i] := by
  unfold g8
  rw [numsB_at l i hi, beV_be, Nat.mod_eq_of_lt (by have := u64_lt l[i]; simpa using this)]
  exact wrap_back (hl _ (List.getElem_mem hi))

theorem dec_enc {f : Ft} {ps : List Int} (hc : canB f ps = true) (hf : ∀ n ∈ f.fl, inI64 n) (hp : ∀ n ∈ ps, inI64 n) :
    dE (encB f ps) = 0 ∧ dF (encB f ps) = f.withP .nils ∧ dPs (encB f ps) = ps := by
  have h7 : (numsB f.fl).length = 56 := by rw [numsB_length]; rfl
  have h1 : (encB f ps).take 56 = numsB f.fl := List.take_left' h7
  have h2 : (encB f ps).drop 57 = numsB ps := by
    rw [encB, show (57 : Nat) = 56 + 1 from rfl, ← List.drop_drop, List.drop_left' h7]; rfl
  have h3 : decM (encB f ps) = ps.length := by
    rw [decM, encB, List.getD_eq_getElem?_getD, List.getElem?_append_right (by omega), h7]; rfl
  have h4 : decP (encB f ps) = ps := by
    rw [decP, h3, h2]
    refine List.ext_getElem (by simp) fun i a b => ?_
    simp only [rd8, List.getElem_map, List.getElem_range]
    exact g8_nums ps hp i b
  have h5 : decFt (encB f ps) .nils = f.withP .nils := by
    rw [decFt, h1]
    have g : ∀ i (hi : i < 7), g8 (numsB f.fl) i = f.fl[i]'hi := fun i hi => g8_nums f.fl hf i hi
    rw [g 0 (by omega), g 1 (by omega), g 2 (by omega), g 3 (by omega), g 4 (by omega), g 5 (by omega), g 6 (by omega)]
    rfl
  have ok : decOk (encB f ps) := by
    refine ⟨by rw [encB_length]; omega, by rw [encB_length, h3]; omega, ?_⟩
    rw [h5, h4]
    exact hc
  exact ⟨by rw [dE, if_pos ok], by rw [dF, if_pos ok, h5], by rw [dPs, if_pos ok, h4]⟩

theorem numsB_lt (l : List Int) : ∀ x ∈ numsB l, x < 256 := by
  intro x hx
  simp only [numsB, List.mem_flatten, List.mem_map] at hx
  obtain ⟨_, ⟨n, _, rfl⟩, hx⟩ := hx
  exact be_lt _ _ x hx

theorem encL_lt (f : Ft) (ps : List Int) : ∀ x ∈ encL f ps, x < 256 := by
  intro x hx
  unfold encL at hx
  split at hx
  · rename_i h
    rw [encB, List.mem_append, List.mem_cons] at hx
    rcases hx with hx | hx | hx
    · exact numsB_lt _ x hx
    · have := canB_few h; omega
    · exact numsB_lt _ x hx
  · cases hx

theorem store_new {h : AH} {f : Ft} (hp : f.par.scalar = true) :
    opStore 8 (.ptr h.next 0) (.agg f.cells) (h.push (.cells [.int .i64 0, .int .i64 0, .int .i64 0, .int .i64 0, .int .i64 0, .int .i64 0, .int .i64 0, .nils] false)) = skipH (.ok (h.push (.cells f.cells false))) := by
  rw [store_cells hp (get_push_new _) rfl, AH.set_push]

theorem law3 {h : AH} {f : Ft} {ps : List Int} {v : AV} {bs : List Nat} {n : Nat} (hpar : Sl h 1 ps.length f.par (iv ps)) (hn : ps.length ≤ 9223372036854775807) (hf : ∀ n ∈ f.fl, inI64 n) (hp : ∀ n ∈ ps, inI64 n)
    (hv : Sl h 1 n v (by8 bs)) (hb : ∀ x ∈ bs, x < 256) : Ev Tryd.prog SB (.fn 3) [.agg f.cells, v] h (fun r h' => r = .bool true ∧ Fr h h') := by
  refine ev_fn comp3 rfl rfl ?_
  have f0 : Fr h (h.push (.cells f.cells false)) := Fr.push (.refl h) _
  have lf : ∀ g, Fr (h.push (.cells f.cells false)) g → loadN g h.next 0 8 = .ok f.cells := fun g hg => loadN_of (by rw [hg.get _ (by simp)]; exact get_push_new _) rfl
  have lf0 := lf _ (.refl _)
  simp only [cc3, wpC_seq, wpC_ops, wpOps_row, wpOps_nil, evS_box, evS_move, evS_loadN, evS_callV, CO.evS_t, CO.evS_c, evLS_nil, evLS_cons, opNew_eq, AV.cells_agg, opLoadN_ptr, lf0, wpN_okV, Kseq_normal, upd_some, argS_0, Nat.reduceEqDiff, if_true, if_false, callVal_fn, List.nil_append, List.append_nil, wpN_enter]
  refine (enc6 (hpar.fr f0) hn).mono ?_
  rintro r6 h1 p6
  obtain ⟨f1, x, rfl, o6⟩ := p6.get
  have lf1 := lf h1 f1
  simp [lf1]
  refine (enc7 (hpar.fr (f0.trans f1)) hn).mono ?_
  rintro r7 h2 p7
  obtain ⟨f2, y, rfl, o7⟩ := p7.get
  simp
  refine (dec8 (hv.fr (f0.trans (f1.trans f2))) hb).mono ?_
  rintro r8 h3 p8
  obtain ⟨f3, p, rfl, sp⟩ := p8.get
  have st3 := store_new (h := h3) (f := (dF bs).withP p) sp.oneCell.2
  generalize hP : (dF bs).withP p = P8 at *
  simp [st3]
  have f3' : Fr h2 (h3.push (.cells P8.cells false)) := f3.push _
  refine (dec9 (hv.fr (f0.trans (f1.trans (f2.trans f3')))) hb).mono ?_
  rintro r9 h4 p9
  obtain ⟨f4, q, rfl, sq⟩ := p9.get
  have st4 := store_new (h := h4) (f := (dF bs).withP q) sq.oneCell.2
  generalize hQ : (dF bs).withP q = P9 at *
  have f4' : Fr (h3.push (.cells P8.cells false)) (h4.push (.cells P9.cells false)) := f4.push _
  have l8 : loadN (h4.push (.cells P9.cells false)) h3.next 0 8 = .ok P8.cells := loadN_of (by rw [f4'.get _ (by simp)]; exact get_push_new _) rfl
  have l9 : loadN (h4.push (.cells P9.cells false)) h4.next 0 8 = .ok P9.cells := loadN_of (get_push_new _) rfl
  have eL : (encL f ps).length < 2 ^ 62 := by
    unfold encL
    split
    · rw [encB_length]; rename_i h; have := canB_few h; omega
    · simp
  have ex := equal10 (h := h4.push (.cells P9.cells false)) (o6.sl.fr (f2.trans (f3'.trans f4'))) (o7.sl.fr (f3'.trans f4')) eL
  have sm := same11 (h := h4.push (.cells P9.cells false)) (f := dF bs) (sp.fr ((Fr.push (.refl h3) _).trans f4')) (sq.fr (Fr.push (.refl h4) _)) (by have := dPs_few bs; omega)
  rw [hP, hQ] at sm
  simp [st4, ex, l8, l9, sm]
  generalize hh5 : ((h4.push (.cells P9.cells false)).push (.cells P8.cells false)).push (.cells P9.cells false) = h5
  have f5 : Fr h4 h5 := by rw [← hh5]; exact ((Fr.push (.refl h4) _).push _).push _
  have f15 : Fr h1 h5 := f2.trans (f3'.trans (f4.trans f5))
  have hlt := encL_lt f ps
  refine (dec8 (o6.sl.fr f15) hlt).mono ?_
  rintro r10 h6 p10
  obtain ⟨f6, s, rfl, ss⟩ := p10.get
  have st6 := store_new (h := h6) (f := (dF (encL f ps)).withP s) ss.oneCell.2
  have fF : Fr (h.push (.cells f.cells false)) (h6.push (.cells ((dF (encL f ps)).withP s).cells false)) := (f1.trans (f15.trans f6)).push _
  cases hcan : canB f ps
  · have hE : encE f ps = 1 := if_neg (by rw [hcan]; simp)
    simp [st6, hE, ev_closed]
    exact f0.trans fF
  · have hE : encE f ps = 0 := if_pos hcan
    have hL : encL f ps = encB f ps := if_pos hcan
    obtain ⟨d1, d2, d3⟩ := dec_enc hcan hf hp
    simp only [hL] at st6 fF ss ⊢
    rw [d2] at st6 fF
    rw [d3] at ss
    have hwf : (f.withP .nils).withP s = f.withP s := rfl
    rw [hwf] at st6 fF
    have hff : f.withP f.par = f := rfl
    have lf6 := lf _ fF
    have l6 : loadN (h6.push (.cells (f.withP s).cells false)) h6.next 0 8 = .ok (f.withP s).cells := loadN_of (get_push_new _) rfl
    have sm2 := same11 (h := h6.push (.cells (f.withP s).cells false)) (f := f) (ss.fr (Fr.push (.refl h6) _)) (hpar.fr (f0.trans fF)) (by have := canB_few hcan; omega)
    rw [hff] at sm2
    simp [d1, d2, hwf, st6, hE, lf6, l6, sm2, ev_closed]
    exact ((f0.trans fF).push _).push _

end Go.Proofs.YthkoheaklmgonaaDoor
