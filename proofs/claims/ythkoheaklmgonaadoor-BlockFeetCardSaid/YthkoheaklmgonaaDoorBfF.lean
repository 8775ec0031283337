import Derived.Test.YthkoheaklmgonaaDoorBfE
namespace Go.Proofs.YthkoheaklmgonaaDoor
open Go Go.Dr
set_option maxRecDepth 100000

/-- the number in eight bytes -/
def g8 (bs : List Nat) (i : Nat) : Int := wrapF .i64 (beV ((bs.drop (8 * i)).take 8) : Int)
def rd8 (k : Nat) (bs : List Nat) : List Int := (List.range k).map fun j => g8 bs j
theorem rd8_succ (k : Nat) (bs : List Nat) : rd8 (k + 1) bs = rd8 k bs ++ [g8 bs k] := by simp [rd8, List.range_succ]
@[simp] theorem rd8_length (k : Nat) (bs : List Nat) : (rd8 k bs).length = k := by simp [rd8]

/-- what stands in the heap as numbers are read -/
structure RInv (h : AH) (v : AV) (bs : List Nat) (tmps : PT AV) (j : Nat) (g : AH) : Prop where
  fr : Fr h g
  cell : ∃ x, g.get h.next = some (.cells [x] false) ∧ Own (h.next + 5) g 1 j x (iv (rd8 j bs))
  ps : g.get (h.next + 1) = some (.cells [v] false)
  pn : g.get (h.next + 2) = some (.cells [.int .i64 8] false)
  did : g.get (h.next + 3) = some (.deferred (some []))
  lid : g.get (h.next + 4) = some (.loop { state := .ready, pending := none, n := 21, tmps := tmps, params := #[9], assign := goAssign 25 0, body := goBody 25 0 })
  next : h.next + 5 ≤ g.next

theorem round25 {h : AH} {v u : AV} {bs : List Nat} {tmps : PT AV} {j k : Nat} {g : AH} (h3 : valT tmps 3 = .ptr h.next 0) (hb : ∀ x ∈ bs, x < 256) (hk : k ≤ 1000) (hj : j < k) (hI : RInv h v bs tmps j g)
    (hu : Sl g 1 8 u (by8 ((bs.drop (8 * j)).take 8))) : Ev Tryd.prog SB (.yield (h.next + 4)) [u] g fun r g' => r = .bool true ∧ RInv h v bs tmps (j + 1) g' := by
  obtain ⟨hF, ⟨x, hc, ox⟩, hps, hpn, hdid, hlid, hnext⟩ := hI
  refine ev_yield hlid rfl rfl goAssignComp25_0 goBodyComp25_0 ?_
  simp only [goAssignC25_0, wpC_ops, wpOps_row, evS_move, CO.evS_t, wpN_okV, wpOps_nil, setS, Kass]
  refine ⟨_, hlid, rfl, ?_⟩
  have hcd : ∀ x ∈ (bs.drop (8 * j)).take 8, x < 256 := fun x hx => hb x (List.mem_of_mem_drop (List.mem_of_mem_take hx))
  have hg : wrapF .i64 (beV ((bs.drop (8 * j)).take 8) : Int) = g8 bs j := rfl
  generalize hgb : g.set (h.next + 4) _ = gb
  have nb : gb.next = g.next := by rw [← hgb]; rfl
  have gbo : ∀ i, i ≠ h.next + 4 → gb.get i = g.get i := fun i hi => by rw [← hgb]; exact get_set_old hi
  have gbl : gb.get (h.next + 4) = some (.loop { state := .busy, pending := none, n := 21, tmps := tmps, params := #[9], assign := goAssign 25 0, body := goBody 25 0 }) := by rw [← hgb]; exact get_set_new _ _
  have oxb : Own (h.next + 5) gb 1 j x (iv (rd8 j bs)) := by rw [← hgb]; exact ox.set _ (ox.ne (by omega))
  have hub : Sl gb 1 8 u (by8 ((bs.drop (8 * j)).take 8)) := by
    refine ⟨hu.1, ?_⟩
    rcases hu.2 with e | ⟨id, off, cap, x, vs, ro, e1, e2, e6, e3, e4, e5⟩
    · exact .inl e
    · exact .inr ⟨id, off, cap, x, vs, ro, e1, by rw [nb]; exact e2, e6, by rw [gbo _ (by intro e; rw [e, hlid] at e3; cases e3)]; exact e3, e4, e5⟩
  have gt := get27 hub hcd (by omega) (by omega)
  have lx : load1 gb h.next 0 = .ok x := by
    rw [load1_of (vs := [x]) (ro := false) (by rw [gbo _ (by omega)]; exact hc)]; rfl
  have fp := Fr.push (.refl gb) (.cells [.int .i64 (g8 bs j)] false)
  have hsl : Sl (gb.push (.cells [.int .i64 (g8 bs j)] false)) 1 1 (.slice gb.next 0 1 1 true 1) (iv [g8 bs j]) := (Own.fresh (B := 0) true (Nat.zero_le _) rfl).sl
  obtain ⟨x', h3', a1, a2, a3, a4, a5⟩ := (oxb.fr fp).append (bytes := 8) hsl (by simp; omega) (iv_scalar _) (by omega) (by omega)
  have low : ∀ i, i < h.next + 5 → h3'.get i = gb.get i := fun i hi => by
    rw [a3.get i hi, get_push_old (by omega)]
  have hn3 : gb.next + 1 ≤ h3'.next := by have := a3.next; simpa using this
  have st : storeN h3' h.next 0 [x'] = .ok (h3'.set h.next (.cells [x'] false)) := by
    rw [storeN_one (vs := [x]) (by rw [low _ (by omega), gbo _ (by omega)]; exact hc) (by simp) a2.sl.oneCell.2]; rfl
  have fin : Own (h.next + 5) ((h3'.set h.next (.cells [x'] false)).set (h.next + 4) (.loop { state := .ready, pending := none, n := 21, tmps := tmps, params := #[9], assign := goAssign 25 0, body := goBody 25 0 })) 1 (j + 1) x' (iv (rd8 (j + 1) bs)) := by
    rw [rd8_succ, iv_append]
    exact (a2.set _ (a2.ne (by omega))).set _ (a2.ne (by omega))
  have hcl := a2.sl.oneCell.1
  simp [goBodyC25_0, h3, gt, hg, lx, splice_eq, a1, hcl, st, Kend]
  refine ⟨_, (get_set_old (by omega)).trans ((low _ (by omega)).trans gbl), ?_⟩
  have g4 : ∀ i, i < h.next + 4 → i ≠ h.next → ((h3'.set h.next (.cells [x'] false)).set (h.next + 4) (.loop { state := .ready, pending := none, n := 21, tmps := tmps, params := #[9], assign := goAssign 25 0, body := goBody 25 0 })).get i = g.get i := fun i h1 h2 => by
    rw [get_set_old (by omega), get_set_old h2, low _ (by omega), gbo _ (by omega)]
  refine ⟨⟨by simp; omega, fun i hi => (g4 i (by omega) (by omega)).trans (hF.get i hi)⟩, ⟨x', ?_, fin⟩, ?_, ?_, ?_, ?_, by simp; omega⟩
  · rw [get_set_old (by omega), get_set_new]
  · rw [g4 _ (by omega) (by omega)]; exact hps
  · rw [g4 _ (by omega) (by omega)]; exact hpn
  · rw [g4 _ (by omega) (by omega)]; exact hdid
  · exact get_set_new _ _

theorem of25 {h : AH} {v : AV} {bs : List Nat} {k : Nat} (hv : Sl h 1 (8 * k) v (by8 bs)) (hb : ∀ x ∈ bs, x < 256) (hk : k ≤ 1000) :
    Ev Tryd.prog SB (.fn 25) [v] h fun r h' => Fr h h' ∧ Own h.next h' 1 k r (iv (rd8 k bs)) := by
  refine ev_fn comp25 rfl rfl ?_
  simp [cc25, chunk26 hv.oneCell.1]
  rw [wpC_go]
  simp only [CO.evS_t, upd_some, Nat.reduceEqDiff, if_true, if_false, wpGo_func, List.nil_append, AH.next_push]
  intro tmps ht
  have h3 : valT tmps 3 = .ptr h.next 0 := by rw [ht]; rfl
  simp only [Nat.add_assoc, Nat.reduceAdd]
  generalize hg0 : ((((h.push (.cells [.nils] false)).push (.cells [v] false)).push (.cells [.int .i64 8] false)).push (.deferred (some []))).push (.loop _) = g0
  have hI0 : RInv h v bs tmps 0 g0 := by
    subst hg0
    refine ⟨((((Fr.push (.refl h) _).push _).push _).push _).push _, ⟨.nils, ?_, by simpa [rd8, iv] using Own.nil _ _⟩, ?_, ?_, ?_, ?_, by simp⟩
    · rw [get_push_old (by simp <;> omega), get_push_old (by simp <;> omega), get_push_old (by simp <;> omega), get_push_old (by simp), get_push_new]
    · rw [get_push_old (by simp <;> omega), get_push_old (by simp <;> omega), get_push_old (by simp)] <;> exact get_push_new _
    · rw [get_push_old (by simp <;> omega), get_push_old (by simp)] <;> exact get_push_new _
    · rw [get_push_old (by simp)] <;> exact get_push_new _
    · exact get_push_new _
  refine (chunk51 hk (RInv h v bs tmps) (fun j g hI => ⟨?_, ?_, hv.fr hI.fr⟩) (fun j g u hj hI hu => round25 h3 hb hk hj hI hu) hI0).mono ?_
  · rw [load1_of hI.ps]; rfl
  · rw [load1_of hI.pn]; rfl
  rintro _ g ⟨hF, ⟨x, hc, ox⟩, hps, hpn, hdid, hlid, hnext⟩
  refine ⟨_, by simpa only [Nat.add_assoc, Nat.reduceAdd] using hlid, by simp, ?_⟩
  simp
  simp only [show h.next + 3 + 1 = h.next + 4 from rfl]
  generalize hg1 : g.set (h.next + 4) _ = g1
  have o1 : ∀ i, i ≠ h.next + 4 → g1.get i = g.get i := fun i hi => by rw [← hg1]; exact get_set_old hi
  have n1 : g1.next = g.next := by rw [← hg1]; rfl
  have ox1 : Own (h.next + 5) g1 1 k x (iv (rd8 k bs)) := by rw [← hg1]; exact ox.set _ (ox.ne (by omega))
  have lx : load1 g1 h.next 0 = .ok x := by
    rw [load1_of (vs := [x]) (ro := false) (by rw [o1 _ (by omega)]; exact hc)]; rfl
  have hF1 : Fr h g1 := ⟨by rw [n1]; exact hF.next, fun i hi => (o1 i (by omega)).trans (hF.get i hi)⟩
  have hd2 : g1.get (h.next + 3) = some (.deferred (some [])) := by rw [o1 _ (by omega)]; exact hdid
  have hF2 : Fr h (g1.set (h.next + 3) (.deferred none)) := hF1.set _ (by omega)
  have ox2 : Own h.next (g1.set (h.next + 3) (.deferred none)) 1 k x (iv (rd8 k bs)) := (ox1.set _ (ox1.ne (by omega))).base (by omega)
  simp [lx, Kfin_ret_ds, Defers_collected, hd2, hF2, ox2]

end Go.Proofs.YthkoheaklmgonaaDoor
