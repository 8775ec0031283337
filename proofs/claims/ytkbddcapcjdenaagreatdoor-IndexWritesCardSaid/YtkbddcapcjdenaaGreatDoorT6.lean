/-
  Texts joined: IyM4, IyM5, IyM6, IyE, DrApp, IyN1, IyN2, IyR1, IyR2, IyR3, IyR4, IyR5, IyR6, IyR7, IyChunk9, IyW, TrykSort0, IyCmp, IySum, IwJ, DrArgZ, IwI.
-/
import Derived.Test.YtkbddcapcjdenaaGreatDoorT5
import Derived.Test.YtkbddcapcjdenaaGreatDoorT4
import Derived.Shelf.SortM.Plain
import Derived.Shelf.SortM.SortNone
import Derived.Shelf.SlSortCmp.WholeK
import Derived.Shelf.SlSortCmp.NoneTotal
import Derived.Shelf.SlicesG.Cmp
import Derived.Ground.SlgmProg
import Derived.Ground.SlsfProg
import Derived.Ground.SlgcProg
import Derived.Test.YtkbddcapcjdenaaGreatDoorProg
import Derived.StillTailTactics
import Derived.Test.YtkbddcapcjdenaaGreatDoorRows
import Derived.Test.YtkbddcapcjdenaaGreatDoorCards
import Derived.Test.YtkbddcapcjdenaaGreatDoorTie
import Derived.Test.YtkbddcapcjdenaaGreatDoorT2
import Derived.Lib.LaidIn
import Derived.SevenTiedAt
import Derived.SizedLaws

namespace Go.Dk
open Go Go.Dr
set_option maxRecDepth 100000

/-- the words of labels -/
def wordsL (T : List Txt) (l : List Lab) : List AV := l.flatMap fun k => [wA (pl T k.1 : Int) 4, wA (pl T k.2 : Int) 4]
theorem wordsL_len (T : List Txt) (l : List Lab) : (wordsL T l).length = 2 * l.length := by
  unfold wordsL
  induction l with
  | nil => rfl
  | cons x l ih => rw [List.flatMap_cons, List.length_append, ih]; simp; omega
/-- the events of an entry's labels -/
def evL (T : List Txt) (e : Nat) (l : List Lab) : List ((Nat × Nat) × Nat) := l.map fun k => ((pl T k.1, pl T k.2), e)

def Shorter (c : Nat) (mm : List ((Nat × Nat) × List Nat)) : Prop := ∀ (n : Nat) (p : Nat × Nat) (l : List Nat), mm[n]? = some (p, l) → l.length ≤ c
theorem Shorter.add {c : Nat} {mm : List ((Nat × Nat) × List Nat)} (h : Shorter c mm) (e : (Nat × Nat) × Nat) : Shorter (c + 1) (addP mm e) := by
  have key : ∀ x ∈ addP mm e, x.2.length ≤ c + 1 := by
    have h0 : ∀ x ∈ mm, x.2.length ≤ c := fun x hx => by
      obtain ⟨n, hn1, hn2⟩ := List.mem_iff_getElem.1 hx
      exact h n x.1 x.2 (by rw [List.getElem?_eq_getElem hn1, hn2])
    clear h
    induction mm with
    | nil => intro x hx; simp [addP] at hx; subst hx; simp
    | cons y mm ih =>
      intro x hx
      unfold addP at hx
      split at hx
      · rcases List.mem_cons.1 hx with rfl | hx
        · have := h0 y List.mem_cons_self
          simp; omega
        · have := h0 x (List.mem_cons_of_mem _ hx); omega
      · rcases List.mem_cons.1 hx with rfl | hx
        · have := h0 x List.mem_cons_self; omega
        · exact ih (fun z hz => h0 z (List.mem_cons_of_mem _ hz)) x hx
  intro n p l hl
  exact key (p, l) (List.mem_of_getElem? hl)

/-- an entry's labels: words, and places -/
theorem items_3i {Q : Post} {σ : Sg} {h g0 : AH} {m2 m3 n e c : Nat} {lv ov : AV} {ls : List Lab} {T : List Txt} {os : List AV} {kvs : List ((Nat × Nat) × AV)} {mm : List ((Nat × Nat) × List Nat)}
    (h9 : σ 9 = .map m2) (h13 : σ 13 = .map m3) (h10 : σ 10 = ov) (h14 : σ 14 = .int .i64 (e : Int)) (h93 : σ 93 = lv) (h94 : σ 94 = .int .i64 (n : Int)) (h95 : σ 95 = .int .i64 0)
    (hs : Sl h 2 n lv (ls.flatMap labC)) (hn : n ≤ 8) (f0 : Fr h g0) (hb : h.next ≤ m2) (hpm : MapO AV.str g0 m2 (plKV T)) (hT : T.Nodup) (hmem : ∀ k ∈ ls, k.1 ∈ T ∧ k.2 ∈ T)
    (hI : I3 (m2 + 1) g0 m3 ov os kvs mm) (hsh : Shorter c mm) (hc : c ≤ 2 ^ 29) (hol : os.length ≤ 2 ^ 29)
    (hQ : ∀ σ' g' ov' kvs', σ' 10 = ov' → (∀ t, t ≠ 10 → t ≠ 17 → t ≠ 18 → (t < 95 ∨ 127 < t) → σ' t = σ t) → FrB (m2 + 1) g0 g' → I3 (m2 + 1) g' m3 ov' (os ++ wordsL T ls) kvs' ((evL T e ls).foldl addP mm) → Shorter (c + n) ((evL T e ls).foldl addP mm) →
      (∀ z, Pr m3 z g0 ov kvs → Pr m3 z g' ov' kvs' ∧ g'.get z = g0.get z) → Q .normal σ' [] g') :
    wpC P SI c_items_3i Q σ [] g0 := by
  have hl := lab_len hs
  simp only [c_items_3i, wpC_block]
  refine w_count (n := n) (by rfl) (fun j σ' ds g => ds = [] ∧ (∀ t, t ≠ 10 → t ≠ 17 → t ≠ 18 → (t < 95 ∨ 127 < t) → σ' t = σ t) ∧ FrB (m2 + 1) g0 g ∧ Shorter (c + j) ((evL T e (ls.take j)).foldl addP mm) ∧ ∃ kvs', I3 (m2 + 1) g m3 (σ' 10) (os ++ wordsL T (ls.take j)) kvs' ((evL T e (ls.take j)).foldl addP mm) ∧
      ∀ z, Pr m3 z g0 ov kvs → Pr m3 z g (σ' 10) kvs' ∧ g.get z = g0.get z) (by omega) h95
    ⟨rfl, fun _ _ _ _ _ => rfl, .refl _ _, by simpa [evL] using hsh, kvs, by simpa [evL, wordsL, h10] using hI, fun z hz => ⟨by rw [h10]; exact hz, rfl⟩⟩ ?_ ?_ ?_
  · rintro j σ' ds g ⟨rfl, hσ, _⟩
    simp [hσ 94 (by omega) (by omega) (by omega) (by omega), h94]
  · rintro j σ' ds g hj hi ⟨rfl, hσ, fb, hshj, kv1, hIj, hpr⟩
    obtain ⟨⟨nm, vl⟩, hx⟩ := at_some (l := ls) (j := j) (by omega)
    have fr : Fr h g := ⟨by have := f0.next; have := fb.next; omega, fun i hi' => by rw [fb.get i (by omega)]; exact f0.get i hi'⟩
    obtain ⟨i1, o1, a1, a2, _⟩ := lab_at (hs.fr fr) (k := .i64) (i := (j : Int)) rfl hx
    obtain ⟨hT1, hT2⟩ := hmem _ (List.mem_of_getElem? hx)
    have e9 := (hσ 9 (by omega) (by omega) (by omega) (by omega)).trans h9
    have e13 := (hσ 13 (by omega) (by omega) (by omega) (by omega)).trans h13
    have e14 := (hσ 14 (by omega) (by omega) (by omega) (by omega)).trans h14
    have e93 := (hσ 93 (by omega) (by omega) (by omega) (by omega)).trans h93
    obtain ⟨ov1, hov⟩ : ∃ ov1, σ' 10 = ov1 := ⟨_, rfl⟩
    rw [hov] at hIj hpr
    have hlo := hIj.lo
    have hlt := hIj.lt
    have hpmg : MapO AV.str g m2 (plKV T) := by show g.get m2 = _; rw [fb.get m2 (by omega)]; exact hpm
    have stn := opStore_new (h := g) (n := 2) (z := [.str [], .str []]) (l := [.str nm, .str vl]) rfl rfl rfl
    have I1 := hIj.push (.cells [.str nm, .str vl] false)
    have ge : (g.push (.cells [.str nm, .str vl] false)).get g.next = some (.cells [.str nm, .str vl] false) := get_push_new _
    have gn : (g.push (.cells [.str nm, .str vl] false)).next = g.next + 1 := rfl
    have hp1 : MapO AV.str (g.push (.cells [.str nm, .str vl] false)) m2 (plKV T) := by show (g.push _).get m2 = _; rw [get_push_old (by omega)]; exact hpmg
    have go1 : ∀ z, z < g.next → (g.push (.cells [.str nm, .str vl] false)).get z = g.get z := fun z hz => get_push_old (by omega)
    generalize hg1 : g.push (.cells [.str nm, .str vl] false) = g1 at *
    have m0 : load1 g1 g.next 0 = .ok (.str nm) := load1_of ge
    have m1 : load1 g1 g.next 1 = .ok (.str vl) := load1_of ge
    have k1 := hp1.lookup_some keyT (z := .int .i64 0) (plKV_get (pl_get hT1)) (by rw [plKV_keys]; exact hT)
    have k2 := hp1.lookup_some keyT (z := .int .i64 0) (plKV_get (pl_get hT2)) (by rw [plKV_keys]; exact hT)
    obtain ⟨a, ha⟩ : ∃ a, pl T nm = a := ⟨_, rfl⟩
    obtain ⟨b, hb'⟩ : ∃ b, pl T vl = b := ⟨_, rfl⟩
    rw [ha] at k1
    rw [hb'] at k2
    have stn2 := opStore_new (h := g1) (n := 2) (z := [.int .i64 0, .int .i64 0]) (l := [.int .i64 (a : Int), .int .i64 (b : Int)]) rfl rfl rfl
    have I2 := I1.push (.cells [.int .i64 (a : Int), .int .i64 (b : Int)] false)
    have ge2 : (g1.push (.cells [.int .i64 (a : Int), .int .i64 (b : Int)] false)).get g1.next = some (.cells [.int .i64 (a : Int), .int .i64 (b : Int)] false) := get_push_new _
    have gn2 : (g1.push (.cells [.int .i64 (a : Int), .int .i64 (b : Int)] false)).next = g1.next + 1 := rfl
    have go2 : ∀ z, z < g1.next → (g1.push (.cells [.int .i64 (a : Int), .int .i64 (b : Int)] false)).get z = g1.get z := fun z hz => get_push_old (by omega)
    generalize hg2 : g1.push (.cells [.int .i64 (a : Int), .int .i64 (b : Int)] false) = g2 at *
    have p0 : load1 g2 g1.next 0 = .ok (.int .i64 (a : Int)) := load1_of ge2
    have p1 : load1 g2 g1.next 1 = .ok (.int .i64 (b : Int)) := load1_of ge2
    have hwl := wordsL_len T (ls.take j)
    rw [List.length_take, Nat.min_eq_left (by omega)] at hwl
    obtain ⟨ov2, g3, b1, I3', b3, b4⟩ := I2.app (k := 2) (ws := [wA (a : Int) 4, wA (b : Int) 4]) rfl rfl (by rw [List.length_append, hwl]; omega)
    have prz : Pr m3 g1.next g2 ov1 kv1 := ⟨by omega, by omega, fun hid => by have := (own_id_lt hIj.own hid).2; omega, fun i p v hv hid => by
      obtain ⟨l2, hl2⟩ : ∃ l2, ((evL T e (ls.take j)).foldl addP mm)[i]? = some (p, l2) := by
        have e1 : (((evL T e (ls.take j)).foldl addP mm).map (·.1))[i]? = some p := by rw [← hIj.keys]; simp [hv]
        rw [List.getElem?_map] at e1
        obtain ⟨y, hy, rfl⟩ := Option.map_eq_some_iff.1 e1
        exact ⟨y.2, hy⟩
      have := (own_id_lt (hIj.vals i p v l2 hv hl2).1 hid).2
      omega⟩
    have gz := (b4 _ prz).2
    have p2 : loadN g3 g1.next 0 2 = .ok [.int .i64 (a : Int), .int .i64 (b : Int)] := loadN_of (by rw [gz]; exact ge2) rfl
    obtain ⟨v, st, g4, v', g5, g6, kv2, c1, c2, c3, c4, c5, c6⟩ := I3'.add (a, b) e (fun n p l h => Nat.le_trans (hshj n p l h) (by omega))
    have hz3 : .agg [.int .i64 (a : Int), .int .i64 (b : Int)] = kP (a, b) := rfl
    simp only [labC] at a2
    simp only [wA] at b1
    simp [hi, e9, e13, e14, e93, hov, a1, a2, opLoadN, stn, m0, m1, k1, k2, splice_eq, stn2, p0, p1, b1, p2]
    have c1' := c1
    unfold kP at c1'
    simp [hi, c1', c2, c3]
    have hsnoc : evL T e (ls.take (j + 1)) = evL T e (ls.take j) ++ [((a, b), e)] := by
      rw [take_snoc _ _ _ hx]; simp [evL, ha, hb']
    have hwsn : wordsL T (ls.take (j + 1)) = wordsL T (ls.take j) ++ [wA (a : Int) 4, wA (b : Int) 4] := by
      rw [take_snoc _ _ _ hx]; simp [wordsL, ha, hb']
    refine ⟨fun t h1 h2 h3 h4 => ?_, ?_, ?_, kv2, ?_, fun z hz => ?_⟩
    · repeat rw [if_neg (by omega)]
      exact hσ t h1 h2 h3 h4
    · refine fb.trans (FrB.trans ⟨by omega, fun i hi' => ?_⟩ (b3.trans c5))
      rw [go2 i (by omega), go1 i (by omega)]
    · rw [hsnoc, List.foldl_append]
      exact hshj.add _
    · rw [hsnoc, hwsn, List.foldl_append, ← List.append_assoc]
      exact c4
    · obtain ⟨q1, q2⟩ := hpr z hz
      have zl := q1.1
      have q3 : Pr m3 z g2 ov1 kv1 := ⟨by omega, q1.2.1, q1.2.2.1, q1.2.2.2⟩
      obtain ⟨r1, r2⟩ := b4 z q3
      obtain ⟨s1, s2⟩ := c6 z r1
      exact ⟨s1, by rw [s2, r2, go2 z (by omega), go1 z zl, q2]⟩
  · rintro σ' ds g ⟨rfl, hσ, fb, hshj, kv1, hIj, hpr⟩
    rw [List.take_of_length_le (by omega)] at hIj hshj
    simp
    exact hQ _ g (σ' 10) kv1 (by simp) (fun t h1 h2 h3 h4 => by simp only [upd_some]; rw [if_neg (by omega)]; exact hσ t h1 h2 h3 h4) fb hIj hshj hpr

/-- the words of an entry -/
def wordsE (T : List Txt) (x : Ep) : List AV := wA (x.ls.length : Int) 1 :: wordsL T x.ls ++ [wA x.sz 4, wA x.mn 8, wA x.mx 8]
theorem wordsE_len (T : List Txt) (x : Ep) (h : x.ls.length ≤ 8) : (wordsE T x).length ≤ 20 := by
  simp only [wordsE, List.cons_append, List.length_cons, List.length_append, wordsL_len, List.length_nil]; omega
theorem wordsE_len_all (T : List Txt) : ∀ l : List Ep, (∀ x ∈ l, x.ls.length ≤ 8) → (l.flatMap (wordsE T)).length ≤ 20 * l.length
  | [], _ => by simp
  | x :: l, h => by
    rw [List.flatMap_cons, List.length_append, List.length_cons]
    have h1 := wordsE_len T x (h x List.mem_cons_self)
    have h2 := wordsE_len_all T l (fun y hy => h y (List.mem_cons_of_mem _ hy))
    omega
/-- the events of entries -/
def evE (T : List Txt) : Nat → List Ep → List ((Nat × Nat) × Nat)
  | _, [] => []
  | i, x :: l => evL T i x.ls ++ evE T (i + 1) l
theorem evE_snoc (T : List Txt) : ∀ (l : List Ep) (i : Nat) (x : Ep), evE T i (l ++ [x]) = evE T i l ++ evL T (i + l.length) x.ls
  | [], i, x => by simp [evE]
  | y :: l, i, x => by
    simp only [List.cons_append, evE, evE_snoc T l (i + 1) x, List.length_cons, List.append_assoc]
    rw [show i + 1 + l.length = i + (l.length + 1) by omega]

/-- all entries: words, and places -/
theorem items_3 {Q : Post} {σ : Sg} {h g0 : AH} {m2 m3 n : Nat} {v ov : AV} {xs : List (AV × Ep)} {T : List Txt} {os : List AV}
    (h9 : σ 9 = .map m2) (h13 : σ 13 = .map m3) (h10 : σ 10 = ov) (h77 : σ 77 = v) (h78 : σ 78 = .int .i64 (n : Int)) (h79 : σ 79 = .int .i64 0)
    (hs : Sl h 5 n v (xs.flatMap enC)) (hn : n ≤ 100000) (he : ∀ x ∈ xs, EnOk h x ∧ x.2.ls.length ≤ 8) (f0 : Fr h g0) (hb : h.next ≤ m2) (hpm : MapO AV.str g0 m2 (plKV T)) (hT : T.Nodup)
    (hmem : ∀ x ∈ xs, ∀ k ∈ x.2.ls, k.1 ∈ T ∧ k.2 ∈ T) (hI : I3 (m2 + 1) g0 m3 ov os [] []) (hol : os.length ≤ 2 ^ 28)
    (hQ : ∀ σ' g' ov' kvs', σ' 10 = ov' → (∀ t, t ≠ 10 → t ≠ 14 → t ≠ 15 → t ≠ 17 → t ≠ 18 → (t < 79 ∨ 143 < t) → σ' t = σ t) → FrB (m2 + 1) g0 g' → I3 (m2 + 1) g' m3 ov' (os ++ (xs.map (·.2)).flatMap (wordsE T)) kvs' (gath (evE T 0 (xs.map (·.2)))) → Q .normal σ' [] g') :
    wpC P SI c_items_3 Q σ [] g0 := by
  have hl : xs.length = n := by have := hs.1; rw [en_len] at this; omega
  simp only [c_items_3, wpC_block]
  refine w_count (n := n) (by rfl) (fun j σ' ds g => ds = [] ∧ (∀ t, t ≠ 10 → t ≠ 14 → t ≠ 15 → t ≠ 17 → t ≠ 18 → (t < 79 ∨ 143 < t) → σ' t = σ t) ∧ FrB (m2 + 1) g0 g ∧ Shorter (8 * j) (gath (evE T 0 ((xs.take j).map (·.2)))) ∧ ∃ kvs', I3 (m2 + 1) g m3 (σ' 10) (os ++ ((xs.take j).map (·.2)).flatMap (wordsE T)) kvs' (gath (evE T 0 ((xs.take j).map (·.2))))) (by omega) h79
    ⟨rfl, fun _ _ _ _ _ _ _ => rfl, .refl _ _, fun n p l hl => by simp [evE, gath] at hl, [], by simpa [evE, gath, h10] using hI⟩ ?_ ?_ ?_
  · rintro j σ' ds g ⟨rfl, hσ, _⟩
    simp [hσ 78 (by omega) (by omega) (by omega) (by omega) (by omega) (by omega), h78]
  · rintro j σ' ds g hj hi ⟨rfl, hσ, fb, hshj, kv1, hIj⟩
    obtain ⟨x, hx⟩ := at_some (l := xs) (j := j) (by omega)
    have hxm := List.mem_of_getElem? hx
    obtain ⟨hok, hl8⟩ := he x hxm
    have fr : Fr h g := ⟨by have := f0.next; have := fb.next; omega, fun i hi' => by rw [fb.get i (by omega)]; exact f0.get i hi'⟩
    obtain ⟨id, o, a1, a2, _⟩ := en_at (hs.fr fr) hx
    have okg := hok.fr fr
    have hlc := Sl.oneCell okg
    have e9 := (hσ 9 (by omega) (by omega) (by omega) (by omega) (by omega) (by omega)).trans h9
    have e13 := (hσ 13 (by omega) (by omega) (by omega) (by omega) (by omega) (by omega)).trans h13
    have e77 := (hσ 77 (by omega) (by omega) (by omega) (by omega) (by omega) (by omega)).trans h77
    obtain ⟨ov1, hov⟩ : ∃ ov1, σ' 10 = ov1 := ⟨_, rfl⟩
    rw [hov] at hIj
    have hlo := hIj.lo
    have hlt := hIj.lt
    have stn := opStore_new (h := g) (n := 5) (z := [.nils, .int .i64 0, .int .i64 0, .int .i64 0, .int .i64 0]) (l := enC x) rfl rfl (by simp [enC, allScalar, hlc.2])
    have I1 := hIj.push (.cells (enC x) false)
    have f1 : Fr h (g.push (.cells (enC x) false)) := fr.push _
    have ge : (g.push (.cells (enC x) false)).get g.next = some (.cells (enC x) false) := get_push_new _
    have gn : (g.push (.cells (enC x) false)).next = g.next + 1 := rfl
    have go1 : ∀ z, z < g.next → (g.push (.cells (enC x) false)).get z = g.get z := fun z hz => get_push_old (by omega)
    generalize hg1 : g.push (.cells (enC x) false) = g1 at *
    have m0 : load1 g1 g.next 0 = .ok x.1 := load1_of ge
    have lv1 : opLenV x.1 = .ok (.int .i64 (x.2.ls.length : Int)) := (hok.fr f1).len
    have hwl : (((xs.take j).map (·.2)).flatMap (wordsE T)).length ≤ 20 * j := by
      have := wordsE_len_all T ((xs.take j).map (·.2)) (fun y hy => by
        obtain ⟨z, hz, rfl⟩ := List.mem_map.1 hy
        exact (he z (List.mem_of_mem_take hz)).2)
      rwa [List.length_map, List.length_take, Nat.min_eq_left (by omega)] at this
    have prz : Pr m3 g.next g1 ov1 kv1 := ⟨by omega, by omega, fun hid => by have := (own_id_lt hIj.own hid).2; omega, fun i p v hv hid => by
      obtain ⟨l2, hl2⟩ : ∃ l2, (gath (evE T 0 ((xs.take j).map (·.2))))[i]? = some (p, l2) := by
        have e1 : ((gath (evE T 0 ((xs.take j).map (·.2)))).map (·.1))[i]? = some p := by rw [← hIj.keys]; simp [hv]
        rw [List.getElem?_map] at e1
        obtain ⟨y, hy, rfl⟩ := Option.map_eq_some_iff.1 e1
        exact ⟨y.2, hy⟩
      have := (own_id_lt (hIj.vals i p v l2 hv hl2).1 hid).2
      omega⟩
    obtain ⟨ov2, g2, b1, I2, b3, b4⟩ := I1.app (k := 1) (ws := [wA (x.2.ls.length : Int) 1]) rfl rfl (by rw [List.length_append]; omega)
    obtain ⟨prz2, gz2⟩ := b4 _ prz
    have m0' : load1 g2 g.next 0 = .ok x.1 := load1_of (id := g.next) (vs := enC x) (ro := false) (by rw [gz2]; exact ge)
    have fb2 : FrB (m2 + 1) g0 g2 := fb.trans (FrB.trans ⟨by omega, fun i hi' => go1 i (by omega)⟩ b3)
    have f2 : Fr h g2 := ⟨by have := f0.next; have := fb2.next; omega, fun i hi' => by rw [fb2.get i (by omega)]; exact f0.get i hi'⟩
    have lv2 : opLenV x.1 = .ok (.int .i64 (x.2.ls.length : Int)) := lv1
    simp only [wA] at b1
    simp only [wpC_seq]
    simp [hi, e77, hov, a1, opLoadN, a2, stn, m0, lv1, splice_eq, b1, m0']
    refine items_3i (h := h) (m2 := m2) (m3 := m3) (n := x.2.ls.length) (e := j) (c := 8 * j) (lv := x.1) (ov := ov2) (ls := x.2.ls) (T := T) (os := (os ++ ((xs.take j).map (·.2)).flatMap (wordsE T)) ++ [wA (x.2.ls.length : Int) 1]) (kvs := kv1) (mm := gath (evE T 0 ((xs.take j).map (·.2))))
      (by simp [e9]) (by simp [e13]) (by simp) (by simp) (by simp) (by simp) (by simp) hok hl8 f2 hb (by show g2.get m2 = _; rw [fb2.get m2 (by omega)]; exact hpm) hT (hmem x hxm) I2 hshj (by omega) (by simp only [List.length_append, List.length_singleton]; omega) ?_
    intro σ3 g3 ov3 kv3 h310 hσ3 fb3 I3' hsh3 hpr3
    obtain ⟨prz3, gz3⟩ := hpr3 _ prz2
    have ge3 : g3.get g.next = some (.cells (enC x) false) := by rw [gz3, gz2]; exact ge
    have q2 : load1 g3 g.next 2 = .ok (.int .i64 x.2.sz) := load1_of (id := g.next) (vs := enC x) (ro := false) ge3
    have q3 : load1 g3 g.next 3 = .ok (.int .i64 x.2.mn) := load1_of (id := g.next) (vs := enC x) (ro := false) ge3
    have q4 : load1 g3 g.next 4 = .ok (.int .i64 x.2.mx) := load1_of (id := g.next) (vs := enC x) (ro := false) ge3
    have e15 : σ3 15 = .ptr g.next 0 := by rw [hσ3 15 (by omega) (by omega) (by omega) (by omega)]; simp
    have e79 : σ3 79 = .int .i64 (j : Int) := by rw [hσ3 79 (by omega) (by omega) (by omega) (by omega)]; simp [hi]
    have hw3 := wordsL_len T x.2.ls
    obtain ⟨ov4, g4, d1, I4, d3, d4⟩ := I3'.app (k := 3) (ws := [wA x.2.sz 4, wA x.2.mn 8, wA x.2.mx 8]) rfl rfl (by simp only [List.length_append, List.length_singleton]; omega)
    simp only [wA] at d1
    simp [e15, e79, h310, q2, q3, q4, splice_eq, d1]
    have hsn : (xs.take (j + 1)).map (·.2) = (xs.take j).map (·.2) ++ [x.2] := by rw [take_snoc _ _ _ hx]; simp
    have hev : gath (evE T 0 ((xs.take (j + 1)).map (·.2))) = (evL T j x.2.ls).foldl addP (gath (evE T 0 ((xs.take j).map (·.2)))) := by
      rw [hsn, evE_snoc, gath, gath, List.foldl_append, List.length_map, List.length_take, Nat.min_eq_left (by omega), Nat.zero_add]
    rw [← List.map_take]
    refine ⟨fun t h1 h2 h3 h4 h5 h6 => ?_, ?_, ?_, kv3, ?_⟩
    · repeat rw [if_neg (by omega)]
      rw [hσ3 t (by omega) (by omega) (by omega) (by omega)]
      simp only [upd_some]
      repeat rw [if_neg (by omega)]
      exact hσ t h1 h2 h3 h4 h5 h6
    · exact fb2.trans (fb3.trans d3)
    · rw [hev]
      intro n p l hl
      have := hsh3 n p l hl
      omega
    · rw [hev, hsn, List.flatMap_append]
      have : wordsE T x.2 = [wA (x.2.ls.length : Int) 1] ++ wordsL T x.2.ls ++ [wA x.2.sz 4, wA x.2.mn 8, wA x.2.mx 8] := rfl
      simp only [List.flatMap_cons, List.flatMap_nil, List.append_nil, this]
      simp only [List.append_assoc] at I4 ⊢
      exact I4
  · rintro σ' ds g ⟨rfl, hσ, fb, hshj, kv1, hIj⟩
    rw [List.take_of_length_le (by omega)] at hIj
    simp
    exact hQ _ g (σ' 10) kv1 (by simp) (fun t h1 h2 h3 h4 h5 h6 => by simp only [upd_some]; rw [if_neg (by omega)]; exact hσ t h1 h2 h3 h4 h5 h6) fb hIj

end Go.Dk

namespace Go.Dk
open Go Go.Dr
set_option maxRecDepth 100000

/-! ### the pairs, sorted -/

def iP (p : Nat × Nat) : Int × Int := ((p.1 : Int), (p.2 : Int))
/-- pairs sorted -/
def srtP (ks : List (Nat × Nat)) : List (Nat × Nat) := (srt2 cfP (ks.map iP)).map fun z => (z.1.toNat, z.2.toNat)
theorem srtP_int (ks : List (Nat × Nat)) : (srtP ks).map iP = srt2 cfP (ks.map iP) := by
  unfold srtP
  rw [List.map_map]
  have : ∀ z ∈ srt2 cfP (ks.map iP), (iP ∘ fun z : Int × Int => (z.1.toNat, z.2.toNat)) z = z := by
    intro z hz
    obtain ⟨p, _, rfl⟩ := List.mem_map.1 ((srt2_perm cfP _).mem_iff.1 hz)
    simp [iP]
  rw [List.map_congr_left this, List.map_id'']
  intro z; rfl
theorem srtP_mem (ks : List (Nat × Nat)) (p : Nat × Nat) : p ∈ srtP ks ↔ p ∈ ks := by
  have h1 : p ∈ srtP ks ↔ iP p ∈ (srtP ks).map iP := by
    constructor
    · intro h; exact List.mem_map.2 ⟨p, h, rfl⟩
    · intro h
      obtain ⟨q, hq, e⟩ := List.mem_map.1 h
      have : q = p := by
        obtain ⟨q1, q2⟩ := q
        obtain ⟨p1, p2⟩ := p
        simp only [iP, Prod.mk.injEq] at e
        exact Prod.ext (by simp; omega) (by simp; omega)
      rw [← this]; exact hq
  rw [h1, srtP_int, (srt2_perm cfP _).mem_iff]
  constructor
  · intro h
    obtain ⟨q, hq, e⟩ := List.mem_map.1 h
    have : q = p := by
      obtain ⟨q1, q2⟩ := q
      obtain ⟨p1, p2⟩ := p
      simp only [iP, Prod.mk.injEq] at e
      exact Prod.ext (by simp; omega) (by simp; omega)
    rw [← this]; exact hq
  · intro h; exact List.mem_map.2 ⟨p, h, rfl⟩
theorem srtP_len (ks : List (Nat × Nat)) : (srtP ks).length = ks.length := by simp [srtP, srt2_length]
theorem srtP_asc {ks : List (Nat × Nat)} (hn : ks.Nodup) : (srtP ks).Pairwise lt2 := by
  have h1 := srt2_pairwise swoP (ks.map iP)
  have hnd : (srt2 cfP (ks.map iP)).Nodup := by
    refine (srt2_perm cfP _).nodup_iff.2 ?_
    refine List.pairwise_map.2 (hn.imp fun {a b} hab e => hab ?_)
    obtain ⟨a1, a2⟩ := a
    obtain ⟨b1, b2⟩ := b
    simp only [iP, Prod.mk.injEq] at e
    exact Prod.ext (by simp; omega) (by simp; omega)
  rw [← srtP_int] at h1 hnd
  have h3 : ((srtP ks).map iP).Pairwise fun x y => (x.1 < y.1 ∨ x.1 = y.1 ∧ x.2 < y.2) := by
    refine (h1.and hnd).imp fun {x y} h => ?_
    obtain ⟨h1, h2⟩ := h
    rw [ltP] at h1
    simp only [Bool.not_eq_true', decide_eq_false_iff_not] at h1
    have : ¬ (x.1 = y.1 ∧ x.2 = y.2) := fun e => h2 (Prod.ext e.1 e.2)
    omega
  refine (List.pairwise_map.1 h3).imp fun {a b} h => ?_
  simp only [iP] at h
  unfold lt2
  omega

theorem fl2_flat' (l : List (Int × Int)) : fl2 .i64 .i64 l = l.flatMap fun z => [AV.int .i64 z.1, AV.int .i64 z.2] := by
  induction l with
  | nil => rfl
  | cons z l ih => rw [List.flatMap_cons, ← ih]; rfl

theorem eqAV_pair (a b : Int) : eqAV 12 (.agg [.int .i64 a, .int .i64 b]) (.agg [.int .i64 a, .int .i64 b]) = true := by
  show Bool.and (decide (IntKind.i64 = IntKind.i64) && decide (a = a)) (Bool.and (decide (IntKind.i64 = IntKind.i64) && decide (b = b)) true) = true
  simp

/-- the slice at a pair -/
def valK (kvs : List ((Nat × Nat) × AV)) (p : Nat × Nat) : AV := match kvs.find? (fun x => x.1 = p) with | some x => x.2 | none => .nils
theorem valK_get : ∀ {kvs : List ((Nat × Nat) × AV)} {n : Nat} {p : Nat × Nat} {v : AV}, kvs[n]? = some (p, v) → (kvs.map (·.1)).Nodup → valK kvs p = v
  | [], _, _, _, h, _ => by simp at h
  | x :: l, 0, p, v, h, _ => by simp at h; subst h; simp [valK]
  | x :: l, n + 1, p, v, h, hn => by
    simp only [List.getElem?_cons_succ] at h
    simp only [List.map_cons, List.nodup_cons] at hn
    have hne : ¬ x.1 = p := fun e => hn.1 (by rw [e]; exact List.mem_map.2 ⟨(p, v), List.mem_of_getElem? h, rfl⟩)
    have := valK_get h hn.2
    simp only [valK, List.find?_cons, hne, decide_false] at this ⊢
    exact this
/-- what is written of the lists -/
def wordsP (kvs : List ((Nat × Nat) × AV)) (S : List (Nat × Nat)) : List AV := S.flatMap fun p => [wA (p.1 : Int) 4, wA (p.2 : Int) 4, .iface t_index_places (valK kvs p)]
theorem wordsP_len (kvs : List ((Nat × Nat) × AV)) (S : List (Nat × Nat)) : (wordsP kvs S).length = 3 * S.length := by
  unfold wordsP
  induction S with
  | nil => rfl
  | cons x l ih => rw [List.flatMap_cons, List.length_append, ih]; simp; omega

theorem Sl.same_get {es n : Nat} {g g' : AH} {v : AV} {l : List AV} (s : Sl g es n v l) (hn : g.next ≤ g'.next) (p : ∀ id, idOf v = some id → g'.get id = g.get id) : Sl g' es n v l := by
  refine ⟨s.1, ?_⟩
  rcases s.2 with e | ⟨i, off, cap, x, vs, ro, e1, e2, e3, e4, e5, e6⟩
  · exact .inl e
  · exact .inr ⟨i, off, cap, x, vs, ro, e1, Nat.lt_of_lt_of_le e2 hn, e3, by rw [p i (by rw [e1]; rfl)]; exact e4, e5, e6⟩

/-- the lists are written -/
theorem items_4 {Q : Post} {σ : Sg} {g0 : AH} {B m3 n : Nat} {u ov : AV} {S : List (Nat × Nat)} {os : List AV} {kvs : List ((Nat × Nat) × AV)} {mm : List ((Nat × Nat) × List Nat)}
    (h13 : σ 13 = .map m3) (h10 : σ 10 = ov) (h147 : σ 147 = u) (h148 : σ 148 = .int .i64 (n : Int)) (h149 : σ 149 = .int .i64 0)
    (hI : I3 B g0 m3 ov os kvs mm) (hu : Sl g0 2 n u (fl2 .i64 .i64 (S.map iP))) (hpr : ∀ id, idOf u = some id → Pr m3 id g0 ov kvs) (hn : n ≤ 2 ^ 28) (hol : os.length ≤ 2 ^ 28) (hS : ∀ p ∈ S, p ∈ kvs.map (·.1))
    (hQ : ∀ σ' g' ov', σ' 10 = ov' → FrB B g0 g' → I3 B g' m3 ov' (os ++ wordsP kvs S) kvs mm → Q .normal σ' [] g') :
    wpC P SI c_items_4 Q σ [] g0 := by
  have hl : S.length = n := by have := hu.1; rw [fl2_length, List.length_map] at this; omega
  rw [fl2_flat'] at hu
  simp only [c_items_4, wpC_block]
  refine w_count (n := n) (by rfl) (fun j σ' ds g => ds = [] ∧ (∀ t, t ≠ 10 → t ≠ 21 → t < 149 → σ' t = σ t) ∧ FrB B g0 g ∧ I3 B g m3 (σ' 10) (os ++ wordsP kvs (S.take j)) kvs mm ∧ ∀ id, idOf u = some id → Pr m3 id g (σ' 10) kvs ∧ g.get id = g0.get id) (by omega) h149
    ⟨rfl, fun _ _ _ _ => rfl, .refl _ _, by simpa [wordsP, h10] using hI, fun id hid => ⟨by rw [h10]; exact hpr id hid, rfl⟩⟩ ?_ ?_ ?_
  · rintro j σ' ds g ⟨rfl, hσ, _⟩
    simp [hσ 148 (by omega) (by omega) (by omega), h148]
  · rintro j σ' ds g hj hi ⟨rfl, hσ, fb, hIj, hprj⟩
    obtain ⟨⟨a, b⟩, hx⟩ := at_some (l := S) (j := j) (by omega)
    have hug := Sl.same_get hu fb.next (fun id hid => (hprj id hid).2)
    obtain ⟨i1, o1, a1, a2, _⟩ := hug.elem (fun _ _ => rfl) (by omega) (k := .i64) (i := (j : Int)) rfl (x := iP (a, b)) (by simp [hx])
    have e13 := (hσ 13 (by omega) (by omega) (by omega)).trans h13
    have e147 := (hσ 147 (by omega) (by omega) (by omega)).trans h147
    obtain ⟨ov1, hov⟩ : ∃ ov1, σ' 10 = ov1 := ⟨_, rfl⟩
    rw [hov] at hIj hprj
    have hlo := hIj.lo
    have hlt := hIj.lt
    have hndk : (kvs.map (·.1)).Nodup := by rw [hIj.keys]; exact hIj.nd
    obtain ⟨q, hq1, hq2⟩ := List.mem_iff_getElem.1 (hS _ (List.mem_of_getElem? hx))
    simp only [List.length_map] at hq1
    simp only [List.getElem_map] at hq2
    obtain ⟨v, hv⟩ : ∃ v, kvs[q]? = some ((a, b), v) := ⟨kvs[q].2, by rw [List.getElem?_eq_getElem hq1, ← hq2]⟩
    obtain ⟨l, hl2⟩ : ∃ l, mm[q]? = some ((a, b), l) := by
      have e1 : (mm.map (·.1))[q]? = some (a, b) := by rw [← hIj.keys]; simp [hv]
      rw [List.getElem?_map] at e1
      obtain ⟨y, hy, e2⟩ := Option.map_eq_some_iff.1 e1
      exact ⟨y.2, by rw [hy, ← e2]⟩
    have hvo := (hIj.vals q (a, b) v l hv hl2).1
    have hvs := hvo.sl.same
    have hvc := hvo.sl.oneCell
    have stn := opStore_new (h := g) (n := 2) (z := [.int .i64 0, .int .i64 0]) (l := [.int .i64 (a : Int), .int .i64 (b : Int)]) rfl rfl rfl
    have I1 := hIj.push (.cells [.int .i64 (a : Int), .int .i64 (b : Int)] false)
    have ge : (g.push (.cells [.int .i64 (a : Int), .int .i64 (b : Int)] false)).get g.next = some (.cells [.int .i64 (a : Int), .int .i64 (b : Int)] false) := get_push_new _
    have gn : (g.push (.cells [.int .i64 (a : Int), .int .i64 (b : Int)] false)).next = g.next + 1 := rfl
    have go1 : ∀ z, z < g.next → (g.push (.cells [.int .i64 (a : Int), .int .i64 (b : Int)] false)).get z = g.get z := fun z hz => get_push_old (by omega)
    generalize hg1 : g.push (.cells [.int .i64 (a : Int), .int .i64 (b : Int)] false) = g1 at *
    have m0 : load1 g1 g.next 0 = .ok (.int .i64 (a : Int)) := load1_of ge
    have m1 : load1 g1 g.next 1 = .ok (.int .i64 (b : Int)) := load1_of ge
    have mN : loadN g1 g.next 0 2 = .ok [.int .i64 (a : Int), .int .i64 (b : Int)] := loadN_of ge rfl
    have lk := I1.lm.lookup_some keyP (z := .nils) hv hndk
    unfold kP at lk
    have hwl := wordsP_len kvs (S.take j)
    rw [List.length_take, Nat.min_eq_left (by omega)] at hwl
    have I2 := I1.push (.cells [wA (a : Int) 4, wA (b : Int) 4, .iface t_index_places v] false)
    have n0 : load1 (g1.push (.cells [wA (a : Int) 4, wA (b : Int) 4, .iface t_index_places v] false)) g.next 0 = .ok (.int .i64 (a : Int)) := load1_of (id := g.next) (vs := [.int .i64 (a : Int), .int .i64 (b : Int)]) (ro := false) (by rw [get_push_old (by omega)]; exact ge)
    have n1 : load1 (g1.push (.cells [wA (a : Int) 4, wA (b : Int) 4, .iface t_index_places v] false)) g.next 1 = .ok (.int .i64 (b : Int)) := load1_of (id := g.next) (vs := [.int .i64 (a : Int), .int .i64 (b : Int)]) (ro := false) (by rw [get_push_old (by omega)]; exact ge)
    have nN : loadN (g1.push (.cells [wA (a : Int) 4, wA (b : Int) 4, .iface t_index_places v] false)) g.next 0 2 = .ok [.int .i64 (a : Int), .int .i64 (b : Int)] := loadN_of (by rw [get_push_old (by omega)]; exact ge) rfl
    have lk2 := I2.lm.lookup_some keyP (z := .nils) hv hndk
    unfold kP at lk2
    obtain ⟨ov2, g3, b1, I3', b3, b4⟩ := I1.app (k := 3) (ws := [wA (a : Int) 4, wA (b : Int) 4, .iface t_index_places v]) rfl (by simp [wA, allScalar, AV.scalar]) (by rw [List.length_append, hwl]; omega)
    simp only [wA] at b1 n0 n1 nN lk2
    simp only [iP] at a2
    simp [hi, e13, e147, hov, a1, a2, opLoadN, stn, m0, m1, mN, lk, splice_eq, n0, n1, nN, lk2, hvs, eqAV_pair, b1]
    have hwsn : wordsP kvs (S.take (j + 1)) = wordsP kvs (S.take j) ++ [wA (a : Int) 4, wA (b : Int) 4, .iface t_index_places v] := by
      rw [take_snoc _ _ _ hx]; simp [wordsP, valK_get hv hndk]
    refine ⟨fun t h1 h2 h3 => ?_, ?_, ?_, fun id hid => ?_⟩
    · repeat rw [if_neg (by omega)]
      exact hσ t h1 h2 h3
    · refine fb.trans (FrB.trans ⟨by omega, fun i hi' => ?_⟩ b3)
      exact go1 i (by omega)
    · rw [hwsn, ← List.append_assoc]
      exact I3'
    · obtain ⟨q1, q2⟩ := hprj id hid
      have q3 : Pr m3 id g1 ov1 kvs := ⟨by have := q1.1; omega, q1.2.1, q1.2.2.1, q1.2.2.2⟩
      obtain ⟨r1, r2⟩ := b4 id q3
      exact ⟨r1, by rw [r2, go1 id q1.1, q2]⟩
  · rintro σ' ds g ⟨rfl, hσ, fb, hIj, hprj⟩
    rw [List.take_of_length_le (by omega)] at hIj
    simp
    exact hQ _ g (σ' 10) (by simp) fb hIj

end Go.Dk

namespace Go.Dk
open Go Go.Dr
set_option maxRecDepth 100000

theorem I3.fr {B m3 : Nat} {g g' : AH} {ov : AV} {os : List AV} {kvs : List ((Nat × Nat) × AV)} {mm : List ((Nat × Nat) × List Nat)} (h : I3 B g m3 ov os kvs mm) (f : Fr g g') : I3 B g' m3 ov os kvs mm := by
  refine ⟨h.own.fr f, h.ne, ?_, h.lo, Nat.lt_of_lt_of_le h.lt f.next, h.keys, h.nd, fun i p v l h1 h2 => ?_, h.dis⟩
  · show g'.get m3 = _
    rw [f.get _ h.lt]; exact h.lm
  · obtain ⟨a, b, c⟩ := h.vals i p v l h1 h2
    exact ⟨a.fr f, b, c⟩

theorem keysT_fn {h : AH} {m : Nat} (K : AV → AH → Prop) : Ev P SI (.fn f_maps_Keys_map_string_bool_string_bool) [.map m] h K = K (.func (.func f_maps_Keys_map_string_bool_string_bool_1) [] [.ptr h.next 0]) (h.push (.cells [.map m] false)) := by
  refine Ev.eq (ev_fn k_maps_Keys_map_string_bool_string_bool rfl rfl ?_) K
  simp [c_maps_Keys_map_string_bool_string_bool, AV.cells]
theorem keysP_fn {h : AH} {m : Nat} (K : AV → AH → Prop) : Ev P SI (.fn f_maps_Keys_map_index_pair_index_places_index_pair_index_places) [.map m] h K = K (.func (.func f_maps_Keys_map_index_pair_index_places_index_pair_index_places_1) [] [.ptr h.next 0]) (h.push (.cells [.map m] false)) := by
  refine Ev.eq (ev_fn k_maps_Keys_map_index_pair_index_places_index_pair_index_places rfl rfl ?_) K
  simp [c_maps_Keys_map_index_pair_index_places_index_pair_index_places, AV.cells]

/-! ### what is written, plain -/

def Tof (l : List Ep) : List Txt := srtT (addE [] (l.map (·.ls)))
theorem Tof_mem (l : List Ep) (s : Txt) : s ∈ Tof l ↔ ∃ y ∈ l.map (·.ls), ∃ k ∈ y, s = k.1 ∨ s = k.2 := by
  unfold Tof srtT
  rw [(List.mergeSort_perm _ _).mem_iff, addE_mem]
  simp
theorem Tof_nodup (l : List Ep) : (Tof l).Nodup := (List.mergeSort_perm _ _).nodup_iff.2 (addE_nodup _ (by simp))
theorem Tof_len (l : List Ep) (h : ∀ x ∈ l, x.ls.length ≤ 8) : (Tof l).length ≤ 16 * l.length := by
  unfold Tof srtT
  rw [List.length_mergeSort]
  have := addE_len (l.map (·.ls)) [] (fun y hy => by obtain ⟨x, hx, rfl⟩ := List.mem_map.1 hy; exact h x hx)
  simpa using this

def mmOf (l : List Ep) : List ((Nat × Nat) × List Nat) := gath (evE (Tof l) 0 l)
def itE (T : List Txt) (x : Ep) : List It := .w (x.ls.length : Int) 1 :: (x.ls.flatMap fun k => [It.w (pl T k.1 : Int) 4, .w (pl T k.2 : Int) 4]) ++ [.w x.sz 4, .w x.mn 8, .w x.mx 8]
def itP (mm : List ((Nat × Nat) × List Nat)) (S : List (Nat × Nat)) : List It := S.flatMap fun p => [It.w (p.1 : Int) 4, .w (p.2 : Int) 4, .p (atK mm p)]
def itemsOf (l : List Ep) : List It := ([It.w ((Tof l).length : Int) 4] ++ (Tof l).map It.t ++ [.w (l.length : Int) 4] ++ l.flatMap (itE (Tof l))) ++ itP (mmOf l) (srtP ((mmOf l).map (·.1)))

/-- values that stand for items -/
def OkL (h : AH) (os : List AV) (its : List It) : Prop := os.length = its.length ∧ ∀ (i : Nat) (v : AV) (it : It), os[i]? = some v → its[i]? = some it → OkI h v it
theorem OkL.append {h : AH} {a b : List AV} {c d : List It} (h1 : OkL h a c) (h2 : OkL h b d) : OkL h (a ++ b) (c ++ d) := by
  refine ⟨by rw [List.length_append, List.length_append, h1.1, h2.1], fun i v it hv hi => ?_⟩
  by_cases hc : i < a.length
  · rw [List.getElem?_append_left hc] at hv
    rw [List.getElem?_append_left (by rw [← h1.1]; exact hc)] at hi
    exact h1.2 i v it hv hi
  · rw [List.getElem?_append_right (by omega)] at hv
    rw [List.getElem?_append_right (by rw [← h1.1]; omega), ← h1.1] at hi
    exact h2.2 _ v it hv hi
theorem OkL.nil (h : AH) : OkL h [] [] := ⟨rfl, fun i v it hv _ => by simp at hv⟩
theorem OkL.one {h : AH} {v : AV} {it : It} (hv : OkI h v it) : OkL h [v] [it] := ⟨rfl, fun i w jt hw hi => by
  match i with
  | 0 => simp at hw hi; subst hw hi; exact hv
  | i + 1 => simp at hw⟩
theorem OkL.cons {h : AH} {v : AV} {it : It} {a : List AV} {c : List It} (hv : OkI h v it) (h1 : OkL h a c) : OkL h (v :: a) (it :: c) := (OkL.one hv).append h1
theorem OkL.flat {α : Type} {h : AH} {l : List α} {f : α → List AV} {k : α → List It} (hf : ∀ x ∈ l, OkL h (f x) (k x)) : OkL h (l.flatMap f) (l.flatMap k) := by
  induction l with
  | nil => exact .nil h
  | cons x l ih =>
    rw [List.flatMap_cons, List.flatMap_cons]
    exact (hf x List.mem_cons_self).append (ih fun y hy => hf y (List.mem_cons_of_mem _ hy))

theorem okl_w (h : AH) (n : Int) (k : Nat) : OkI h (wA n (k : Int)) (.w n k) := rfl
theorem okl_words (h : AH) (T : List Txt) (x : Ep) : OkL h (wordsE T x) (itE T x) := by
  unfold wordsE itE wordsL
  refine (OkL.cons (okl_w h _ 1) (OkL.flat fun k _ => ?_)).append ?_
  · exact (OkL.one (okl_w h _ 4)).append (OkL.one (okl_w h _ 4))
  · exact .cons (okl_w h _ 4) (.cons (okl_w h _ 8) (.one (okl_w h _ 8)))

theorem okl_texts (h : AH) : ∀ T : List Txt, OkL h (T.map tA) (T.map It.t)
  | [] => .nil h
  | s :: T => .cons rfl (okl_texts h T)

theorem okl_places {B m3 : Nat} {g : AH} {ov : AV} {os : List AV} {kvs : List ((Nat × Nat) × AV)} {mm : List ((Nat × Nat) × List Nat)} (hI : I3 B g m3 ov os kvs mm) {S : List (Nat × Nat)} (hS : ∀ p ∈ S, p ∈ mm.map (·.1)) : OkL g (wordsP kvs S) (itP mm S) := by
  unfold wordsP itP
  refine OkL.flat fun p hp => ?_
  refine .cons (okl_w g _ 4) (.cons (okl_w g _ 4) (.one ?_))
  have hndk : (kvs.map (·.1)).Nodup := by rw [hI.keys]; exact hI.nd
  obtain ⟨q, hq1, hq2⟩ := List.mem_iff_getElem.1 (hS _ hp)
  simp only [List.length_map] at hq1
  simp only [List.getElem_map] at hq2
  have hl : mm[q]? = some (p, mm[q].2) := by rw [List.getElem?_eq_getElem hq1, ← hq2]
  obtain ⟨v, hv⟩ : ∃ v, kvs[q]? = some (p, v) := by
    have e1 : (kvs.map (·.1))[q]? = some p := by rw [hI.keys]; simp [hl]
    rw [List.getElem?_map] at e1
    obtain ⟨y, hy, e2⟩ := Option.map_eq_some_iff.1 e1
    exact ⟨y.2, by rw [hy, ← e2]⟩
  have hat : atK mm p = mm[q].2 := by
    have : ∀ (m : List ((Nat × Nat) × List Nat)) (n : Nat) (l : List Nat), m[n]? = some (p, l) → (m.map (·.1)).Nodup → atK m p = l := by
      intro m
      induction m with
      | nil => intro n l h; simp at h
      | cons x m ih =>
        intro n l h hn
        cases n with
        | zero => simp at h; subst h; simp [atK]
        | succ n =>
          simp only [List.getElem?_cons_succ] at h
          simp only [List.map_cons, List.nodup_cons] at hn
          have hne : ¬ x.1 = p := fun e => hn.1 (by rw [e]; exact List.mem_map.2 ⟨(p, l), List.mem_of_getElem? h, rfl⟩)
          have := ih n l h hn.2
          simp only [atK, List.find?_cons, hne, decide_false] at this ⊢
          exact this
    exact this mm q _ hl hI.nd
  refine ⟨v, by rw [valK_get hv hndk], ?_⟩
  rw [hat]
  exact (hI.vals q p v _ hv hl).1.sl

/-- what items gives -/
def ItemsK (h : AH) (l : List Ep) (r : AV) (g : AH) : Prop := ∃ os, Own h.next g 1 os.length r os ∧ Fr h g ∧ OkL g os (itemsOf l)

theorem index_items {h : AH} {n : Nat} {v : AV} {xs : List (AV × Ep)} (s : Sl h 5 n v (xs.flatMap enC)) (hn : n ≤ 100000) (he : ∀ x ∈ xs, EnOk h x ∧ x.2.ls.length ≤ 8) :
    Ev P SI (.fn f_index_items) [v] h (ItemsK h (xs.map (·.2))) := by
  refine ev_fn k_index_items rfl rfl ?_
  have hl : xs.length = n := by have := s.1; rw [en_len] at this; omega
  have hl8 : ∀ x ∈ xs.map (·.2), x.ls.length ≤ 8 := fun x hx => by obtain ⟨y, hy, rfl⟩ := List.mem_map.1 hx; exact (he y hy).2
  have e0 : opMkM none h = okV (.map h.next) (h.push (.map [] 0)) := rfl
  simp [c_index_items, -wpC_block, s.len, e0]
  refine items_1 (h := h) (m := h.next) (n := n) (v := v) (xs := xs) (by simp) (by simp) (by simp) (by simp) s hn he rfl (Fr.push (.refl h) _) (Nat.lt_succ_self _) (get_push_new _) ?_
  intro σ1 g1 hσ1 f1 hlt1 hm1
  have e3 : σ1 3 = .map h.next := by rw [hσ1 3 (by omega) (by omega) (by omega)]; simp
  have e00 : σ1 0 = v := by rw [hσ1 0 (by omega) (by omega) (by omega)]; simp
  generalize hks : addE [] (xs.map (·.2.ls)) = ks at hm1
  have hks2 : Tof (xs.map (·.2)) = srtT ks := by rw [← hks]; unfold Tof; rw [List.map_map]; rfl
  have hkn : ks.Nodup := by rw [← hks]; exact addE_nodup _ (by simp)
  have hkl : ks.length ≤ 16 * n := by
    have := addE_len (xs.map (·.2.ls)) [] (fun y hy => by obtain ⟨x, hx, rfl⟩ := List.mem_map.1 hy; exact (he x hx).2)
    rw [hks] at this; simp at this; omega
  simp [-wpC_block, e3, keysT_fn]
  have hm1' : (g1.push (.cells [.map h.next] false)).get h.next = some (.map (mk0 0 (kvA AV.str (setKV ks))) (setKV ks).length) := by rw [get_push_old (by omega)]; exact hm1
  refine sorted_T (c := g1.next) (m := h.next) (ro := false) (ss := ks) (get_push_new _) hm1' (Nat.lt_succ_self _) (Nat.lt_succ_of_lt hlt1) (fun e he' => ?_) (mk0_nodup _ _) ?_ ?_ _ ?_
  · have := mk0_lt e he'; rw [kvA_length] at this; omega
  · rw [mk0_keys]; simp [kvA, setKV, tx, Function.comp_def]
  · rw [mk0_length, kvA_length, setKV, List.length_map]; omega
  intro u g2 ho2 f2
  rw [← hks2] at ho2
  generalize hT : Tof (xs.map (·.2)) = T at *
  have hTl : T.length = ks.length := by rw [hks2]; exact List.length_mergeSort _
  have hTn : T.Nodup := by rw [← hT]; exact Tof_nodup _
  have fh2 : Fr h g2 := (f1.push _).trans f2
  have e0' : opMkM none g2 = okV (.map g2.next) (g2.push (.map [] 0)) := rfl
  have ulen := ho2.sl.len
  simp [-wpC_block, e0', ulen, splice_eq]
  have hw : AV.iface t_index_word (.agg [.int .i64 (ks.length : Int), .int .i64 4]) = wA (ks.length : Int) 4 := rfl
  rw [hw]
  have fo3 := Own.fresh (B := g2.next + 1) (h := g2.push (.map [] 0)) (es := 1) (n := 1) (l := [wA (ks.length : Int) 4]) true (Nat.le_refl _) rfl
  refine items_2 (h := g2) (m := g2.next) (n := ks.length) (u := u) (ov := .slice (g2.next + 1) 0 1 1 true 1) (T := T) (os := [wA (ks.length : Int) 4]) (by simp) (by simp) (by simp) (by simp) (by simp) ho2.sl (by omega) hTn rfl ((Fr.push (.refl g2) _).push _)
    (by show AH.get _ _ = _; rw [get_push_old (by show g2.next ≠ g2.next + 1; omega)]; exact get_push_new _) fo3 (by simp) (by show g2.next < g2.next + 1 + 1; omega) ?_
  intro σ2 g3 ov3 h310 hσ2 f3 hlt3 hp3 ho3
  have e20 : σ2 0 = v := by rw [hσ2 0 (by omega) (by omega) (by omega) (by omega)]; simp [e00]
  have e29 : σ2 9 = .map g2.next := by rw [hσ2 9 (by omega) (by omega) (by omega) (by omega)]; simp
  have fh3 : Fr h g3 := fh2.trans f3
  have hlt2 := f2.next
  have hb2 : h.next ≤ g2.next := fh2.next
  obtain ⟨ov4, g4, b1, ho4, b3, b4, b5⟩ := ho3.snoc2 (bytes := 16) (x := [wA (n : Int) 4]) (by omega) rfl rfl (by simp; omega) (by simp; omega)
  have fh4 : Fr h g4 := ⟨by have := fh3.next; have := b3.next; omega, fun i hi => by rw [b3.get i (by omega)]; exact fh3.get i hi⟩
  have hp4 : MapO AV.str g4 g2.next (plKV T) := by show g4.get _ = _; rw [b3.get _ (by omega)]; exact hp3
  have e0'' : opMkM none g4 = okV (.map g4.next) (g4.push (.map [] 0)) := rfl
  have hlt4 := b3.next
  simp only [wA] at b1
  simp [-wpC_block, h310, e20, s.len, splice_eq, b1, e0'']
  have hne4 : idOf ov4 ≠ some g4.next := fun hid => by have := (own_id_lt ho4 hid).2; omega
  have I0 : I3 (g2.next + 1) (g4.push (.map [] 0)) g4.next ov4 (([wA (ks.length : Int) 4] ++ T.map tA) ++ [wA (n : Int) 4]) [] [] :=
    ⟨by have := ho4.fr (Fr.push (.refl g4) (.map [] 0)); simpa [Nat.add_comm, Nat.add_assoc, Nat.add_left_comm] using this, hne4, get_push_new _, by omega, Nat.lt_succ_self _, rfl, by simp, fun i p v l h1 _ => by simp at h1, fun i j p q v w id _ h1 _ _ => by simp at h1⟩
  refine items_3 (h := h) (m2 := g2.next) (m3 := g4.next) (n := n) (v := v) (ov := ov4) (xs := xs) (T := T) (by simp [e29]) (by simp) (by simp) (by simp) (by simp) (by simp) s hn he (fh4.push _) hb2
    (by show AH.get _ _ = _; rw [get_push_old (by omega)]; exact hp4) hTn (fun x hx k hk => ?_) I0 (by simp; omega) ?_
  · have hm : ∀ s, (s = k.1 ∨ s = k.2) → s ∈ T := fun s hs => by
      rw [← hT, Tof_mem]
      exact ⟨x.2.ls, List.mem_map.2 ⟨x.2, List.mem_map.2 ⟨x, hx, rfl⟩, rfl⟩, k, hk, hs⟩
    exact ⟨hm _ (.inl rfl), hm _ (.inr rfl)⟩
  intro σ3 g5 ov5 kvs h510 hσ3 fb5 I5
  have e313 : σ3 13 = .map g4.next := by rw [hσ3 13 (by omega) (by omega) (by omega) (by omega) (by omega) (by omega)]; simp
  simp [-wpC_block, e313, keysP_fn]
  have I6 := I5.push (.cells [.map g4.next] false)
  have hkl5 : kvs.length = (gath (evE T 0 (xs.map (·.2)))).length := by have := congrArg List.length I5.keys; simpa using this
  have hevl : ∀ (l : List Ep) (i : Nat), (∀ x ∈ l, x.ls.length ≤ 8) → (evE T i l).length ≤ 8 * l.length := by
    intro l
    induction l with
    | nil => intro i _; simp [evE]
    | cons x l ih =>
      intro i h
      have h1 := ih (i + 1) (fun y hy => h y (List.mem_cons_of_mem _ hy))
      have h2 := h x List.mem_cons_self
      simp only [evE, evL, List.length_append, List.length_map, List.length_cons] at h1 ⊢
      omega
  have hgl : ∀ (evs : List ((Nat × Nat) × Nat)) (m : List ((Nat × Nat) × List Nat)), (evs.foldl addP m).length ≤ m.length + evs.length := by
    have h1 : ∀ (m : List ((Nat × Nat) × List Nat)) (e : (Nat × Nat) × Nat), (addP m e).length ≤ m.length + 1 := by
      intro m e
      induction m with
      | nil => simp [addP]
      | cons x m ih => unfold addP; split <;> simp; omega
    intro evs
    induction evs with
    | nil => intro m; simp
    | cons e evs ih =>
      intro m
      have := ih (addP m e)
      have := h1 m e
      simp only [List.foldl_cons, List.length_cons]
      omega
  have hkb : kvs.length ≤ 8 * n := by
    have h1 := hgl (evE T 0 (xs.map (·.2))) []
    have h2 := hevl (xs.map (·.2)) 0 hl8
    rw [hkl5]
    unfold gath
    simp at h1 h2 ⊢
    omega
  refine sorted_P (c := g5.next) (m := g4.next) (ro := false) (ss := (kvs.map (·.1)).map iP) (get_push_new _) I6.lm (Nat.lt_succ_self _) I6.lt (fun e he' => ?_) (mk0_nodup _ _) ?_ ?_ _ ?_
  · have := mk0_lt e he'; rw [kvA_length] at this; omega
  · rw [mk0_keys]; simp [kvA, pk, kP, iP, Function.comp_def]
  · rw [mk0_length, kvA_length]; omega
  intro sv5 g7 ho7 f7
  rw [← srtP_int] at ho7
  have I7 := I6.fr f7
  have svl := ho7.sl.len
  simp [-wpC_block, svl]
  have hwl5 := wordsE_len_all T (xs.map (·.2)) hl8
  rw [List.length_map, hl] at hwl5
  have e510 : σ3 10 = ov5 := h510
  have hm5 : (gath (evE T 0 (xs.map (·.2)))) = mmOf (xs.map (·.2)) := by rw [mmOf, hT]
  refine items_4 (B := g2.next + 1) (m3 := g4.next) (n := kvs.length) (u := sv5) (ov := ov5) (S := srtP (kvs.map (·.1))) (os := ([wA (ks.length : Int) 4] ++ T.map tA ++ [wA (n : Int) 4]) ++ (xs.map (·.2)).flatMap (wordsE T)) (kvs := kvs) (mm := gath (evE T 0 (xs.map (·.2))))
    (by simp [e313]) (by simp [e510]) (by simp) (by simp) (by simp) I7 (by simpa using ho7.sl) (fun id hid => ?_) (by omega) (by simp only [List.length_append, List.length_map, List.length_singleton]; omega) (fun p hp => (srtP_mem _ p).1 hp) ?_
  · have h1 := (own_id_lt ho7 hid)
    have h2 : g5.next < id := by have := h1.1; show g5.next < id; exact this
    refine ⟨h1.2, by have := I5.lt; omega, fun ho => ?_, fun i p v hv ho => ?_⟩
    · have := (own_id_lt I5.own ho).2; omega
    · obtain ⟨l2, hl2⟩ : ∃ l2, (gath (evE T 0 (xs.map (·.2))))[i]? = some (p, l2) := by
        have e1 : ((gath (evE T 0 (xs.map (·.2)))).map (·.1))[i]? = some p := by rw [← I5.keys]; simp [hv]
        rw [List.getElem?_map] at e1
        obtain ⟨y, hy, rfl⟩ := Option.map_eq_some_iff.1 e1
        exact ⟨y.2, hy⟩
      have := (own_id_lt (I5.vals i p v l2 hv hl2).1 ho).2
      omega
  intro σ4 g8 ov8 h810 fb8 I8
  simp [h810]
  refine ⟨_, I8.own.base (by omega), ⟨?_, fun i hi => ?_⟩, ?_⟩
  · have := fh4.next; have := fb5.next; have := f7.next; have := fb8.next
    have e1 : (g4.push (.map [] 0)).next = g4.next + 1 := rfl
    have e2 : (g5.push (.cells [.map g4.next] false)).next = g5.next + 1 := rfl
    omega
  · have h4 := fh4.next
    have h5 := fb5.next
    have e1 : (g4.push (.map [] 0)).next = g4.next + 1 := rfl
    rw [fb8.get i (by omega), f7.get i (by show i < g5.next + 1; omega), get_push_old (by omega), fb5.get i (by omega), get_push_old (by omega)]
    exact fh4.get i hi
  · unfold itemsOf
    rw [hT, ← hm5, ← I8.keys]
    refine OkL.append ?_ (okl_places I8 (fun p hp => by rw [← I8.keys]; exact (srtP_mem _ p).1 hp))
    rw [show (T.length : Int) = (ks.length : Int) by rw [hTl], show ((xs.map (·.2)).length : Int) = (n : Int) by rw [List.length_map, hl]]
    refine ((((OkL.one (okl_w g8 _ 4)).append (okl_texts g8 T)).append (OkL.one (okl_w g8 _ 4)))).append ?_
    exact OkL.flat fun x _ => okl_words g8 T x

end Go.Dk

namespace Go.Dk
open Go Go.Dr
set_option maxRecDepth 100000

def f_index_word_size : FuncId := 203
def f_index_text_size : FuncId := 204
def f_index_places_size : FuncId := 205

-- reached: 3
/-- (dryrot/index.word).size, of 1 -/
noncomputable def c_index_word_size : CC :=
 (.seq
  (.ops [
   .row ⟨(some 1), none, .box (.t 0)⟩,
   .row ⟨(some 2), none, .move (.c (.int .i64 0))⟩])
  (.seq
   (.ops [
    .row ⟨(some 3), none, .fieldAddr 1 (.t 1)⟩,
    .row ⟨(some 4), none, .load1 (.t 3)⟩,
    .row ⟨(some 2), none, .move (.t 4)⟩])
   .ret))

theorem k_index_word_size : compF P f_index_word_size = .ok ⟨5, [.tmp 2], c_index_word_size⟩ := by kernel_rfl

/-- (dryrot/index.text).size, of 1 -/
noncomputable def c_index_text_size : CC :=
 (.seq
  (.ops [
   .row ⟨(some 2), none, .move (.c (.int .i64 0))⟩])
  (.seq
   (.ops [
    .row ⟨(some 3), none, .move (.t 0)⟩,
    .row ⟨(some 4), none, .lenS (.t 3)⟩,
    .row ⟨(some 5), none, .bin .add t_int true (.c (.int .i64 1)) (.t 4)⟩,
    .row ⟨(some 2), none, .move (.t 5)⟩])
   .ret))

theorem k_index_text_size : compF P f_index_text_size = .ok ⟨6, [.tmp 2], c_index_text_size⟩ := by kernel_rfl

/-- (dryrot/index.places).size, of 1 -/
noncomputable def c_index_places_size : CC :=
 (.seq
  (.ops [
   .row ⟨(some 2), none, .move (.c (.int .i64 0))⟩])
  (.seq
   (.ops [
    .row ⟨(some 3), none, .move (.t 0)⟩,
    .row ⟨(some 4), none, .lenV (.t 3)⟩,
    .row ⟨(some 5), none, .bin .mul t_int true (.c (.int .i64 4)) (.t 4)⟩,
    .row ⟨(some 6), none, .bin .add t_int true (.c (.int .i64 4)) (.t 5)⟩,
    .row ⟨(some 2), none, .move (.t 6)⟩])
   .ret))

theorem k_index_places_size : compF P f_index_places_size = .ok ⟨7, [.tmp 2], c_index_places_size⟩ := by kernel_rfl


end Go.Dk

/-
  More is put behind a slice: out of whatever; and where there is room.
-/
namespace Go.Dr

section
variable {P : Program} {h : AH}

/-- append, to what is ours, out of whatever -/
theorem Own.append_src {B es n m bytes : Nat} {v x : AV} {l r : List AV} (s : Own B h es n v l) (hsrc : srcCells h es x = .ok (m, r)) (hr : r.length = m * es) (hB : B ≤ h.next) (hs : allScalar r = true) (h1 : (n + m) * bytes ≤ 2 ^ 40) (h2 : n + m ≤ 2 ^ 40) :
    ∃ v' h', opApp es bytes v x h = okV v' h' ∧ Own B h' es (n + m) v' (l ++ r) ∧ FrB B h h' ∧ (∀ i, i < h.next → idOf v ≠ some i → h'.get i = h.get i) ∧ (∀ i, idOf v' = some i → idOf v = some i ∨ h.next ≤ i) := by
  have hlr : (l ++ r).length = (n + m) * es := by rw [List.length_append, s.1, hr, Nat.add_mul]
  unfold opApp
  rw [hsrc]
  simp only []
  by_cases hm : m = 0
  · subst hm
    have hr0 : r = [] := by simpa using hr
    subst hr0
    refine ⟨v, h, ?_, by simpa using s, .refl _ _, fun _ _ _ => rfl, fun i hi => .inl hi⟩
    rcases s.2 with ⟨rfl, rfl⟩ | ⟨id, off, x', vs, rfl, e2, e3, e4, e5, e6⟩
    · simp [appTo]
    · have hb : Nat.ble n n = true := Nat.ble_eq_true_of_le (Nat.le_refl n)
      simp [appTo, forceN_eq, storeN, hb]
  · rcases s.2 with ⟨rfl, rfl⟩ | ⟨id, off, x', vs, rfl, e2, e3, e4, e5, e6⟩
    · have hl0 : l = [] := by simpa using s.1
      subst hl0
      refine ⟨.slice h.next 0 m m false es, h.push (.cells r false), ?_, ?_, (Fr.push (.refl h) _).b hB, fun i hi _ => get_push_old (by omega), fun i hi => by cases hi; exact .inr (Nat.le_refl _)⟩
      · simp only [appTo]
        rw [if_neg hm, if_pos ⟨by simpa using h1, by simpa using h2⟩]
      · rw [Nat.zero_add]
        exact Own.fresh false hB (by simpa using hr)
    · have hnb : Nat.ble (n + m) n = false := by
        cases e : Nat.ble (n + m) n with
        | false => rfl
        | true => have := Nat.le_of_ble_eq_true e; omega
      have hld : loadN h id off (n * es) = .ok l := by
        have hb : Nat.ble (off + n * es) vs.length = true := Nat.ble_eq_true_of_le e5
        simp [loadN, e4, hb, e6]
      cases x' with
      | true =>
        refine ⟨.slice h.next 0 (n + m) (n + m) false es, h.push (.cells (l ++ r) false), ?_, ?_, (Fr.push (.refl h) _).b hB, fun i hi _ => get_push_old (by omega), fun i hi => by cases hi; exact .inr (Nat.le_refl _)⟩
        · simp only [appTo, forceN_eq, hnb, cond_false, hld, hs, if_true]
          rw [if_neg (by simp), if_pos ⟨h1, h2⟩]
        · exact Own.fresh false hB hlr
      | false =>
        refine ⟨.slice h.next 0 (n + m) (n + m) false es, (h.kill id).push (.cells (l ++ r) false), ?_, ?_, ?_, fun i hi hne => ?_, fun i hi => by cases hi; exact .inr (Nat.le_refl _)⟩
        · simp only [appTo, forceN_eq, hnb, cond_false, hld, hs, if_true, e4]
          rw [if_neg (by simp), if_pos ⟨h1, h2⟩]
        · exact Own.fresh (h := h.kill id) false hB hlr
        · exact ⟨by simp, fun i hi => by rw [get_push_old (by simp; omega), get_kill_old (by omega)]⟩
        · rw [get_push_old (by simp; omega), get_kill_old (by intro e; apply hne; rw [e]; rfl)]



theorem bytesAV_by8 : ∀ s : Txt, bytesAV s = by8 (s.map UInt8.toNat)
  | [] => rfl
  | b :: s => by simp only [bytesAV, bytesAV_by8 s]; rfl
theorem src_str (s : Txt) : srcCells h 1 (.str s) = .ok (s.length, by8 (s.map UInt8.toNat)) := by
  simp [srcCells, bytesAV_by8]

/-- a slice of ours that was made with room for cap bytes -/
def Buf (B : Nat) (h : AH) (n cap : Nat) (v : AV) (l : List AV) : Prop :=
  l.length = n ∧ n ≤ cap ∧ ∃ id rest, v = .slice id 0 n cap true 1 ∧ B ≤ id ∧ id < h.next ∧ h.get id = some (.cells (l ++ rest) false) ∧ (l ++ rest).length = cap

theorem Buf.make {B cap : Nat} (hB : B ≤ h.next) (k : IntKind) (hc : cap ≤ 2 ^ 40) : ∃ h', opMkS 1 1 [.int .u8 0] (.int .i64 0) (.int k (cap : Int)) h = okV (.slice h.next 0 0 cap true 1) h' ∧ Buf B h' 0 cap (.slice h.next 0 0 cap true 1) [] ∧ Fr h h' := by
  refine ⟨h.push (.cells (repl [.int .u8 0] cap) false), ?_, ⟨rfl, Nat.zero_le _, h.next, repl [.int .u8 0] cap, rfl, hB, Nat.lt_succ_self _, get_push_new _, ?_⟩, Fr.push (.refl h) _⟩
  · simp only [opMkS]
    rw [if_pos ⟨by omega, by omega, by omega, by omega⟩]
    rfl
  · rw [repl_one]; simp

theorem Buf.keep {B n cap : Nat} {h' : AH} {v : AV} {l : List AV} (b : Buf B h n cap v l) (f : FrB B h h') (hB : ∀ id, idOf v = some id → h'.get id = h.get id) : Buf B h' n cap v l := by
  obtain ⟨h1, h2, id, rest, rfl, h4, h5, h6, h7⟩ := b
  exact ⟨h1, h2, id, rest, rfl, h4, Nat.lt_of_lt_of_le h5 f.next, by rw [hB id rfl]; exact h6, h7⟩
theorem Buf.fr {B n cap : Nat} {h' : AH} {v : AV} {l : List AV} (b : Buf B h n cap v l) (f : Fr h h') : Buf B h' n cap v l := by
  obtain ⟨h1, h2, id, rest, rfl, h4, h5, h6, h7⟩ := b
  exact ⟨h1, h2, id, rest, rfl, h4, Nat.lt_of_lt_of_le h5 f.next, by rw [f.get id h5]; exact h6, h7⟩

theorem Buf.sl {B n cap : Nat} {v : AV} {l : List AV} (b : Buf B h n cap v l) : Sl h 1 n v l := by
  obtain ⟨h1, h2, id, rest, rfl, h4, h5, h6, h7⟩ := b
  refine ⟨by omega, .inr ⟨id, 0, cap, true, l ++ rest, false, rfl, h5, h2, h6, ?_, ?_⟩⟩
  · rw [h7]; omega
  · rw [List.drop_zero, Nat.mul_one, List.take_left' h1]

/-- append, where there is room -/
theorem Buf.append {B n cap m : Nat} {v x : AV} {l r : List AV} (b : Buf B h n cap v l) (hsrc : srcCells h 1 x = .ok (m, r)) (hr : r.length = m) (hs : allScalar r = true) (hroom : n + m ≤ cap) :
    ∃ v' h', opApp 1 1 v x h = okV v' h' ∧ Buf B h' (n + m) cap v' (l ++ r) ∧ FrB B h h' ∧ h'.next = h.next ∧ idOf v' = idOf v ∧ ∀ i, idOf v ≠ some i → h'.get i = h.get i := by
  obtain ⟨h1, h2, id, rest, rfl, h4, h5, h6, h7⟩ := b
  have hle : Nat.ble (n + m) cap = true := Nat.ble_eq_true_of_le hroom
  unfold opApp
  rw [hsrc]
  simp only [appTo]
  rw [if_neg (by simp)]
  simp only [forceN_eq, hle, cond_true, Nat.zero_add, Nat.mul_one]
  cases r with
  | nil =>
    simp only [List.length_nil] at hr
    subst hr
    refine ⟨_, h, by simp [storeN], ⟨by simpa using h1, by simpa using hroom, id, rest, rfl, h4, h5, by simpa using h6, by simpa using h7⟩, .refl _ _, rfl, rfl, fun _ _ => rfl⟩
  | cons y r =>
    have hb : Nat.ble (n + (y :: r).length) (l ++ rest).length = true := Nat.ble_eq_true_of_le (by omega)
    have st : storeN h id n (y :: r) = .ok (h.set id (.cells (splice (l ++ rest) n (y :: r)) false)) := by
      simp only [storeN, h6, hb, hs, Bool.and_self, cond_true]
    have hsp : splice (l ++ rest) n (y :: r) = (l ++ (y :: r)) ++ rest.drop m := by
      rw [splice_eq, List.take_left' h1, hr, ← List.drop_drop, List.drop_left' h1, List.append_assoc]
    rw [st, hsp]
    refine ⟨.slice id 0 (n + m) cap true 1, h.set id (.cells (l ++ (y :: r) ++ rest.drop m) false), rfl, ⟨by rw [List.length_append, h1, hr], hroom, id, rest.drop m, rfl, h4, h5, get_set_new _ _, ?_⟩, ⟨Nat.le_refl _, fun i hi => get_set_old (by omega)⟩, rfl, rfl, fun i hi => get_set_old (by intro e; apply hi; rw [e]; rfl)⟩
    rw [List.length_append] at h7
    rw [List.length_append, List.length_append, List.length_drop, hr]
    omega

end
end Go.Dr

namespace Go.Dk
open Go Go.Dr
set_option maxRecDepth 100000

/-! ### an item's size, an item's bytes -/

theorem meth_t (s : Txt) (h : AH) : callMeth P (.iface t_index_text (.str s)) "dryrot/index.size" [] h = .ok (.enter f_index_text_size [.str s], h) := by kernel_rfl
theorem meth_w (l : List AV) (h : AH) : callMeth P (.iface t_index_word (.agg l)) "dryrot/index.size" [] h = .ok (.enter f_index_word_size [.agg l], h) := by kernel_rfl
theorem meth_p (v : AV) (h : AH) : callMeth P (.iface t_index_places v) "dryrot/index.size" [] h = .ok (.enter f_index_places_size [v], h) := by kernel_rfl

def itB : It → List Nat
  | .t s => s.length % 256 :: bT s
  | .w n k => be k (n64 n)
  | .p l => be 4 l.length ++ l.flatMap (be 4)
/-- an item that is no giant -/
def itOk : It → Prop
  | .t s => s.length ≤ 2 ^ 29
  | .w _ k => k ≤ 8
  | .p l => l.length ≤ 2 ^ 29 ∧ ∀ x ∈ l, x < 2 ^ 62

theorem be_flat_len (l : List Nat) : (l.flatMap (be 4)).length = 4 * l.length := by
  induction l with
  | nil => rfl
  | cons x l ih => rw [List.flatMap_cons, List.length_append, be_length, ih, List.length_cons]; omega

theorem it_size {h : AH} {v : AV} {it : It} (hv : OkI h v it) (ho : itOk it) : ∃ f a, callMeth P v "dryrot/index.size" [] h = .ok (.enter f a, h) ∧ Ev P SI (.fn f) a h (fun r g => r = .int .i64 ((itB it).length : Int) ∧ Fr h g) := by
  cases it with
  | t s =>
    cases hv
    refine ⟨_, _, meth_t s h, ?_⟩
    refine ev_fn k_index_text_size rfl rfl ?_
    have w : wrapF .i64 (1 + (s.length : Int)) = 1 + (s.length : Int) := wrap_i64 (by omega) (by simp only [itOk] at ho; omega)
    have w' : wrapF .i64 ((s.length : Int) + 1) = (s.length : Int) + 1 := wrap_i64 (by omega) (by simp only [itOk] at ho; omega)
    simp [c_index_text_size, w, w', itB, bT, Fr.refl]
    omega
  | w n k =>
    cases hv
    refine ⟨_, _, meth_w _ h, ?_⟩
    refine ev_fn k_index_word_size rfl rfl ?_
    have stn := opStore_new (h := h) (n := 2) (z := [.int .i64 0, .int .i64 0]) (l := [.int .i64 n, .int .i64 (k : Int)]) rfl rfl rfl
    have m1 : load1 (h.push (.cells [.int .i64 n, .int .i64 (k : Int)] false)) h.next 1 = .ok (.int .i64 (k : Int)) := load1_of (get_push_new _)
    simp [c_index_word_size, stn, m1, itB, be_length]
    exact Fr.push (.refl h) _
  | p l =>
    obtain ⟨u, rfl, hs⟩ := hv
    refine ⟨_, _, meth_p _ h, ?_⟩
    refine ev_fn k_index_places_size rfl rfl ?_
    simp only [itOk] at ho
    have w1 : wrapF .i64 (4 * (l.length : Int)) = 4 * (l.length : Int) := wrap_i64 (by omega) (by omega)
    have w2 : wrapF .i64 (4 + 4 * (l.length : Int)) = 4 + 4 * (l.length : Int) := wrap_i64 (by omega) (by omega)
    simp [c_index_places_size, hs.len, w1, w2, itB, be_length, be_flat_len, Fr.refl, -List.length_flatMap]

theorem ta_tt (s : Txt) : opTypeAssert P (.iface t_index_text (.str s)) t_index_text true = .ok (.tuple [.str s, .bool true]) := by kernel_rfl
theorem ta_wt (l : List AV) : opTypeAssert P (.iface t_index_word (.agg l)) t_index_text true = .ok (.tuple [.str [], .bool false]) := by kernel_rfl
theorem ta_pt (v : AV) : opTypeAssert P (.iface t_index_places v) t_index_text true = .ok (.tuple [.str [], .bool false]) := by kernel_rfl
theorem ta_ww (l : List AV) : opTypeAssert P (.iface t_index_word (.agg l)) t_index_word true = .ok (.tuple [.agg l, .bool true]) := by kernel_rfl
theorem ta_pw (v : AV) : opTypeAssert P (.iface t_index_places v) t_index_word true = .ok (.tuple [.agg [.int .i64 0, .int .i64 0], .bool false]) := by kernel_rfl
theorem ta_pp (v : AV) : opTypeAssert P (.iface t_index_places v) t_index_places false = .ok v := by kernel_rfl

theorem n64_of_nat (n : Nat) (hn : n < 2 ^ 64) : n64 (n : Int) = n := by unfold n64; omega
theorem wrap_n64 (z : Int) : wrapF .u64 z = ((n64 z : Nat) : Int) := by
  unfold n64
  rw [wrap64, Int.toNat_of_nonneg (Int.emod_nonneg _ (by decide))]

theorem n64_lt (z : Int) : n64 z < 2 ^ 64 := by unfold n64; omega

/-- an item's bytes, in a slice that is ours -/
theorem index_bytesOf {h : AH} {v : AV} {it : It} (hv : OkI h v it) (ho : itOk it) : Ev P SI (.fn f_index_bytesOf) [v] h (fun r g => Own h.next g 1 (itB it).length r (by8 (itB it)) ∧ Fr h g) := by
  refine ev_fn k_index_bytesOf rfl rfl ?_
  cases it with
  | t s =>
    cases hv
    simp only [itOk] at ho
    have w : wrapF .u8 (s.length : Int) = ((s.length % 256 : Nat) : Int) := by rw [wrap8]; omega
    obtain ⟨b, hb⟩ : ∃ b, s.length % 256 = b := ⟨_, rfl⟩
    rw [hb] at w
    have o1 := Own.fresh (B := h.next) (h := h) (es := 1) (n := 1) (l := [.int .u8 (b : Int)]) true (Nat.le_refl _) rfl
    obtain ⟨v', g', e, o, f, p, q⟩ := o1.append_src (bytes := 1) (src_str s) (by simp) (Nat.le_succ _) (by8_scalar _) (by omega) (by omega)
    simp [c_index_bytesOf, ta_tt, w, splice_eq, e]
    have hgn : (h.push (.cells [.int .u8 (b : Int)] false)).next = h.next + 1 := rfl
    refine ⟨?_, by have := f.next; omega, fun i hi => ?_⟩
    · have e2 : itB (.t s) = b :: bT s := by simp [itB, hb]
      rw [e2]
      have e3 : (b :: bT s).length = 1 + s.length := by simp [bT]; omega
      rw [e3]
      exact o
    · rw [f.get i hi, get_push_old (by omega)]
  | w n k =>
    cases hv
    have hk : k ≤ 8 := ho
    have stn := opStore_new (h := h) (n := 2) (z := [.int .i64 0, .int .i64 0]) (l := [.int .i64 n, .int .i64 (k : Int)]) rfl rfl rfl
    have m0 : load1 (h.push (.cells [.int .i64 n, .int .i64 (k : Int)] false)) h.next 0 = .ok (.int .i64 n) := load1_of (get_push_new _)
    have m1 : load1 (h.push (.cells [.int .i64 n, .int .i64 (k : Int)] false)) h.next 1 = .ok (.int .i64 (k : Int)) := load1_of (get_push_new _)
    simp [c_index_bytesOf, ta_wt, ta_ww, stn, m0, m1, wrap_n64, crc_Put (n64 n) k (n64_lt n) hk]
    have o1 := Own.fresh (B := h.next) (h := h.push (.cells [.int .i64 n, .int .i64 (k : Int)] false)) (es := 1) (n := k) (l := by8 (be k (n64 n))) true (Nat.le_succ _) (by simp)
    refine ⟨?_, (Fr.push (.refl h) _).push _⟩
    simp only [itB, be_length]
    exact o1
  | p l =>
    obtain ⟨u, rfl, hs⟩ := hv
    obtain ⟨hl1, hl2⟩ := ho
    have stn := opStore_new (h := h) (n := 2) (z := [.int .i64 0, .int .i64 0]) (l := [.int .i64 0, .int .i64 0]) rfl rfl rfl
    have w : wrapF .u64 (l.length : Int) = ((l.length : Nat) : Int) := wrap_u64 (by omega) (by omega)
    have cp := crc_Put l.length 4 (by omega) (by omega)
    have e4 : ((4 : Nat) : Int) = 4 := rfl
    rw [e4] at cp
    simp [c_index_bytesOf, ta_pt, ta_pw, ta_pp, stn, hs.len, w, cp]
    have f1 : Fr h ((h.push (.cells [.int .i64 0, .int .i64 0] false)).push (.cells (by8 (be 4 l.length)) false)) := (Fr.push (.refl h) _).push _
    have o1 := Own.fresh (B := h.next) (h := h.push (.cells [.int .i64 0, .int .i64 0] false)) (es := 1) (n := 4) (l := by8 (be 4 l.length)) true (Nat.le_succ _) (by simp)
    refine w_count (n := l.length) (by rfl) (fun j σ ds g => ds = [] ∧ σ 41 = u ∧ σ 42 = .int .i64 (l.length : Int) ∧ Fr h g ∧ Own h.next g 1 (4 + 4 * j) (σ 8) (by8 (be 4 l.length ++ (l.take j).flatMap (be 4)))) (by omega) (by simp) ⟨rfl, by simp, by simp, f1, by simpa using o1⟩ (fun j σ ds g hJ => by simp [hJ.2.2.1]) ?_ ?_
    · rintro j σ ds g hj hi ⟨rfl, e41, e42, fr, ho⟩
      obtain ⟨x, hx⟩ := at_some (l := l) (j := j) hj
      obtain ⟨id, o, a1, a2, _⟩ := (hs.fr fr).get1 (k := .i64) (i := (j : Int)) rfl hj (x := .int .i64 (x : Int)) (by simp [nv, hx])
      have hx2 := hl2 x (List.mem_of_getElem? hx)
      have wx : wrapF .u64 (x : Int) = ((x : Nat) : Int) := wrap_u64 (by omega) (by omega)
      have cx := crc_Put x 4 (by omega) (by omega)
      rw [e4] at cx
      obtain ⟨ov, hov⟩ : ∃ ov, σ 8 = ov := ⟨_, rfl⟩
      rw [hov] at ho
      have fp := Fr.push (.refl g) (.cells (by8 (be 4 x)) false)
      have sx := (Own.fresh (B := 0) (h := g) (es := 1) (n := 4) (l := by8 (be 4 x)) true (Nat.zero_le _) (by simp)).sl
      have hnn := fr.next
      obtain ⟨v', g', e, o2, f, p, q⟩ := (ho.fr fp).append (bytes := 1) sx (by show h.next ≤ g.next + 1; omega) (by8_scalar _) (by omega) (by omega)
      simp [e41, e42, hi, hov, a1, a2, wx, cx, e]
      refine ⟨?_, ?_⟩
      · have hf := f.next
        have gn : (g.push (.cells (by8 (be 4 x)) false)).next = g.next + 1 := rfl
        exact ⟨by omega, fun i hi' => by rw [f.get i hi', get_push_old (by omega)]; exact fr.get i hi'⟩
      · have e5 : 4 + 4 * (j + 1) = 4 + 4 * j + 4 := by omega
        rw [e5, take_snoc _ _ _ hx, List.flatMap_append, ← List.append_assoc, by8_append]
        simpa using o2
    · rintro σ ds g ⟨rfl, e41, e42, fr, ho⟩
      rw [List.take_of_length_le (by omega)] at ho
      simp
      refine ⟨?_, fr⟩
      have e6 : (be 4 l.length ++ l.flatMap (be 4)).length = 4 + 4 * l.length := by rw [List.length_append, be_length, be_flat_len]
      simp only [itB, e6]
      exact ho

end Go.Dk

namespace Go.Dk
open Go Go.Dr
set_option maxRecDepth 100000

/-! ### how much there is -/

theorem canF_mem : ∀ (l : List Ep) (pos : Int) (prev : Option Ep), canFE pos prev l = true → ∀ x ∈ l, canL x.ls = true ∧ 1 ≤ x.sz ∧ x.sz ≤ 2147483647
  | [], _, _, _, x, hx => by cases hx
  | y :: l, pos, prev, h, x, hx => by
    simp only [canFE, Bool.and_eq_true] at h
    obtain ⟨⟨h1, h2⟩, h3⟩ := h
    rcases List.mem_cons.1 hx with rfl | hx
    · simp only [ok1, Bool.and_eq_true, decide_eq_true_eq] at h1
      exact ⟨h1.1.1.1.1, h1.1.1.2, h1.1.2⟩
    · exact canF_mem l _ _ h3 x hx

theorem valueOk_short {s : Txt} (h : valueOk s = true) : 1 ≤ s.length ∧ s.length ≤ 40 := by
  unfold valueOk at h
  simp only [Bool.and_eq_true, decide_eq_true_eq] at h
  exact h.1

theorem canFrom_mem : ∀ (l : List Lab) (last : Txt), canFrom last l = true → ∀ k ∈ l, k.1.length ≤ 24 ∧ k.2.length ≤ 40 ∧ k.1 ≠ [] ∧ k.2 ≠ [] ∧ Op.bytesLess last k.1 = true
  | [], _, _, k, hk => by cases hk
  | y :: l, last, h, k, hk => by
    simp only [canFrom, Bool.and_eq_true] at h
    obtain ⟨h1, h2, h3, h4⟩ := h
    rcases List.mem_cons.1 hk with rfl | hk
    · refine ⟨nameOk_short h1, (valueOk_short h2).2, fun e => ?_, fun e => ?_, h3⟩
      · rw [e] at h1; simp [nameOk] at h1
      · have := (valueOk_short h2).1; rw [e] at this; simp at this
    · obtain ⟨a, b, c, d, e⟩ := canFrom_mem l y.1 h4 k hk
      exact ⟨a, b, c, d, less_trans h3 e⟩

theorem canFrom_asc : ∀ (l : List Lab) (last : Txt), canFrom last l = true → l.Pairwise fun a b => Op.bytesLess a.1 b.1 = true
  | [], _, _ => .nil
  | y :: l, last, h => by
    simp only [canFrom, Bool.and_eq_true] at h
    obtain ⟨h1, h2, h3, h4⟩ := h
    refine List.pairwise_cons.2 ⟨fun b hb => ?_, canFrom_asc l y.1 h4⟩
    obtain ⟨_, _, _, _, e⟩ := canFrom_mem l y.1 h4 b hb
    exact e

theorem canL_mem {l : List Lab} (h : canL l = true) : l.length ≤ 8 ∧ ∀ k ∈ l, k.1.length ≤ 24 ∧ k.2.length ≤ 40 ∧ k.1 ≠ [] ∧ k.2 ≠ [] := by
  simp only [canL, Bool.and_eq_true, decide_eq_true_eq] at h
  exact ⟨h.1.2, fun k hk => by
    obtain ⟨a, b, c, d, _⟩ := canFrom_mem l [] h.2 k hk
    exact ⟨a, b, c, d⟩⟩
theorem canL_parted {l : List Lab} (h : canL l = true) : Parted l := by
  simp only [canL, Bool.and_eq_true, decide_eq_true_eq] at h
  unfold Parted
  refine List.pairwise_map.2 ((canFrom_asc l [] h.2).imp fun {a b} hab e => ?_)
  rw [e, less_irrefl] at hab
  cases hab

theorem canE_mem {l : List Ep} (h : canE l = true) : ∀ x ∈ l, canL x.ls = true ∧ 1 ≤ x.sz ∧ x.sz ≤ 2147483647 := by
  simp only [canE, Bool.and_eq_true] at h
  exact canF_mem l 0 none h.1
theorem canE_ls8 {l : List Ep} (h : canE l = true) : ∀ x ∈ l, x.ls.length ≤ 8 := fun x hx => (canL_mem (canE_mem h x hx).1).1

theorem evE_mem (T : List Txt) : ∀ (l : List Ep) (i : Nat) (e : (Nat × Nat) × Nat), e ∈ evE T i l → i ≤ e.2 ∧ e.2 < i + l.length
  | [], _, _, h => by cases h
  | x :: l, i, e, h => by
    rcases List.mem_append.1 h with h | h
    · obtain ⟨k, _, rfl⟩ := List.mem_map.1 h
      simp only [List.length_cons]; omega
    · have := evE_mem T l (i + 1) e h
      simp only [List.length_cons]; omega

theorem evE_len (T : List Txt) : ∀ (l : List Ep) (i : Nat), (∀ x ∈ l, x.ls.length ≤ 8) → (evE T i l).length ≤ 8 * l.length
  | [], _, _ => by simp [evE]
  | x :: l, i, h => by
    have h1 := evE_len T l (i + 1) (fun y hy => h y (List.mem_cons_of_mem _ hy))
    have h2 := h x List.mem_cons_self
    simp only [evE, evL, List.length_append, List.length_map, List.length_cons]
    omega

theorem mm_at (l : List Ep) (h8 : ∀ x ∈ l, x.ls.length ≤ 8) (p : Nat × Nat) : (atK (mmOf l) p).length ≤ 8 * l.length ∧ ∀ x ∈ atK (mmOf l) p, x < l.length := by
  unfold mmOf
  rw [gath_at]
  constructor
  · rw [List.length_map]
    exact Nat.le_trans (List.length_filter_le _ _) (evE_len _ l 0 h8)
  · intro x hx
    obtain ⟨e, he, rfl⟩ := List.mem_map.1 hx
    have := evE_mem _ l 0 e (List.mem_filter.1 he).1
    omega

theorem mm_keys (l : List Ep) (h8 : ∀ x ∈ l, x.ls.length ≤ 8) : ((mmOf l).map (·.1)).length ≤ 8 * l.length := by
  rw [List.length_map]
  have h1 : ∀ (m : List ((Nat × Nat) × List Nat)) (e : (Nat × Nat) × Nat), (addP m e).length ≤ m.length + 1 := by
    intro m e
    induction m with
    | nil => simp [addP]
    | cons x m ih => unfold addP; split <;> simp; omega
  have h2 : ∀ (evs : List ((Nat × Nat) × Nat)) (m : List ((Nat × Nat) × List Nat)), (evs.foldl addP m).length ≤ m.length + evs.length := by
    intro evs
    induction evs with
    | nil => intro m; simp
    | cons e evs ih =>
      intro m
      have := ih (addP m e)
      have := h1 m e
      simp only [List.foldl_cons, List.length_cons]
      omega
  have := h2 (evE (Tof l) 0 l) []
  have := evE_len (Tof l) l 0 h8
  unfold mmOf gath
  simp at *
  omega

theorem itE_len (T : List Txt) (x : Ep) (h : x.ls.length ≤ 8) : (itE T x).length ≤ 20 := by
  have : ∀ l : List Lab, (l.flatMap fun k => [It.w (pl T k.1 : Int) 4, .w (pl T k.2 : Int) 4]).length = 2 * l.length := by
    intro l
    induction l with
    | nil => rfl
    | cons y l ih => rw [List.flatMap_cons, List.length_append, ih]; simp; omega
  simp only [itE, List.cons_append, List.length_cons, List.length_append, this, List.length_nil]
  omega

theorem flat_le {α β : Type} (f : α → List β) (M : Nat) : ∀ l : List α, (∀ x ∈ l, (f x).length ≤ M) → (l.flatMap f).length ≤ l.length * M
  | [], _ => by simp
  | x :: l, h => by
    rw [List.flatMap_cons, List.length_append, List.length_cons, Nat.add_mul]
    have h1 := h x List.mem_cons_self
    have h2 := flat_le f M l (fun y hy => h y (List.mem_cons_of_mem _ hy))
    omega

theorem items_len (l : List Ep) (hn : l.length ≤ 10000) (h8 : ∀ x ∈ l, x.ls.length ≤ 8) : (itemsOf l).length ≤ 700000 := by
  have h1 := Tof_len l h8
  have h2 := flat_le (itE (Tof l)) 20 l (fun x hx => itE_len _ x (h8 x hx))
  have h3 : ∀ S : List (Nat × Nat), (itP (mmOf l) S).length = 3 * S.length := by
    intro S
    unfold itP
    induction S with
    | nil => rfl
    | cons y S ih => rw [List.flatMap_cons, List.length_append, ih]; simp; omega
  have h4 := mm_keys l h8
  simp only [itemsOf, List.length_append, List.length_map, List.length_singleton, h3, srtP_len]
  rw [List.length_map] at h4
  omega

theorem item_ok {l : List Ep} (hn : l.length ≤ 10000) (hc : canE l = true) : ∀ it ∈ itemsOf l, itOk it ∧ (itB it).length ≤ 400000 := by
  have h8 := canE_ls8 hc
  have w : ∀ (n : Int) (k : Nat), k ≤ 8 → itOk (.w n k) ∧ (itB (.w n k)).length ≤ 400000 := fun n k hk => ⟨hk, by simp only [itB, be_length]; omega⟩
  intro it hit
  simp only [itemsOf, List.mem_append, List.mem_singleton, List.mem_map, List.mem_flatMap] at hit
  rcases hit with (((rfl | ⟨s, hs, rfl⟩) | rfl) | ⟨x, hx, hit⟩) | hit
  · exact w _ _ (by omega)
  · obtain ⟨y, hy, k, hk, hsk⟩ := (Tof_mem l s).1 hs
    obtain ⟨x, hx, rfl⟩ := List.mem_map.1 hy
    obtain ⟨a, b, _⟩ := (canL_mem (canE_mem hc x hx).1).2 k hk
    have : s.length ≤ 40 := by rcases hsk with rfl | rfl <;> omega
    exact ⟨by simp only [itOk]; omega, by simp only [itB, bT, List.length_cons, List.length_map]; omega⟩
  · exact w _ _ (by omega)
  · simp only [itE, List.cons_append, List.mem_cons, List.mem_append, List.mem_flatMap, List.not_mem_nil, or_false] at hit
    rcases hit with rfl | ⟨k, _, rfl | rfl⟩ | rfl | rfl | rfl <;> exact w _ _ (by omega)
  · unfold itP at hit
    obtain ⟨p, _, hit⟩ := List.mem_flatMap.1 hit
    simp only [List.mem_cons, List.not_mem_nil, or_false] at hit
    rcases hit with rfl | rfl | rfl
    · exact w _ _ (by omega)
    · exact w _ _ (by omega)
    · obtain ⟨a, b⟩ := mm_at l h8 p
      refine ⟨⟨by omega, fun x hx => by have := b x hx; omega⟩, ?_⟩
      simp only [itB, List.length_append, be_length, be_flat_len]
      omega

/-- the bytes of an index -/
def bytesI (l : List Ep) : List Nat := (itemsOf l).flatMap itB
theorem bytesI_len {l : List Ep} (hn : l.length ≤ 10000) (hc : canE l = true) : (bytesI l).length ≤ 2 ^ 39 := by
  have h1 := items_len l hn (canE_ls8 hc)
  have h2 := flat_le itB 400000 (itemsOf l) (fun x hx => (item_ok hn hc x hx).2)
  unfold bytesI
  omega

/-! ### index.Encode -/

/-- what Encode answers -/
def EncIK (h : AH) (l : List Ep) (r : AV) (g : AH) : Prop :=
  if canE l = true then ∃ u, r = .tuple [u, .int .i64 0] ∧ Sl g 1 (bytesI l).length u (by8 (bytesI l)) ∧ Fr h g else r = .tuple [.nils, .int .i64 1] ∧ Fr h g

theorem index_Encode {h : AH} {n : Nat} {v : AV} {xs : List (AV × Ep)} (s : Sl h 5 n v (xs.flatMap enC)) (hn : n ≤ 10000) (he : ∀ x ∈ xs, EnOk h x ∧ Short x.2.ls ∧ x.2.ls.length < 2 ^ 62) :
    Ev P SI (.fn f_index_Encode) [v] h (EncIK h (xs.map (·.2))) := by
  refine ev_fn k_index_Encode rfl rfl ?_
  have hl : xs.length = n := by have := s.1; rw [en_len] at this; omega
  simp only [c_index_Encode, wpC_seq]
  simp
  refine (index_Can s (by omega) he).mono ?_
  rintro r g ⟨rfl, f1⟩
  cases hc : canE (xs.map (·.2)) with
  | false =>
    simp [EncIK, hc]
    exact f1
  | true =>
    have hll : (xs.map (·.2)).length ≤ 10000 := by rw [List.length_map]; omega
    have h8 := canE_ls8 hc
    simp
    refine (index_items (s.fr f1) (by omega) (fun x hx => ⟨(he x hx).1.fr f1, h8 x.2 (List.mem_map.2 ⟨x, hx, rfl⟩)⟩)).mono ?_
    rintro r g2 ⟨os, ho, f2, hok⟩
    generalize hits : itemsOf (xs.map (·.2)) = its at hok
    have hits2 : ∀ it ∈ its, itOk it ∧ (itB it).length ≤ 400000 := by rw [← hits]; exact item_ok hll hc
    have hnum : its.length ≤ 700000 := by rw [← hits]; exact items_len _ hll h8
    have hB : bytesI (xs.map (·.2)) = its.flatMap itB := by rw [bytesI, hits]
    have hBl := bytesI_len hll hc
    have osl := ho.sl.len
    have hlen : os.length = its.length := hok.1
    have pre : ∀ j, (((its.take j).flatMap itB).length) ≤ 2 ^ 39 := fun j => by
      have : (its.take j).flatMap itB <+: its.flatMap itB := by
        conv => rhs; rw [← List.take_append_drop j its]
        rw [List.flatMap_append]
        exact List.prefix_append _ _
      have := this.length_le
      rw [hB] at hBl
      omega
    simp [osl, -List.length_flatMap]
    refine w_count (n := os.length) (by rfl) (fun j σ ds g => ds = [] ∧ σ 4 = r ∧ σ 16 = r ∧ σ 17 = .int .i64 (os.length : Int) ∧ σ 5 = .int .i64 (((its.take j).flatMap itB).length : Int) ∧ Fr g2 g) (by omega) (by simp) ⟨rfl, by simp, by simp, by simp, by simp, .refl _⟩ (fun j σ ds g hJ => by simp [hJ.2.2.2.1]) ?_ ?_
    · rintro j σ ds g hj hi ⟨rfl, e4, e16, e17, e5, fr⟩
      obtain ⟨ov, hov⟩ := at_some (l := os) (j := j) hj
      obtain ⟨it, hit⟩ := at_some (l := its) (j := j) (by omega)
      have okv := OkI.fr fr (hok.2 j ov it hov hit)
      obtain ⟨id, o, a1, a2, _⟩ := (ho.sl.fr fr).get1 (k := .i64) (i := (j : Int)) rfl hj (x := ov) (by simpa using hov)
      obtain ⟨f, a, e1, e2⟩ := it_size okv (hits2 it (List.mem_of_getElem? hit)).1
      simp [e16, hi, a1, a2, e1, -List.length_flatMap]
      refine e2.mono ?_
      rintro r' g' ⟨rfl, f'⟩
      have p1 := pre j
      have p2 := pre (j + 1)
      have hsum : ((its.take (j + 1)).flatMap itB).length = ((its.take j).flatMap itB).length + (itB it).length := by
        rw [take_snoc _ _ _ hit, List.flatMap_append, List.length_append]; simp
      have w : wrapF .i64 ((((its.take j).flatMap itB).length : Int) + ((itB it).length : Int)) = (((its.take (j + 1)).flatMap itB).length : Int) := by
        rw [hsum, wrap_i64 (by omega) (by omega)]; omega
      obtain ⟨q1, hq1⟩ : ∃ q, ((its.take j).flatMap itB).length = q := ⟨_, rfl⟩
      obtain ⟨q2, hq2⟩ : ∃ q, ((its.take (j + 1)).flatMap itB).length = q := ⟨_, rfl⟩
      rw [hq1] at w e5
      rw [hq2] at w
      simp [e4, e5, e16, e17, hi, w, hq2, -List.length_flatMap]
      exact fr.trans f'
    · rintro σ ds g ⟨rfl, e4, e16, e17, e5, fr⟩
      rw [List.take_of_length_le (by omega), ← hB] at e5
      obtain ⟨g3, mk, bf, f3⟩ := Buf.make (B := h.next) (h := g) (cap := (bytesI (xs.map (·.2))).length) (by have := f1.next; have := f2.next; have := fr.next; omega) .i64 (by omega)
      obtain ⟨cap, hcap⟩ : ∃ q, (bytesI (xs.map (·.2))).length = q := ⟨_, rfl⟩
      rw [hcap] at mk bf e5
      simp [e4, e5, mk, osl, -List.length_flatMap]
      refine w_count (n := os.length) (by rfl) (fun j σ ds g' => ds = [] ∧ σ 29 = r ∧ σ 30 = .int .i64 (os.length : Int) ∧ FrB h.next g3 g' ∧ Fr h g' ∧ Buf h.next g' (((its.take j).flatMap itB).length) cap (σ 8) (by8 ((its.take j).flatMap itB)) ∧ idOf (σ 8) = some g.next ∧ (∀ i, i < g.next → g'.get i = g.get i)) (by omega) (by simp)
        ⟨rfl, by simp, by simp, .refl _ _, ((f1.trans f2).trans fr).trans f3, by simpa [by8] using bf, by simp [idOf], fun i hi => f3.get i hi⟩ (fun j σ ds g hJ => by simp [hJ.2.2.1]) ?_ ?_
      · rintro j σ' ds g' hj hi ⟨rfl, e29, e30, fb, fh, bfj, hid, hst⟩
        obtain ⟨ov, hov⟩ := at_some (l := os) (j := j) hj
        obtain ⟨it, hit⟩ := at_some (l := its) (j := j) (by omega)
        have fr' : Fr g g' := ⟨by have := f3.next; have := fb.next; omega, hst⟩
        have okv := OkI.fr (fr.trans fr') (hok.2 j ov it hov hit)
        obtain ⟨id, o, a1, a2, _⟩ := (ho.sl.fr (fr.trans fr')).get1 (k := .i64) (i := (j : Int)) rfl hj (x := ov) (by simpa using hov)
        obtain ⟨bv, hbv⟩ : ∃ bv, σ' 8 = bv := ⟨_, rfl⟩
        rw [hbv] at bfj hid
        simp [e29, hi, a1, a2, -List.length_flatMap]
        refine (index_bytesOf okv (hits2 it (List.mem_of_getElem? hit)).1).mono ?_
        rintro r' g4 ⟨ho4, f4⟩
        have hsum : ((its.take (j + 1)).flatMap itB).length = ((its.take j).flatMap itB).length + (itB it).length := by
          rw [take_snoc _ _ _ hit, List.flatMap_append, List.length_append]; simp
        have hle : ((its.take (j + 1)).flatMap itB).length ≤ cap := by
          have : (its.take (j + 1)).flatMap itB <+: its.flatMap itB := by
            conv => rhs; rw [← List.take_append_drop (j + 1) its]
            rw [List.flatMap_append]
            exact List.prefix_append _ _
          have := this.length_le
          rw [← hB, hcap] at this
          exact this
        obtain ⟨bv', g5, b1, b2, b3, b4, b5, b6⟩ := (bfj.fr f4).append (x := r') ho4.sl.cells (by simp) (by8_scalar _) (by omega)
        simp [hbv, b1, e29, e30, hi, -List.length_flatMap]
        refine ⟨?_, ?_, ?_, b5.trans hid, fun i hi' => ?_⟩
        · exact fb.trans ((f4.b (by have := fh.next; omega)).trans b3)
        · exact ⟨by have := fh.next; have := f4.next; omega, fun i hi' => by rw [b3.get i hi', f4.get i (by have := fh.next; omega)]; exact fh.get i hi'⟩
        · rw [hsum, take_snoc _ _ _ hit, List.flatMap_append, by8_append]
          rw [show [it].flatMap itB = itB it by simp]; exact b2
        · rw [b6 i (by rw [hid]; intro e; cases e; omega), f4.get i (by have := fr'.next; omega)]
          exact hst i hi'
      · rintro σ' ds g' ⟨rfl, e29, e30, fb, fh, bfj, hid, hst⟩
        rw [List.take_of_length_le (by omega), ← hB] at bfj
        simp [EncIK, hc]
        exact ⟨bfj.sl, fh⟩

end Go.Dk

namespace Go.Dk
open Go Go.Dr
set_option maxRecDepth 100000

/-! ### the document's answer: small things -/

theorem ref13_four (z : Int) (h : AH) (K : AV → AH → Prop) : Ev P SI (.fn f_ref13_four) [.int .i64 z] h K = K (.slice h.next 0 4 4 true 1) (h.push (.cells (by8 (be 4 (n64 z))) false)) := by
  refine Ev.eq (ev_fn k_ref13_four rfl rfl ?_) K
  have cp := ref01_Put (n64 z) 4 (n64_lt z) (by omega)
  rw [show ((4 : Nat) : Int) = 4 from rfl] at cp
  simp [c_ref13_four, wrap_n64, cp]
theorem ref10_Big (z : Int) (h : AH) (K : AV → AH → Prop) : Ev P SI (.fn f_ref10_Big) [.int .i64 z] h K = K (.slice h.next 0 8 8 true 1) (h.push (.cells (by8 (be 8 (n64 z))) false)) := by
  refine Ev.eq (ev_fn k_ref10_Big rfl rfl ?_) K
  have cp := ref01_Put (n64 z) 8 (n64_lt z) (by omega)
  rw [show ((8 : Nat) : Int) = 8 from rfl] at cp
  simp [c_ref10_Big, wrap_n64, cp]

theorem ref13_place {h : AH} {n : Nat} {v : AV} {T : List Txt} {s : Txt} (hv : Sl h 1 n v (tx T)) (hn : n ≤ 2 ^ 40) (hs : s ∈ T) (K : AV → AH → Prop) : Ev P SI (.fn f_ref13_place) [v, .str s] h K = K (.int .i64 (pl T s : Int)) h := by
  refine Ev.eq (ev_fn k_ref13_place rfl rfl ?_) K
  have hl : T.length = n := by have := hv.1; simpa [tx] using this
  have hp := pl_lt hs
  simp [c_ref13_place, hv.len]
  refine w_count (n := n) (by rfl) (fun j σ ds g => ds = [] ∧ σ 1 = .str s ∧ σ 7 = v ∧ σ 8 = .int .i64 (n : Int) ∧ g = h ∧ j ≤ pl T s) (by omega) (by simp) (by simp) (fun j σ ds g hJ => by simp [hJ.2.2.2.1]) ?_ ?_
  · rintro j σ ds g hj hi ⟨rfl, e1, e7, e8, rfl, hle⟩
    obtain ⟨x, hx⟩ := at_some (l := T) (j := j) (by omega)
    obtain ⟨id, o, a1, a2, _⟩ := hv.get1 (k := .i64) (i := (j : Int)) rfl hj (x := .str x) (by simp [tx, hx])
    by_cases he : x = s
    · subst he
      have : pl T x = j := by
        by_cases hlt : j < pl T x
        · exfalso
          have := List.not_of_lt_findIdx (p := fun y => y == x) (xs := T) (i := j) (by simpa [pl, List.idxOf] using hlt)
          simp [List.getElem?_eq_some_iff.1 hx |>.2] at this
        · omega
      simp [e1, e7, e8, hi, a1, a2, this]
    · have hne : j ≠ pl T s := fun e => he (by have := pl_get hs; rw [← e, hx] at this; exact Option.some.inj this)
      simp [e1, e7, e8, hi, a1, a2, he]
      omega
  · rintro σ ds g ⟨rfl, e1, e7, e8, rfl, hle⟩
    omega

/-- a label's value, or nothing -/
def getL : List Lab → Txt → Txt
  | [], _ => []
  | k :: l, n => if k.1 = n then k.2 else getL l n
theorem getL_drop : ∀ (l : List Lab) (j : Nat) (n : Txt), (∀ i x, i < j → l[i]? = some x → x.1 ≠ n) → getL l n = getL (l.drop j) n
  | l, 0, n, _ => rfl
  | [], j + 1, n, _ => by simp
  | k :: l, j + 1, n, h => by
    have h0 := h 0 k (by omega) rfl
    rw [getL, if_neg h0, List.drop_succ_cons]
    exact getL_drop l j n (fun i x hi hx => h (i + 1) x (by omega) (by simpa using hx))

theorem ref07_Get {h : AH} {n : Nat} {v : AV} {l : List Lab} {s : Txt} (hv : Sl h 2 n v (l.flatMap labC)) (hn : n ≤ 2 ^ 40) : Ev P SI (.fn f_ref07_Get) [v, .str s] h fun r g => r = .str (getL l s) ∧ Fr h g := by
  refine ev_fn k_ref07_Get rfl rfl ?_
  have hl := lab_len hv
  simp [c_ref07_Get, hv.len]
  refine w_count (n := n) (by rfl) (fun j σ ds g => ds = [] ∧ σ 1 = .str s ∧ σ 7 = v ∧ σ 8 = .int .i64 (n : Int) ∧ Fr h g ∧ ∀ i x, i < j → l[i]? = some x → x.1 ≠ s) (by omega) (by simp) ⟨rfl, by simp, by simp, by simp, .refl _, fun i x hi => by omega⟩ (fun j σ ds g hJ => by simp [hJ.2.2.2.1]) ?_ ?_
  · rintro j σ ds g hj hi ⟨rfl, e1, e7, e8, fr, hne⟩
    obtain ⟨⟨nm, vl⟩, hx⟩ := at_some (l := l) (j := j) (by omega)
    obtain ⟨i1, o1, a1, a2, _⟩ := lab_at (hv.fr fr) (k := .i64) (i := (j : Int)) rfl hx
    have stn := opStore_new (h := g) (n := 2) (z := [.str [], .str []]) (l := [.str nm, .str vl]) rfl rfl rfl
    have fp := Fr.push fr (.cells [.str nm, .str vl] false)
    have ge : (g.push (.cells [.str nm, .str vl] false)).get g.next = some (.cells [.str nm, .str vl] false) := get_push_new _
    have m0 : load1 (g.push (.cells [.str nm, .str vl] false)) g.next 0 = .ok (.str nm) := load1_of ge
    have m1 : load1 (g.push (.cells [.str nm, .str vl] false)) g.next 1 = .ok (.str vl) := load1_of ge
    by_cases he : nm = s
    · subst he
      have : getL l nm = vl := by
        rw [getL_drop l j nm hne, drop_at hx, getL, if_pos rfl]
      simp [e1, e7, e8, hi, a1, a2, opLoadN, stn, m0, m1, this]
      exact fp
    · simp [e1, e7, e8, hi, a1, a2, opLoadN, stn, m0, m1, he]
      refine ⟨fp, fun i a b hi' hx' => ?_⟩
      by_cases hij : i = j
      · subst hij; rw [hx] at hx'; cases hx'; exact he
      · exact hne i (a, b) (by omega) hx'
  · rintro σ ds g ⟨rfl, e1, e7, e8, fr, hne⟩
    have : getL l s = [] := by rw [getL_drop l n s hne, List.drop_of_length_le (by omega)]; rfl
    simp [this]
    exact fr

theorem asc_insert {α : Type} {lt : α → α → Prop} (ht : ∀ a b c, lt a b → lt b c → lt a c) {l : List α} {q : Nat} {s : α} (h : l.Pairwise lt) (h1 : ∀ x ∈ l.take q, lt x s) (h2 : ∀ x ∈ l.drop q, lt s x) : (l.take q ++ [s] ++ l.drop q).Pairwise lt := by
  rw [List.append_assoc, List.pairwise_append]
  refine ⟨h.sublist (List.take_sublist _ _), ?_, fun a ha b hb => ?_⟩
  · rw [List.singleton_append, List.pairwise_cons]
    exact ⟨h2, h.sublist (List.drop_sublist _ _)⟩
  · rw [List.singleton_append] at hb
    rcases List.mem_cons.1 hb with rfl | hb
    · exact h1 a ha
    · exact ht _ _ _ (h1 a ha) (h2 b hb)

theorem tx_scalar : ∀ (l : List Txt), allScalar (tx l) = true
  | [] => rfl
  | x :: l => by
    show (AV.scalar (.str x) && allScalar (tx l)) = true
    rw [tx_scalar l]; rfl
theorem tx_append (a b : List Txt) : tx (a ++ b) = tx a ++ tx b := by simp [tx]

/-- what 'with' answers -/
def WithK (h : AH) (n : Nat) (l : List Txt) (s : Txt) (r : AV) (g : AH) : Prop := ∃ l' n', Sl g 1 n' r (tx l') ∧ AscT l' ∧ (∀ x, x ∈ l' ↔ x ∈ l ∨ x = s) ∧ Fr h g ∧ n' ≤ n + 1

theorem ref13_with {h : AH} {n : Nat} {v : AV} {l : List Txt} {s : Txt} (hv : Sl h 1 n v (tx l)) (hA : AscT l) (hn : n ≤ 2 ^ 30) : Ev P SI (.fn f_ref13_with) [v, .str s] h (WithK h n l s) := by
  refine ev_fn k_ref13_with rfl rfl ?_
  have hl : l.length = n := by have := hv.1; simpa [tx] using this
  simp [c_ref13_with, hv.len]
  refine w_loop (fun q σ ds g => q ≤ n ∧ ds = [] ∧ σ 0 = v ∧ σ 1 = .str s ∧ σ 5 = .int .i64 (q : Int) ∧ g = h ∧ ∀ i y, q ≤ i → l[i]? = some y → Op.bytesLess y s = false) n ⟨Nat.le_refl _, rfl, by simp, by simp, by simp, rfl, fun i y hi hy => by have := (List.getElem?_eq_some_iff.1 hy).1; omega⟩ ?_
  rintro q σ ds g ⟨hq, rfl, e0, e1, e5, rfl, hge⟩
  obtain ⟨a, b, v1, g1, v2, g2, v3, g3, f1, f2, f3, f4, f5, f6, f7⟩ := ins3 (x := [.str s]) (bytes := 16) hv hq rfl (by rw [show tx l ++ [AV.str s] = tx (l ++ [s]) from by rw [tx_append]; rfl]; exact tx_scalar _) (by omega) (by omega) .i64 .i64
  -- where the loop ends
  have fin : (∀ i y, i < q → l[i]? = some y → Op.bytesLess y s = true) → (∀ y, l[q]? = some y → y ≠ s) → WithK g n l s v3 g3 := by
    intro hlt hne
    refine ⟨l.take q ++ [s] ++ l.drop q, n + 1, ?_, ?_, fun x => ?_, f7, Nat.le_refl _⟩
    · have := f6.sl
      rw [Nat.mul_one] at this
      rw [tx_append, tx_append]
      simpa [tx] using this
    · refine asc_insert ltT_trans hA (fun x hx => ?_) (fun x hx => ?_)
      · obtain ⟨i, hi1, hi2⟩ := List.mem_iff_getElem.1 hx
        rw [List.getElem_take] at hi2
        rw [List.length_take] at hi1
        exact hlt i x (by omega) (by rw [List.getElem?_eq_getElem (by omega), hi2])
      · obtain ⟨i, hi1, hi2⟩ := List.mem_iff_getElem.1 hx
        rw [List.getElem_drop] at hi2
        rw [List.length_drop] at hi1
        have hgx : l[q + i]? = some x := by rw [List.getElem?_eq_getElem (by omega), hi2]
        have hql : q < l.length := by omega
        obtain ⟨y, hy⟩ := at_some (l := l) (j := q) hql
        have h1 := hge q y (Nat.le_refl _) hy
        have h2 := hne y hy
        have h3 : ltT s y := by
          rcases less_tri y s with h | h | h
          · rw [h] at h1; cases h1
          · exact absurd h h2
          · exact h
        by_cases hi0 : i = 0
        · subst hi0; rw [Nat.add_zero, hy] at hgx; cases hgx; exact h3
        · have h4 : ltT y x := by
            have := List.pairwise_iff_getElem.1 hA q (q + i) hql (by omega) (by omega)
            rw [List.getElem?_eq_some_iff.1 hy |>.2, hi2] at this
            exact this
          exact ltT_trans _ _ _ h3 h4
    · have : x ∈ l ↔ x ∈ l.take q ∨ x ∈ l.drop q := by rw [← List.mem_append, List.take_append_drop]
      rw [this]; simp only [List.mem_append, List.mem_singleton]
      constructor
      · rintro ((a | a) | a)
        · exact .inl (.inl a)
        · exact .inr a
        · exact .inl (.inr a)
      · rintro ((a | a) | a)
        · exact .inl (.inl a)
        · exact .inr a
        · exact .inl (.inr a)
  have same : (∀ y, l[q]? = some y → y = s) → q < n → WithK g n l s v g := by
    intro he hqn
    obtain ⟨y, hy⟩ := at_some (l := l) (j := q) (by omega)
    have := he y hy
    subst this
    refine ⟨l, n, hv, hA, fun x => ?_, .refl _, Nat.le_succ _⟩
    constructor
    · exact .inl
    · rintro (h | rfl)
      · exact h
      · exact List.mem_of_getElem? hy
  -- behind the loop
  have after : ∀ σ' : Sg, σ' 0 = v → σ' 1 = .str s → σ' 5 = .int .i64 (q : Int) → (∀ i y, i < q → l[i]? = some y → Op.bytesLess y s = true) → True := fun _ _ _ _ _ => trivial
  by_cases hqn : q < n
  · obtain ⟨y, hy⟩ := at_some (l := l) (j := q) (by omega)
    obtain ⟨id, o, x1, x2, _⟩ := hv.get1 (k := .i64) (i := (q : Int)) rfl hqn (x := .str y) (by simp [tx, hy])
    cases q with
    | zero =>
      rw [show ((0 : Nat) : Int) = 0 from rfl] at f1 f2 x1 e5
      have hn0 : (0 : Int) < (n : Int) := by omega
      by_cases hys : y = s
      · subst hys
        simp [e0, e1, e5, hv.len, hqn, x1, x2]
        exact same (fun z hz => by rw [hy] at hz; cases hz; rfl) hqn
      · simp [e0, e1, e5, hv.len, hqn, x1, x2, hys, f1, f2, splice_eq, f3, f4, f5]
        exact fin (fun i y hi => by omega) (fun z hz => by rw [hy] at hz; cases hz; exact hys)
    | succ q =>
      obtain ⟨z, hz⟩ := at_some (l := l) (j := q) (by omega)
      obtain ⟨id2, o2, y1, y2, _⟩ := hv.get1 (k := .i64) (i := (q : Int)) rfl (by omega) (x := .str z) (by simp [tx, hz])
      have w0 : wrapF .i64 (q : Int) = (q : Int) := wrap_i64 (by omega) (by omega)
      have c0 : (0 : Int) < (q : Int) + 1 := by omega
      push_cast at f1 f2 x1 e5
      have c1 : (q : Int) + 1 < (n : Int) := by omega
      cases hc : Op.bytesLess z s with
      | false =>
        simp [e0, e1, e5, c0, w0, y1, y2, hc, Kloop_normal]
        refine ⟨q, by omega, by omega, rfl, fun i y' hi hy' => ?_⟩
        by_cases e : i = q
        · subst e; rw [hz] at hy'; cases hy'; exact hc
        · exact hge i y' (by omega) hy'
      | true =>
        have hlt : ∀ i y, i < q + 1 → l[i]? = some y → Op.bytesLess y s = true := fun i y' hi hy' => by
          by_cases e : i = q
          · subst e; rw [hz] at hy'; cases hy'; exact hc
          · have hil := (List.getElem?_eq_some_iff.1 hy').1
            have := List.pairwise_iff_getElem.1 hA i q hil (by omega) (by omega)
            rw [List.getElem?_eq_some_iff.1 hy' |>.2, List.getElem?_eq_some_iff.1 hz |>.2] at this
            exact less_trans this hc
        by_cases hys : y = s
        · subst hys
          simp [e0, e1, e5, c0, w0, y1, y2, hc, hv.len, c1, x1, x2]
          exact same (fun z hz => by rw [hy] at hz; cases hz; rfl) hqn
        · simp [e0, e1, e5, c0, w0, y1, y2, hc, hv.len, c1, x1, x2, hys, f1, f2, splice_eq, f3, f4, f5]
          exact fin hlt (fun z hz => by rw [hy] at hz; cases hz; exact hys)
  · have hqe : q = n := by omega
    subst hqe
    have hnone : ∀ y, l[q]? = some y → y ≠ s := fun y hy => by have := (List.getElem?_eq_some_iff.1 hy).1; omega
    cases q with
    | zero =>
      rw [show ((0 : Nat) : Int) = 0 from rfl] at f1 f2 e5
      simp [e0, e1, e5, hv.len, f1, f2, splice_eq, f3, f4, f5]
      exact fin (fun i y hi => by omega) hnone
    | succ q =>
      obtain ⟨z, hz⟩ := at_some (l := l) (j := q) (by omega)
      obtain ⟨id2, o2, y1, y2, _⟩ := hv.get1 (k := .i64) (i := (q : Int)) rfl (by omega) (x := .str z) (by simp [tx, hz])
      have w0 : wrapF .i64 (q : Int) = (q : Int) := wrap_i64 (by omega) (by omega)
      have c0 : (0 : Int) < (q : Int) + 1 := by omega
      have hvl := hv.len
      push_cast at f1 f2 e5 hvl
      cases hc : Op.bytesLess z s with
      | false =>
        simp [e0, e1, e5, c0, w0, y1, y2, hc, Kloop_normal]
        refine ⟨q, by omega, by omega, rfl, fun i y' hi hy' => ?_⟩
        by_cases e : i = q
        · subst e; rw [hz] at hy'; cases hy'; exact hc
        · exact hge i y' (by omega) hy'
      | true =>
        have hlt : ∀ i y, i < q + 1 → l[i]? = some y → Op.bytesLess y s = true := fun i y' hi hy' => by
          by_cases e : i = q
          · subst e; rw [hz] at hy'; cases hy'; exact hc
          · have hil := (List.getElem?_eq_some_iff.1 hy').1
            have := List.pairwise_iff_getElem.1 hA i q hil (by omega) (by omega)
            rw [List.getElem?_eq_some_iff.1 hy' |>.2, List.getElem?_eq_some_iff.1 hz |>.2] at this
            exact less_trans this hc
        simp [e0, e1, e5, c0, w0, y1, y2, hc, hvl, f1, f2, splice_eq, f3, f4, f5]
        exact fin hlt hnone

end Go.Dk

namespace Go.Dk
open Go Go.Dr
set_option maxRecDepth 100000

/-! ### the document's answer: all texts, an entry -/

/-- a list of texts that rises, with just these -/
def TxK (h : AH) (m : Nat) (p : Txt → Prop) (v : AV) (g : AH) : Prop := ∃ l n, Sl g 1 n v (tx l) ∧ AscT l ∧ (∀ x, x ∈ l ↔ p x) ∧ Fr h g ∧ n ≤ m

def inTx (l : List (List Lab)) (x : Txt) : Prop := ∃ y ∈ l, ∃ k ∈ y, x = k.1 ∨ x = k.2
theorem inTx_nil (l : List (List Lab)) (x : Txt) : inTx (l ++ [[]]) x ↔ inTx l x := by
  unfold inTx
  constructor
  · rintro ⟨y, hy, k, hk, h⟩
    rcases List.mem_append.1 hy with hy | hy
    · exact ⟨y, hy, k, hk, h⟩
    · rw [List.mem_singleton.1 hy] at hk; cases hk
  · rintro ⟨y, hy, k, hk, h⟩
    exact ⟨y, List.mem_append_left _ hy, k, hk, h⟩
theorem inTx_step (l : List (List Lab)) (r : List Lab) (k : Lab) (x : Txt) : inTx (l ++ [r ++ [k]]) x ↔ (inTx (l ++ [r]) x ∨ x = k.1) ∨ x = k.2 := by
  unfold inTx
  constructor
  · rintro ⟨y, hy, k', hk, h⟩
    rcases List.mem_append.1 hy with hy | hy
    · exact .inl (.inl ⟨y, List.mem_append_left _ hy, k', hk, h⟩)
    · rw [List.mem_singleton.1 hy] at hk
      rcases List.mem_append.1 hk with hk | hk
      · exact .inl (.inl ⟨r, List.mem_append_right _ (List.mem_singleton.2 rfl), k', hk, h⟩)
      · rw [List.mem_singleton.1 hk] at h
        rcases h with h | h
        · exact .inl (.inr h)
        · exact .inr h
  · have hk : k ∈ r ++ [k] := List.mem_append_right _ (List.mem_singleton.2 rfl)
    have hr : r ++ [k] ∈ l ++ [r ++ [k]] := List.mem_append_right _ (List.mem_singleton.2 rfl)
    rintro ((⟨y, hy, k', hk', h⟩ | h) | h)
    · rcases List.mem_append.1 hy with hy | hy
      · exact ⟨y, List.mem_append_left _ hy, k', hk', h⟩
      · rw [List.mem_singleton.1 hy] at hk'
        exact ⟨_, hr, k', List.mem_append_left _ hk', h⟩
    · exact ⟨_, hr, k, hk, .inl h⟩
    · exact ⟨_, hr, k, hk, .inr h⟩

theorem ref13_texts {h : AH} {n : Nat} {v : AV} {xs : List (AV × Ep)} (s : Sl h 5 n v (xs.flatMap enC)) (hn : n ≤ 100000) (he : ∀ x ∈ xs, EnOk h x ∧ x.2.ls.length ≤ 8) :
    Ev P SI (.fn f_ref13_texts) [v] h fun r g => ∃ T k, Sl g 1 k r (tx T) ∧ IsT T (xs.map (·.2.ls)) ∧ Fr h g ∧ k ≤ 16 * n := by
  refine ev_fn k_ref13_texts rfl rfl ?_
  have hl : xs.length = n := by have := s.1; rw [en_len] at this; omega
  simp [c_ref13_texts, s.len]
  refine w_count (n := n) (by rfl) (fun j σ ds g => ds = [] ∧ σ 8 = v ∧ σ 9 = .int .i64 (n : Int) ∧ TxK h (16 * j) (inTx ((xs.take j).map (·.2.ls))) (σ 3) g) (by omega) (by simp)
    ⟨rfl, by simp, by simp, [], 0, by simpa [tx] using Sl.nil 1, .nil, fun x => by simp [inTx], .refl _, by omega⟩ (fun j σ ds g hJ => by simp [hJ.2.2.1]) ?_ ?_
  · rintro j σ ds g hj hi ⟨rfl, e8, e9, l0, n0, sl0, as0, mem0, fr, hn0⟩
    obtain ⟨x, hx⟩ := at_some (l := xs) (j := j) (by omega)
    obtain ⟨hok, hl8⟩ := he x (List.mem_of_getElem? hx)
    obtain ⟨id, o, a1, a2, _⟩ := en_at (s.fr fr) hx
    have okg := hok.fr fr
    have hlc := Sl.oneCell okg
    have stn := opStore_new (h := g) (n := 5) (z := [.nils, .int .i64 0, .int .i64 0, .int .i64 0, .int .i64 0]) (l := enC x) rfl rfl (by simp [enC, allScalar, hlc.2])
    have fp := Fr.push (.refl g) (.cells (enC x) false)
    have ge : (g.push (.cells (enC x) false)).get g.next = some (.cells (enC x) false) := get_push_new _
    generalize hg1 : g.push (.cells (enC x) false) = g1 at *
    have m0 : load1 g1 g.next 0 = .ok x.1 := load1_of ge
    have lv : opLenV x.1 = .ok (.int .i64 (x.2.ls.length : Int)) := (okg.fr fp).len
    have hll := lab_len hok
    obtain ⟨tv, htv⟩ : ∃ tv, σ 3 = tv := ⟨_, rfl⟩
    rw [htv] at sl0
    simp [e8, hi, a1, opLoadN, a2, stn, m0, lv]
    refine w_count (n := x.2.ls.length) (by rfl) (fun i σ' ds g' => ds = [] ∧ σ' 8 = v ∧ σ' 9 = .int .i64 (n : Int) ∧ σ' 10 = .int .i64 (j : Int) ∧ σ' 15 = x.1 ∧ σ' 16 = .int .i64 (x.2.ls.length : Int) ∧
        TxK h (16 * j + 2 * i) (inTx ((xs.take j).map (·.2.ls) ++ [x.2.ls.take i])) (σ' 3) g') (by omega) (by simp)
      ⟨rfl, by simp [e8], by simp [e9], by simp [hi], by simp, by simp, l0, n0, by simpa [htv] using sl0.fr fp, as0, fun y => by rw [mem0, List.take_zero, inTx_nil], fr.trans fp, by omega⟩ (fun j σ ds g hJ => by simp [hJ.2.2.2.2.2.1]) ?_ ?_
    · rintro i σ' ds g' hi' hii ⟨rfl, f8, f9, f10, f15, f16, l1, n1, sl1, as1, mem1, fr1, hn1⟩
      obtain ⟨⟨nm, vl⟩, hk⟩ := at_some (l := x.2.ls) (j := i) hi'
      obtain ⟨i1, o1, b1, b2, _⟩ := lab_at (hok.fr fr1) (k := .i64) (i := (i : Int)) rfl hk
      obtain ⟨tv1, htv1⟩ : ∃ tv, σ' 3 = tv := ⟨_, rfl⟩
      rw [htv1] at sl1
      have stn2 := opStore_new (h := g') (n := 2) (z := [.str [], .str []]) (l := [.str nm, .str vl]) rfl rfl rfl
      have fp2 := Fr.push (.refl g') (.cells [.str nm, .str vl] false)
      have ge2 : (g'.push (.cells [.str nm, .str vl] false)).get g'.next = some (.cells [.str nm, .str vl] false) := get_push_new _
      have gn2 : (g'.push (.cells [.str nm, .str vl] false)).next = g'.next + 1 := rfl
      generalize hg2 : g'.push (.cells [.str nm, .str vl] false) = g2 at *
      have q0 : load1 g2 g'.next 0 = .ok (.str nm) := load1_of ge2
      have q1 : load1 g2 g'.next 1 = .ok (.str vl) := load1_of ge2
      simp [f15, hii, b1, b2, opLoadN, stn2, q0, q1, htv1]
      refine (ref13_with (sl1.fr fp2) as1 (by omega)).mono ?_
      rintro r1 g3 ⟨l2, n2, sl2, as2, mem2, f3, hn2⟩
      have q2 : load1 g3 g'.next 1 = .ok (.str vl) := load1_of (id := g'.next) (vs := [.str nm, .str vl]) (ro := false) (by rw [f3.get _ (by omega)]; exact ge2)
      simp [q2]
      refine (ref13_with sl2 as2 (by omega)).mono ?_
      rintro r2 g4 ⟨l3, n3, sl3, as3, mem3, f4, hn3⟩
      simp [f8, f9, f10, f15, f16, hii]
      refine ⟨l3, n3, sl3, as3, fun y => ?_, ((fr1.trans fp2).trans f3).trans f4, by omega⟩
      rw [mem3, mem2, mem1, ← List.map_take, take_snoc _ _ _ hk, inTx_step]
    · rintro σ' ds g' ⟨rfl, f8, f9, f10, f15, f16, l1, n1, sl1, as1, mem1, fr1, hn1⟩
      rw [List.take_of_length_le (l := x.2.ls) (Nat.le_refl _)] at mem1
      simp [f8, f9, f10, hi]
      refine ⟨l1, n1, sl1, as1, fun y => ?_, fr1, by omega⟩
      rw [mem1, ← List.map_take, take_snoc _ _ _ hx, List.map_append]
      rfl
  · rintro σ ds g ⟨rfl, e8, e9, l0, n0, sl0, as0, mem0, fr, hn0⟩
    rw [List.take_of_length_le (by omega)] at mem0
    simp
    exact ⟨l0, n0, sl0, ⟨as0, mem0⟩, fr, hn0⟩

end Go.Dk

namespace Go.Dk
open Go Go.Dr
set_option maxRecDepth 100000

/-- bytes just made, put behind ours -/
theorem app_put {B n k : Nat} {g : AH} {v : AV} {l bs : List Nat} (o : Own B g 1 n v (by8 l)) (hk : bs.length = k) (hB : B ≤ g.next) (hb : n + k ≤ 2 ^ 40) :
    ∃ v' g', opApp 1 1 v (.slice g.next 0 k k true 1) (g.push (.cells (by8 bs) false)) = okV v' g' ∧ Own B g' 1 (n + k) v' (by8 (l ++ bs)) ∧ FrB B g g' ∧
      (∀ i, i < g.next → idOf v ≠ some i → g'.get i = g.get i) ∧ g.next < g'.next ∧ ∀ i, idOf v' = some i → idOf v = some i ∨ g.next < i := by
  have fp := Fr.push (.refl g) (.cells (by8 bs) false)
  have sx := (Own.fresh (B := 0) (h := g) (es := 1) (n := k) (l := by8 bs) true (Nat.zero_le _) (by simp [hk])).sl
  obtain ⟨v', g', e, o2, f, p, q⟩ := (o.fr fp).append (bytes := 1) sx (Nat.le_succ_of_le hB) (by8_scalar _) (by omega) (by omega)
  have gn : (g.push (.cells (by8 bs) false)).next = g.next + 1 := rfl
  have fn := f.next
  refine ⟨v', g', e, by rw [by8_append]; exact o2, (fp.b hB).trans f, fun i hi hne => by rw [p i (by omega) hne, get_push_old (by omega)], by omega, fun i hi => ?_⟩
  rcases q i hi with h | h
  · exact .inl h
  · exact .inr (by omega)

def entOf (x : Ep) : Ent := ⟨x.ls, x.sz, x.mn, x.mx⟩

theorem labsB_snoc (T : List Txt) (l : List Lab) (k : Lab) : labsB T (l ++ [k]) = labsB T l ++ be 4 (pl T k.1) ++ be 4 (pl T k.2) := by
  simp [labsB]
theorem labsB_len (T : List Txt) (l : List Lab) : (labsB T l).length = 8 * l.length := by
  unfold labsB
  induction l with
  | nil => rfl
  | cons k l ih => rw [List.flatMap_cons, List.length_append, List.length_append, be_length, be_length, ih, List.length_cons]; omega
theorem entB_len (T : List Txt) (x : Ep) : (entB T (entOf x)).length = 21 + 8 * x.ls.length := by
  simp only [entB, entOf, List.cons_append, List.length_cons, List.length_append, be_length, labsB_len]; omega

theorem ref13_entry {h : AH} {n : Nat} {tv : AV} {T : List Txt} {x : AV × Ep} (ht : Sl h 1 n tv (tx T)) (hn : n ≤ 2 ^ 30) (hok : EnOk h x) (hl8 : x.2.ls.length ≤ 8) (hmem : ∀ k ∈ x.2.ls, k.1 ∈ T ∧ k.2 ∈ T) :
    Ev P SI (.fn f_ref13_entry) [tv, .agg (enC x)] h fun r g => Own h.next g 1 (21 + 8 * x.2.ls.length) r (by8 (entB T (entOf x.2))) ∧ Fr h g := by
  refine ev_fn k_ref13_entry rfl rfl ?_
  have hTl : T.length = n := by have := ht.1; simpa [tx] using this
  have hp4 : ∀ s, s ∈ T → n64 (pl T s : Int) = pl T s := fun s hs => n64_of_nat _ (by have := pl_lt hs; omega)
  have ge : (h.push (.cells (enC x) false)).get h.next = some (.cells (enC x) false) := get_push_new _
  have f1 : Fr h (h.push (.cells (enC x) false)) := Fr.push (.refl h) _
  have gn : (h.push (.cells (enC x) false)).next = h.next + 1 := rfl
  generalize hg1 : h.push (.cells (enC x) false) = g1 at *
  have m0 : load1 g1 h.next 0 = .ok x.1 := load1_of ge
  have lv : opLenV x.1 = .ok (.int .i64 (x.2.ls.length : Int)) := (hok.fr f1).len
  have w8 : wrapF .u8 (x.2.ls.length : Int) = (x.2.ls.length : Int) := wrap_u8 (by omega) (by omega)
  have m0' : load1 (g1.push (.cells [.int .u8 (x.2.ls.length : Int)] false)) h.next 0 = .ok x.1 := load1_of (id := h.next) (vs := enC x) (ro := false) (by rw [get_push_old (by omega)]; exact ge)
  have box : opNew (.agg (enC x) : AV).cells h = okV (.ptr h.next 0) g1 := by rw [← hg1]; rfl
  simp [c_ref13_entry, hg1, m0, lv, w8, splice_eq, m0']
  have o1 := Own.fresh (B := h.next + 1) (h := g1) (es := 1) (n := 1) (l := by8 [x.2.ls.length]) true (by omega) rfl
  have f2 : Fr h (g1.push (.cells [.int .u8 (x.2.ls.length : Int)] false)) := f1.push _
  refine w_count (n := x.2.ls.length) (by rfl) (fun j σ ds g => ds = [] ∧ σ 0 = tv ∧ σ 3 = .ptr h.next 0 ∧ σ 14 = x.1 ∧ σ 15 = .int .i64 (x.2.ls.length : Int) ∧ Fr h g ∧ g.get h.next = some (.cells (enC x) false) ∧ h.next < g.next ∧
      Own (h.next + 1) g 1 (1 + 8 * j) (σ 5) (by8 (x.2.ls.length :: labsB T (x.2.ls.take j)))) (by omega) (by simp)
    ⟨rfl, by simp, by simp, by simp, by simp, f2, by rw [get_push_old (by omega)]; exact ge, by show h.next < g1.next + 1; omega, by simpa [labsB, by8] using o1⟩ (fun j σ ds g hJ => by simp [hJ.2.2.2.2.1]) ?_ ?_
  · rintro j σ ds g hj hi ⟨rfl, e0, e3, e14, e15, fr, gx, hlt, ho⟩
    obtain ⟨⟨nm, vl⟩, hx⟩ := at_some (l := x.2.ls) (j := j) hj
    obtain ⟨hT1, hT2⟩ := hmem _ (List.mem_of_getElem? hx)
    obtain ⟨i1, o1', a1, a2, _⟩ := lab_at (hok.fr fr) (k := .i64) (i := (j : Int)) rfl hx
    obtain ⟨bv, hbv⟩ : ∃ bv, σ 5 = bv := ⟨_, rfl⟩
    rw [hbv] at ho
    have stn := opStore_new (h := g) (n := 2) (z := [.str [], .str []]) (l := [.str nm, .str vl]) rfl rfl rfl
    have fp := Fr.push (.refl g) (.cells [.str nm, .str vl] false)
    have ge2 : (g.push (.cells [.str nm, .str vl] false)).get g.next = some (.cells [.str nm, .str vl] false) := get_push_new _
    have gn2 : (g.push (.cells [.str nm, .str vl] false)).next = g.next + 1 := rfl
    have ho2 := ho.fr fp
    generalize hg2 : g.push (.cells [.str nm, .str vl] false) = g2 at *
    have q0 : load1 g2 g.next 0 = .ok (.str nm) := load1_of ge2
    have q1 : load1 g2 g.next 1 = .ok (.str vl) := load1_of ge2
    have pl1 := fun K => ref13_place (K := K) (ht.fr (fr.trans fp)) (by omega) hT1
    obtain ⟨b, hb⟩ : ∃ b, pl T nm = b := ⟨_, rfl⟩
    obtain ⟨c, hc⟩ : ∃ c, pl T vl = c := ⟨_, rfl⟩
    have hb4 := hp4 nm hT1
    have hc4 := hp4 vl hT2
    rw [hb] at hb4 pl1
    rw [hc] at hc4
    have q1b : load1 (g2.push (.cells (by8 (be 4 b)) false)) g.next 1 = .ok (.str vl) := load1_of (id := g.next) (vs := [.str nm, .str vl]) (ro := false) (by rw [get_push_old (by omega)]; exact ge2)
    obtain ⟨v3, g3, c1, o3, fb3, p3, n3, i3⟩ := app_put (bs := be 4 b) (k := 4) ho2 (by simp) (by omega) (by omega)
    have hidb : idOf bv ≠ some g.next := fun hid => by have := (own_id_lt ho hid).2; omega
    have ge3 : g3.get g.next = some (.cells [.str nm, .str vl] false) := by rw [p3 _ (by omega) hidb]; exact ge2
    have q2 : load1 g3 g.next 1 = .ok (.str vl) := load1_of ge3
    have fr3 : Fr h g3 := ⟨by have := fr.next; omega, fun i hi' => by rw [fb3.get i (by omega), ← hg2, get_push_old (by have := fr.next; omega)]; exact fr.get i hi'⟩
    have pl2 := fun K => ref13_place (K := K) (ht.fr fr3) (by omega) hT2
    rw [hc] at pl2
    obtain ⟨v4, g4, d1, o4, fb4, p4, n4, i4⟩ := app_put (bs := be 4 c) (k := 4) o3 (by simp) (by omega) (by omega)
    simp [e14, hi, a1, a2, opLoadN, stn, q0, q1, hbv, e0, pl1, ref13_four, hb4, q1b, c1, q2, pl2, hc4, d1, e3, e15]
    have hx3 : g2.get h.next = some (.cells (enC x) false) := by rw [← hg2, get_push_old (by omega)]; exact gx
    refine ⟨?_, ?_, by omega, ?_⟩
    · exact ⟨by have := fr3.next; omega, fun i hi' => by rw [fb4.get i (by omega)]; exact fr3.get i hi'⟩
    · rw [fb4.get _ (by omega), fb3.get _ (by omega)]; exact hx3
    · rw [take_snoc _ _ _ hx, labsB_snoc, hb, hc]
      have e1 : 1 + 8 * (j + 1) = 1 + 8 * j + 4 + 4 := by omega
      rw [e1]
      simp only [List.cons_append, List.append_assoc] at o4 ⊢
      exact o4
  · rintro σ ds g ⟨rfl, e0, e3, e14, e15, fr, gx, hlt, ho⟩
    rw [List.take_of_length_le (Nat.le_refl _)] at ho
    obtain ⟨bv, hbv⟩ : ∃ bv, σ 5 = bv := ⟨_, rfl⟩
    rw [hbv] at ho
    have m2 : ∀ g' : AH, g'.get h.next = some (.cells (enC x) false) → load1 g' h.next 2 = .ok (.int .i64 x.2.sz) := fun g' hg => load1_of (vs := enC x) (ro := false) hg
    have m3 : ∀ g' : AH, g'.get h.next = some (.cells (enC x) false) → load1 g' h.next 3 = .ok (.int .i64 x.2.mn) := fun g' hg => load1_of (vs := enC x) (ro := false) hg
    have m4 : ∀ g' : AH, g'.get h.next = some (.cells (enC x) false) → load1 g' h.next 4 = .ok (.int .i64 x.2.mx) := fun g' hg => load1_of (vs := enC x) (ro := false) hg
    obtain ⟨v1, g1', c1, o1', fb1, p1, n1, i1⟩ := app_put (bs := be 4 (n64 x.2.sz)) (k := 4) ho (by simp) (by omega) (by omega)
    obtain ⟨v2, g2, c2, o2, fb2, p2, n2, i2⟩ := app_put (bs := be 8 (n64 x.2.mn)) (k := 8) o1' (by simp) (by omega) (by omega)
    obtain ⟨v3, g3, c3, o3, fb3, p3, n3, i3⟩ := app_put (bs := be 8 (n64 x.2.mx)) (k := 8) o2 (by simp) (by omega) (by omega)
    have gx1 : g1'.get h.next = some (.cells (enC x) false) := by rw [fb1.get _ (by omega)]; exact gx
    have gx2 : g2.get h.next = some (.cells (enC x) false) := by rw [fb2.get _ (by omega)]; exact gx1
    have gp : ∀ (g' : AH) (o : AObj), h.next < g'.next → g'.get h.next = some (.cells (enC x) false) → (g'.push o).get h.next = some (.cells (enC x) false) := fun g' o hl hg => by rw [get_push_old (by omega)]; exact hg
    simp [hbv, e3, m2 g gx, m3 g gx, m4 g gx, ref13_four, ref10_Big, m3 _ (gp g _ hlt gx), m4 _ (gp g _ hlt gx), c1, m3 _ gx1, m4 _ gx1, m4 _ (gp g1' _ (by omega) gx1), c2, m4 _ gx2, c3]
    refine ⟨?_, ?_⟩
    · have e1 : 21 + 8 * x.2.ls.length = 1 + 8 * x.2.ls.length + 4 + 8 + 8 := by omega
      rw [e1]
      have := o3.base (B' := h.next) (by omega)
      simp only [entB, entOf, List.cons_append, List.append_assoc] at this ⊢
      exact this
    · exact ⟨by have := fr.next; omega, fun i hi' => by rw [fb3.get i (by omega), fb2.get i (by omega), fb1.get i (by omega)]; exact fr.get i hi'⟩

end Go.Dk

namespace Go.Dk
open Go Go.Dr
set_option maxRecDepth 100000

noncomputable def c_posts_m : CC :=
 (.block 2
  (.loop
  (.seq
  (.ops [
  .row ⟨(some 23), none, .bin .lss t_int false (.t 22) (.t 21)⟩])
  (.seq
  (.cond (.t 23)
  .skip
  (.exit 2))
  (.seq
  (.block 3
  (.seq
  (.ops [
  .row ⟨(some 24), none, .idxV 1 (.t 20) (.t 22)⟩,
  .row ⟨(some 25), none, .load1 (.t 24)⟩,
  .row ⟨(some 9), none, .move (.t 25)⟩])
  (.seq
  (.ops [
  .row ⟨(some 10), none, .move (.c .nils)⟩])
  (.seq
  (.ops [
  .row ⟨(some 11), none, .move (.c (.int .i64 0))⟩])
  (.seq
  (.seq
  (.ops [
  .row ⟨(some 26), none, .move (.t 1)⟩,
  .row ⟨(some 27), none, .lenV (.t 26)⟩,
  .row ⟨(some 28), none, .move (.c (.int .i64 0))⟩])
  (.block 4
  (.loop
  (.seq
  (.ops [
  .row ⟨(some 29), none, .bin .lss t_int false (.t 28) (.t 27)⟩])
  (.seq
  (.cond (.t 29)
  .skip
  (.exit 4))
  (.seq
  (.block 5
  (.seq
  (.ops [
  .row ⟨(some 30), none, .move (.t 28)⟩,
  .row ⟨(some 31), none, .idxV 5 (.t 26) (.t 28)⟩,
  .row ⟨(some 32), none, .loadN 5 (.t 31)⟩,
  .row ⟨(some 13), none, .new [.nils, (.int .i64 0), (.int .i64 0), (.int .i64 0), (.int .i64 0)]⟩,
  .row ⟨(some 12), none, .move (.t 30)⟩,
  .row ⟨none, none, .store 5 (.t 13) (.t 32)⟩])
  (.seq
  (.ops [
  .row ⟨(some 33), none, .fieldAddr 0 (.t 13)⟩,
  .row ⟨(some 34), none, .load1 (.t 33)⟩,
  .row ⟨(some 35), none, .move (.t 7)⟩,
  .row ⟨(some 36), none, .callV (.c (.func (.func f_ref07_Get) [] [])) [(.t 34), (.t 35)]⟩,
  .row ⟨(some 37), none, .move (.t 9)⟩,
  .row ⟨(some 38), none, .bin .eql t_string false (.t 36) (.t 37)⟩])
  (.cond (.t 38)
  (.seq
  (.ops [
  .row ⟨(some 39), none, .move (.t 10)⟩,
  .row ⟨(some 40), none, .move (.t 12)⟩,
  .row ⟨(some 41), none, .callV (.c (.func (.func f_ref13_four) [] [])) [(.t 40)]⟩,
  .row ⟨(some 42), none, .app 1 1 (.t 39) (.t 41)⟩,
  .row ⟨(some 10), none, .move (.t 42)⟩])
  (.ops [
  .row ⟨(some 43), none, .move (.t 11)⟩,
  .row ⟨(some 44), none, .bin .add t_int true (.t 43) (.c (.int .i64 1))⟩,
  .row ⟨(some 11), none, .move (.t 44)⟩]))
  .skip))))
  (.ops [
  .row ⟨(some 45), none, .bin .add t_int true (.t 28) (.c (.int .i64 1))⟩,
  .row ⟨(some 28), none, .move (.t 45)⟩])))))))
  (.seq
  (.ops [
  .row ⟨(some 46), none, .move (.t 11)⟩,
  .row ⟨(some 47), none, .bin .gtr t_int true (.t 46) (.c (.int .i64 0))⟩])
  (.cond (.t 47)
  (.ops [
  .row ⟨(some 48), none, .move (.t 5)⟩,
  .row ⟨(some 49), none, .move (.t 0)⟩,
  .row ⟨(some 50), none, .move (.t 7)⟩,
  .row ⟨(some 51), none, .callV (.c (.func (.func f_ref13_place) [] [])) [(.t 49), (.t 50)]⟩,
  .row ⟨(some 52), none, .callV (.c (.func (.func f_ref13_four) [] [])) [(.t 51)]⟩,
  .row ⟨(some 53), none, .app 1 1 (.t 48) (.t 52)⟩,
  .row ⟨(some 54), none, .move (.t 0)⟩,
  .row ⟨(some 55), none, .move (.t 9)⟩,
  .row ⟨(some 56), none, .callV (.c (.func (.func f_ref13_place) [] [])) [(.t 54), (.t 55)]⟩,
  .row ⟨(some 57), none, .callV (.c (.func (.func f_ref13_four) [] [])) [(.t 56)]⟩,
  .row ⟨(some 58), none, .app 1 1 (.t 53) (.t 57)⟩,
  .row ⟨(some 59), none, .move (.t 11)⟩,
  .row ⟨(some 60), none, .callV (.c (.func (.func f_ref13_four) [] [])) [(.t 59)]⟩,
  .row ⟨(some 61), none, .app 1 1 (.t 58) (.t 60)⟩,
  .row ⟨(some 62), none, .move (.t 10)⟩,
  .row ⟨(some 63), none, .app 1 1 (.t 61) (.t 62)⟩,
  .row ⟨(some 5), none, .move (.t 63)⟩])
  .skip)))))))
  (.ops [
  .row ⟨(some 64), none, .bin .add t_int true (.t 22) (.c (.int .i64 1))⟩,
  .row ⟨(some 22), none, .move (.t 64)⟩]))))))

noncomputable def c_posts_i : CC :=
 (.block 4
  (.loop
  (.seq
  (.ops [
  .row ⟨(some 29), none, .bin .lss t_int false (.t 28) (.t 27)⟩])
  (.seq
  (.cond (.t 29)
  .skip
  (.exit 4))
  (.seq
  (.block 5
  (.seq
  (.ops [
  .row ⟨(some 30), none, .move (.t 28)⟩,
  .row ⟨(some 31), none, .idxV 5 (.t 26) (.t 28)⟩,
  .row ⟨(some 32), none, .loadN 5 (.t 31)⟩,
  .row ⟨(some 13), none, .new [.nils, (.int .i64 0), (.int .i64 0), (.int .i64 0), (.int .i64 0)]⟩,
  .row ⟨(some 12), none, .move (.t 30)⟩,
  .row ⟨none, none, .store 5 (.t 13) (.t 32)⟩])
  (.seq
  (.ops [
  .row ⟨(some 33), none, .fieldAddr 0 (.t 13)⟩,
  .row ⟨(some 34), none, .load1 (.t 33)⟩,
  .row ⟨(some 35), none, .move (.t 7)⟩,
  .row ⟨(some 36), none, .callV (.c (.func (.func f_ref07_Get) [] [])) [(.t 34), (.t 35)]⟩,
  .row ⟨(some 37), none, .move (.t 9)⟩,
  .row ⟨(some 38), none, .bin .eql t_string false (.t 36) (.t 37)⟩])
  (.cond (.t 38)
  (.seq
  (.ops [
  .row ⟨(some 39), none, .move (.t 10)⟩,
  .row ⟨(some 40), none, .move (.t 12)⟩,
  .row ⟨(some 41), none, .callV (.c (.func (.func f_ref13_four) [] [])) [(.t 40)]⟩,
  .row ⟨(some 42), none, .app 1 1 (.t 39) (.t 41)⟩,
  .row ⟨(some 10), none, .move (.t 42)⟩])
  (.ops [
  .row ⟨(some 43), none, .move (.t 11)⟩,
  .row ⟨(some 44), none, .bin .add t_int true (.t 43) (.c (.int .i64 1))⟩,
  .row ⟨(some 11), none, .move (.t 44)⟩]))
  .skip))))
  (.ops [
  .row ⟨(some 45), none, .bin .add t_int true (.t 28) (.c (.int .i64 1))⟩,
  .row ⟨(some 28), none, .move (.t 45)⟩]))))))

theorem getL_iff : ∀ (l : List Lab) (n v : Txt), Parted l → v ≠ [] → (getL l n = v ↔ (n, v) ∈ l)
  | [], n, v, _, hv => by simp [getL]; exact fun h => hv h
  | k :: l, n, v, hp, hv => by
    have hp2 : Parted l := (List.nodup_cons.1 hp).2
    unfold getL
    by_cases hk : k.1 = n
    · rw [if_pos hk]
      constructor
      · rintro rfl; rw [← hk]; exact List.mem_cons_self
      · intro h
        rcases List.mem_cons.1 h with h | h
        · rw [← h]
        · have hm : k.1 ∈ l.map (·.1) := List.mem_map.2 ⟨(n, v), h, hk.symm⟩
          exact absurd hm (List.nodup_cons.1 hp).1
    · rw [if_neg hk, getL_iff l n v hp2 hv]
      constructor
      · exact List.mem_cons_of_mem _
      · intro h
        rcases List.mem_cons.1 h with h | h
        · rw [← h] at hk; exact absurd rfl hk
        · exact h

/-- the places among the first entries -/
def plcJ (l : List Ent) (k : LabP) (j : Nat) : List Nat := (List.range j).filter fun i => match l[i]? with | some x => decide (k ∈ x.ls) | none => false
theorem plcJ_succ (l : List Ent) (k : LabP) (j : Nat) (x : Ent) (hx : l[j]? = some x) : plcJ l k (j + 1) = plcJ l k j ++ if k ∈ x.ls then [j] else [] := by
  unfold plcJ
  rw [List.range_succ, List.filter_append]
  congr 1
  by_cases h : k ∈ x.ls <;> simp [hx, h]
theorem plcJ_le (l : List Ent) (k : LabP) (j : Nat) : (plcJ l k j).length ≤ j := by
  have := List.length_filter_le (fun i => match l[i]? with | some x => decide (k ∈ x.ls) | none => false) (List.range j)
  rw [List.length_range] at this
  exact this

/-- the places of one label -/
theorem posts_i {Q : Post} {σ : Sg} {h g0 : AH} {n : Nat} {v : AV} {xs : List (AV × Ep)} {nm vl : Txt} (h7 : σ 7 = .str nm) (h9 : σ 9 = .str vl) (h10 : σ 10 = .nils) (h11 : σ 11 = .int .i64 0) (h26 : σ 26 = v) (h27 : σ 27 = .int .i64 (n : Int)) (h28 : σ 28 = .int .i64 0)
    (s : Sl h 5 n v (xs.flatMap enC)) (hn : n ≤ 100000) (he : ∀ x ∈ xs, EnOk h x ∧ x.2.ls.length ≤ 8 ∧ Parted x.2.ls) (f0 : Fr h g0) (hvl : vl ≠ [])
    (hQ : ∀ σ' g' pv, σ' 10 = pv → σ' 11 = .int .i64 ((plc (xs.map fun x => entOf x.2) (nm, vl)).length : Int) → (∀ t, t < 10 ∨ (13 < t ∧ t < 28) → σ' t = σ t) → Fr g0 g' →
      Own g0.next g' 1 (4 * (plc (xs.map fun x => entOf x.2) (nm, vl)).length) pv (by8 ((plc (xs.map fun x => entOf x.2) (nm, vl)).flatMap (be 4))) → Q .normal σ' [] g') :
    wpC P SI c_posts_i Q σ [] g0 := by
  have hl : xs.length = n := by have := s.1; rw [en_len] at this; omega
  generalize hents : (xs.map fun x => entOf x.2) = ents at *
  have hel : ents.length = n := by rw [← hents, List.length_map, hl]
  simp only [c_posts_i, wpC_block]
  refine w_count (n := n) (by rfl) (fun j σ' ds g => ds = [] ∧ (∀ t, t < 10 ∨ (13 < t ∧ t < 28) → σ' t = σ t) ∧ Fr g0 g ∧ σ' 11 = .int .i64 ((plcJ ents (nm, vl) j).length : Int) ∧ Own g0.next g 1 (4 * (plcJ ents (nm, vl) j).length) (σ' 10) (by8 ((plcJ ents (nm, vl) j).flatMap (be 4)))) (by omega) h28
    ⟨rfl, fun _ _ => rfl, .refl _, by simp [plcJ, h11], by rw [h10]; simpa [plcJ, by8] using Own.nil (h := g0) g0.next 1⟩ ?_ ?_ ?_
  · rintro j σ' ds g ⟨rfl, hσ, _⟩
    simp [hσ 27 (by omega), h27]
  · rintro j σ' ds g hj hi ⟨rfl, hσ, fr, e11, ho⟩
    obtain ⟨x, hx⟩ := at_some (l := xs) (j := j) (by omega)
    obtain ⟨hok, hl8, hpt⟩ := he x (List.mem_of_getElem? hx)
    have hxe : ents[j]? = some (entOf x.2) := by rw [← hents]; simp [hx]
    have fh := f0.trans fr
    obtain ⟨id, o, a1, a2, _⟩ := en_at (s.fr fh) hx
    have okg := hok.fr fh
    have hlc := Sl.oneCell okg
    have e7 := (hσ 7 (by omega)).trans h7
    have e9 := (hσ 9 (by omega)).trans h9
    have e26 := (hσ 26 (by omega)).trans h26
    obtain ⟨pv, hpv⟩ : ∃ pv, σ' 10 = pv := ⟨_, rfl⟩
    rw [hpv] at ho
    have stn := opStore_new (h := g) (n := 5) (z := [.nils, .int .i64 0, .int .i64 0, .int .i64 0, .int .i64 0]) (l := enC x) rfl rfl (by simp [enC, allScalar, hlc.2])
    have fp := Fr.push (.refl g) (.cells (enC x) false)
    have ge : (g.push (.cells (enC x) false)).get g.next = some (.cells (enC x) false) := get_push_new _
    generalize hg1 : g.push (.cells (enC x) false) = g1 at *
    have m0 : load1 g1 g.next 0 = .ok x.1 := load1_of ge
    simp [hi, e26, a1, opLoadN, a2, stn, m0, e7]
    refine (ref07_Get (okg.fr fp) (by omega)).mono ?_
    rintro r g2 ⟨rfl, f2⟩
    have hlen := plcJ_le ents (nm, vl) j
    have hsucc := plcJ_succ ents (nm, vl) j _ hxe
    have hiff := getL_iff x.2.ls nm vl hpt hvl
    by_cases hg : getL x.2.ls nm = vl
    · rw [if_pos (show (nm, vl) ∈ (entOf x.2).ls from hiff.1 hg)] at hsucc
      have F2 : Fr g0 g2 := (fr.trans fp).trans f2
      have ho2 := (ho.fr fp).fr f2
      obtain ⟨c, hc⟩ : ∃ c, (plcJ ents (nm, vl) j).length = c := ⟨_, rfl⟩
      rw [hc] at e11 ho2 hlen
      have hn64 : n64 (j : Int) = j := n64_of_nat j (by omega)
      obtain ⟨v3, g3, c1, o3, fb3, p3, n3, i3⟩ := app_put (bs := be 4 j) (k := 4) ho2 (by simp) F2.next (by omega)
      have w : wrapF .i64 ((c : Int) + 1) = (c : Int) + 1 := wrap_i64 (by omega) (by omega)
      simp [e9, hg, hpv, ref13_four, hn64, c1, e11, w, hi, -List.length_flatMap]
      refine ⟨fun t ht => ?_, ?_, ?_, ?_⟩
      · repeat rw [if_neg (by omega)]
        exact hσ t ht
      · exact ⟨by have := F2.next; omega, fun i hi' => by rw [fb3.get i hi']; exact F2.get i hi'⟩
      · rw [hsucc]; simp [hc]
      · rw [hsucc, List.length_append, hc, List.flatMap_append]
        simpa [Nat.mul_add] using o3
    · rw [if_neg (show ¬ (nm, vl) ∈ (entOf x.2).ls from fun hm => hg (hiff.2 hm)), List.append_nil] at hsucc
      simp [e9, hg, e11, hi, hpv, -List.length_flatMap]
      refine ⟨fun t ht => ?_, (fr.trans fp).trans f2, ?_, ?_⟩
      · repeat rw [if_neg (by omega)]
        exact hσ t ht
      · rw [hsucc]
      · rw [hsucc]; exact (ho.fr fp).fr f2
  · rintro σ' ds g ⟨rfl, hσ, fr, e11, ho⟩
    simp
    have hpe : plcJ ents (nm, vl) n = plc ents (nm, vl) := by unfold plcJ plc; rw [hel]; rfl
    rw [hpe] at e11 ho
    exact hQ _ g (σ' 10) (by simp) (by simpa using e11) (fun t ht => by simp only [upd_some]; rw [if_neg (by omega)]; exact hσ t ht) fr ho

end Go.Dk

namespace Go.Dk
open Go Go.Dr
set_option maxRecDepth 100000

theorem flat_prefix {α β : Type} (f : α → List β) (l : List α) (j : Nat) : ((l.take j).flatMap f).length ≤ (l.flatMap f).length := by
  have : (l.take j).flatMap f <+: l.flatMap f := by
    conv => rhs; rw [← List.take_append_drop j l]
    rw [List.flatMap_append]
    exact List.prefix_append _ _
  exact this.length_le

/-- all values of one name -/
theorem posts_m {Q : Post} {σ : Sg} {h g0 : AH} {n k m : Nat} {v tv ov : AV} {xs : List (AV × Ep)} {T : List Txt} {nm : Txt} {b0 : List Nat} (h0 : σ 0 = tv) (h1 : σ 1 = v) (h5 : σ 5 = ov) (h7 : σ 7 = .str nm) (h20 : σ 20 = tv) (h21 : σ 21 = .int .i64 (k : Int)) (h22 : σ 22 = .int .i64 0)
    (s : Sl h 5 n v (xs.flatMap enC)) (hn : n ≤ 100000) (he : ∀ x ∈ xs, EnOk h x ∧ x.2.ls.length ≤ 8 ∧ Parted x.2.ls) (ht : Sl h 1 k tv (tx T)) (hk : k ≤ 2 ^ 30) (hne : ∀ y ∈ T, y ≠ []) (hnm : nm ∈ T) (f0 : Fr h g0)
    (ho : Own h.next g0 1 m ov (by8 b0)) (hm : b0.length = m) (hb : m + (T.flatMap fun v => post1 T (xs.map fun x => entOf x.2) (nm, v)).length ≤ 2 ^ 39)
    (hQ : ∀ σ' g' ov', σ' 5 = ov' → (∀ t, t ≠ 5 → (t < 9 ∨ (13 < t ∧ t < 20)) → σ' t = σ t) → Fr h g' →
      Own h.next g' 1 (m + (T.flatMap fun v => post1 T (xs.map fun x => entOf x.2) (nm, v)).length) ov' (by8 (b0 ++ T.flatMap fun v => post1 T (xs.map fun x => entOf x.2) (nm, v))) → Q .normal σ' [] g') :
    wpC P SI c_posts_m Q σ [] g0 := by
  have hTl : T.length = k := by have := ht.1; simpa [tx] using this
  have hp4 : ∀ s, s ∈ T → n64 (pl T s : Int) = pl T s := fun s hs => n64_of_nat _ (by have := pl_lt hs; omega)
  generalize hents : (xs.map fun x => entOf x.2) = ents at *
  simp only [c_posts_m, wpC_block]
  refine w_count (n := k) (by rfl) (fun j σ' ds g => ds = [] ∧ (∀ t, t ≠ 5 → (t < 9 ∨ (13 < t ∧ t < 20)) → σ' t = σ t) ∧ σ' 20 = tv ∧ σ' 21 = .int .i64 (k : Int) ∧ Fr h g ∧
      Own h.next g 1 (m + ((T.take j).flatMap fun v => post1 T ents (nm, v)).length) (σ' 5) (by8 (b0 ++ (T.take j).flatMap fun v => post1 T ents (nm, v)))) (by omega) h22
    ⟨rfl, fun _ _ _ => rfl, h20, h21, f0, by rw [h5]; simpa using ho⟩ (fun j σ ds g hJ => by simp [hJ.2.2.2.1]) ?_ ?_
  · rintro j σ' ds g hj hi ⟨rfl, hσ, e20, e21, fr, hoj⟩
    obtain ⟨vl, hx⟩ := at_some (l := T) (j := j) (by omega)
    have hvl := List.mem_of_getElem? hx
    obtain ⟨id, o, a1, a2, _⟩ := (ht.fr fr).get1 (k := .i64) (i := (j : Int)) rfl hj (x := .str vl) (by simp [tx, hx])
    have e0 := (hσ 0 (by omega) (by omega)).trans h0
    have e1 := (hσ 1 (by omega) (by omega)).trans h1
    have e7 := (hσ 7 (by omega) (by omega)).trans h7
    obtain ⟨ov1, hov⟩ : ∃ ov1, σ' 5 = ov1 := ⟨_, rfl⟩
    rw [hov] at hoj
    have hpre := flat_prefix (fun v => post1 T ents (nm, v)) T (j + 1)
    have hsn : (T.take (j + 1)).flatMap (fun v => post1 T ents (nm, v)) = (T.take j).flatMap (fun v => post1 T ents (nm, v)) ++ post1 T ents (nm, vl) := by
      rw [take_snoc _ _ _ hx, List.flatMap_append]; simp
    rw [hsn, List.length_append] at hpre
    generalize hB : (T.take j).flatMap (fun v => post1 T ents (nm, v)) = B at *
    have sl := (s.fr fr).len
    simp only [wpC_seq]
    simp [hi, e20, a1, a2, e1, sl, -List.length_flatMap]
    refine posts_i (h := h) (n := n) (v := v) (xs := xs) (nm := nm) (vl := vl) (by simp [e7]) (by simp) (by simp) (by simp) (by simp [e1]) (by simp) (by simp) s hn he fr (hne vl hvl) ?_
    intro σ2 g2 pv h210 h211 hσ2 f2 op
    rw [hents] at h211 op
    have z0 : σ2 0 = tv := by rw [hσ2 0 (by omega)]; simp [e0]
    have z5 : σ2 5 = ov1 := by rw [hσ2 5 (by omega)]; simp [hov]
    have z7 : σ2 7 = .str nm := by rw [hσ2 7 (by omega)]; simp [e7]
    have z9 : σ2 9 = .str vl := by rw [hσ2 9 (by omega)]; simp
    have z20 : σ2 20 = tv := by rw [hσ2 20 (by omega)]; simp [e20]
    have z21 : σ2 21 = .int .i64 (k : Int) := by rw [hσ2 21 (by omega)]; simp [e21]
    have z22 : σ2 22 = .int .i64 (j : Int) := by rw [hσ2 22 (by omega)]; simp [hi]
    have hpost : post1 T ents (nm, vl) = if plc ents (nm, vl) = [] then [] else be 4 (pl T nm) ++ be 4 (pl T vl) ++ be 4 (plc ents (nm, vl)).length ++ (plc ents (nm, vl)).flatMap (be 4) := rfl
    rw [hsn]
    rw [hpost] at hpre ⊢
    have hplen : (plc ents (nm, vl)).length ≤ n := by
      have := plcJ_le ents (nm, vl) ents.length
      have e : plcJ ents (nm, vl) ents.length = plc ents (nm, vl) := rfl
      rw [e, ← hents, List.length_map] at this
      have hl : xs.length = n := by have := s.1; rw [en_len] at this; omega
      rw [← hents]; omega
    generalize hP : plc ents (nm, vl) = P' at *
    by_cases hPe : P' = []
    · subst hPe
      simp [h211, z20, z21, z22, -List.length_flatMap]
      refine ⟨fun t h1 h2 => ?_, fr.trans f2, ?_⟩
      · repeat rw [if_neg (by omega)]
        rw [hσ2 t (by omega)]
        simp only [upd_some]
        repeat rw [if_neg (by omega)]
        exact hσ t h1 h2
      · rw [z5]; exact hoj.fr f2
    · rw [if_neg hPe] at hpre ⊢
      have hc0 : 0 < P'.length := List.length_pos_iff.2 hPe
      have hc0' : (0 : Int) < (P'.length : Int) := by omega
      have F2 := fr.trans f2
      obtain ⟨b, hb'⟩ : ∃ b, pl T nm = b := ⟨_, rfl⟩
      obtain ⟨c, hc'⟩ : ∃ c, pl T vl = c := ⟨_, rfl⟩
      have hb4 := hp4 nm hnm
      have hc4 := hp4 vl hvl
      have hq4 : n64 (P'.length : Int) = P'.length := n64_of_nat _ (by omega)
      rw [hb'] at hb4 hpre ⊢
      rw [hc'] at hc4 hpre ⊢
      have oj2 := hoj.fr f2
      simp only [List.length_append, be_length, be_flat_len] at hpre
      have hBm : (b0 ++ B).length = m + B.length := by rw [List.length_append, hm]
      obtain ⟨v3, g3, c1, o3, fb3, p3, n3, i3⟩ := app_put (bs := be 4 b) (k := 4) oj2 (by simp) F2.next (by omega)
      obtain ⟨v4, g4, c2, o4, fb4, p4, n4, i4⟩ := app_put (bs := be 4 c) (k := 4) o3 (by simp) (by have := F2.next; omega) (by omega)
      obtain ⟨v5, g5, c3, o5, fb5, p5, n5, i5⟩ := app_put (bs := be 4 P'.length) (k := 4) o4 (by simp) (by have := F2.next; omega) (by omega)
      have F3 : Fr h g3 := ⟨by have := F2.next; omega, fun i hi' => by rw [fb3.get i hi']; exact F2.get i hi'⟩
      have F4 : Fr h g4 := ⟨by have := F3.next; omega, fun i hi' => by rw [fb4.get i hi']; exact F3.get i hi'⟩
      have F5 : Fr h g5 := ⟨by have := F4.next; omega, fun i hi' => by rw [fb5.get i hi']; exact F4.get i hi'⟩
      -- the places stay
      have hpid : ∀ i, idOf pv = some i → g.next ≤ i ∧ i < g2.next := fun i hi' => own_id_lt op hi'
      have hoid : ∀ i, idOf ov1 = some i → i < g.next := fun i hi' => (own_id_lt hoj hi').2
      have d3 : ∀ i, idOf pv = some i → idOf v3 ≠ some i := fun i hi' hv => by
        have := hpid i hi'
        rcases i3 i hv with h | h
        · have := hoid i h; omega
        · omega
      have d4 : ∀ i, idOf pv = some i → idOf v4 ≠ some i := fun i hi' hv => by
        have := hpid i hi'
        rcases i4 i hv with h | h
        · exact d3 i hi' h
        · omega
      have sp5 : Sl g5 1 (4 * P'.length) pv (by8 (P'.flatMap (be 4))) := Sl.same_get op.sl (by omega) (fun i hi' => by
        have := hpid i hi'
        rw [p5 i (by omega) (d4 i hi'), p4 i (by omega) (d3 i hi'), p3 i (by omega) (fun hv => by have := hoid i hv; omega)])
      obtain ⟨v6, g6, c4, o6, fb6, p6, q6⟩ := o5.append (bytes := 1) sp5 (by have := F5.next; omega) (by8_scalar _) (by omega) (by omega)
      have pl1 := fun K => ref13_place (K := K) (ht.fr F2) (by omega) hnm
      have pl2 := fun K => ref13_place (K := K) (ht.fr F3) (by omega) hvl
      rw [hb'] at pl1
      rw [hc'] at pl2
      simp [h211, hc0, z5, z0, z7, pl1, ref13_four, hb4, c1, z9, pl2, hc4, c2, hq4, c3, h210, c4, z20, z21, z22, -List.length_flatMap]
      refine ⟨fun t h1 h2 => ?_, ⟨by have := F5.next; have := fb6.next; omega, fun i hi' => by rw [fb6.get i hi']; exact F5.get i hi'⟩, ?_⟩
      · repeat rw [if_neg (by omega)]
        rw [hσ2 t (by omega)]
        simp only [upd_some]
        repeat rw [if_neg (by omega)]
        exact hσ t h1 h2
      · have e1 : m + (B.length + (4 + (4 + (4 + (P'.flatMap (be 4)).length)))) = m + B.length + 4 + 4 + 4 + 4 * P'.length := by
          rw [be_flat_len]; omega
        have e2 : by8 (b0 ++ (B ++ (be 4 b ++ (be 4 c ++ (be 4 P'.length ++ P'.flatMap (be 4)))))) = by8 (b0 ++ B ++ be 4 b ++ be 4 c ++ be 4 P'.length) ++ by8 (P'.flatMap (be 4)) := by
          rw [← by8_append]; simp only [List.append_assoc]
        rw [e1, e2]
        exact o6
  · rintro σ' ds g ⟨rfl, hσ, e20, e21, fr, hoj⟩
    rw [List.take_of_length_le (by omega)] at hoj
    simp
    exact hQ _ g (σ' 5) (by simp) (fun t h1 h2 => by simp only [upd_some]; rw [if_neg (by omega)]; exact hσ t h1 h2) fr hoj

/-- what postings answers -/
theorem ref13_postings {h : AH} {n k : Nat} {v tv : AV} {xs : List (AV × Ep)} {T : List Txt} (s : Sl h 5 n v (xs.flatMap enC)) (hn : n ≤ 100000) (he : ∀ x ∈ xs, EnOk h x ∧ x.2.ls.length ≤ 8 ∧ Parted x.2.ls) (ht : Sl h 1 k tv (tx T)) (hk : k ≤ 2 ^ 30) (hne : ∀ y ∈ T, y ≠ [])
    (hb : (postsB T (xs.map fun x => entOf x.2)).length ≤ 2 ^ 39) :
    Ev P SI (.fn f_ref13_postings) [tv, v] h fun r g => Own h.next g 1 (postsB T (xs.map fun x => entOf x.2)).length r (by8 (postsB T (xs.map fun x => entOf x.2))) ∧ Fr h g := by
  refine ev_fn k_ref13_postings rfl rfl ?_
  have hTl : T.length = k := by have := ht.1; simpa [tx] using this
  generalize hents : (xs.map fun x => entOf x.2) = ents at *
  simp [c_ref13_postings, ht.len, -List.length_flatMap]
  refine w_count (n := k) (by rfl) (fun j σ ds g => ds = [] ∧ σ 0 = tv ∧ σ 1 = v ∧ σ 14 = tv ∧ σ 15 = .int .i64 (k : Int) ∧ Fr h g ∧
      Own h.next g 1 ((T.take j).flatMap fun nm => T.flatMap fun v => post1 T ents (nm, v)).length (σ 5) (by8 ((T.take j).flatMap fun nm => T.flatMap fun v => post1 T ents (nm, v)))) (by omega) (by simp)
    ⟨rfl, by simp, by simp, by simp, by simp, .refl _, by simpa [by8] using Own.nil (h := h) h.next 1⟩ (fun j σ ds g hJ => by simp [hJ.2.2.2.2.1]) ?_ ?_
  · rintro j σ ds g hj hi ⟨rfl, e0, e1, e14, e15, fr, ho⟩
    obtain ⟨nm, hx⟩ := at_some (l := T) (j := j) (by omega)
    have hnm := List.mem_of_getElem? hx
    obtain ⟨id, o, a1, a2, _⟩ := (ht.fr fr).get1 (k := .i64) (i := (j : Int)) rfl hj (x := .str nm) (by simp [tx, hx])
    have hpre := flat_prefix (fun nm => T.flatMap fun v => post1 T ents (nm, v)) T (j + 1)
    have hsn : (T.take (j + 1)).flatMap (fun nm => T.flatMap fun v => post1 T ents (nm, v)) = (T.take j).flatMap (fun nm => T.flatMap fun v => post1 T ents (nm, v)) ++ T.flatMap fun v => post1 T ents (nm, v) := by
      rw [take_snoc _ _ _ hx, List.flatMap_append]; simp
    rw [hsn, List.length_append] at hpre
    generalize hB : (T.take j).flatMap (fun nm => T.flatMap fun v => post1 T ents (nm, v)) = B at *
    have hpb : (T.flatMap fun nm => T.flatMap fun v => post1 T ents (nm, v)).length ≤ 2 ^ 39 := hb
    have tl := (ht.fr fr).len
    simp only [wpC_seq]
    simp [hi, e14, a1, a2, e0, tl, -List.length_flatMap]
    refine posts_m (h := h) (n := n) (k := k) (m := B.length) (v := v) (tv := tv) (xs := xs) (T := T) (nm := nm) (b0 := B) (by simp [e0]) (by simp [e1]) (by simp) (by simp) (by simp) (by simp) (by simp) s hn he ht hk hne hnm fr ho rfl (by rw [hents]; omega) ?_
    intro σ2 g2 ov' h25 hσ2 f2 o2
    rw [hents] at o2
    have z0 : σ2 0 = tv := by rw [hσ2 0 (by omega) (by omega)]; simp [e0]
    have z1 : σ2 1 = v := by rw [hσ2 1 (by omega) (by omega)]; simp [e1]
    have z14 : σ2 14 = tv := by rw [hσ2 14 (by omega) (by omega)]; simp [e14]
    have z15 : σ2 15 = .int .i64 (k : Int) := by rw [hσ2 15 (by omega) (by omega)]; simp [e15]
    have z16 : σ2 16 = .int .i64 (j : Int) := by rw [hσ2 16 (by omega) (by omega)]; simp [hi]
    rw [hsn, List.length_append]
    simp [z0, z1, z14, z15, z16, h25, -List.length_flatMap]
    exact ⟨f2, o2⟩
  · rintro σ ds g ⟨rfl, e0, e1, e14, e15, fr, ho⟩
    rw [List.take_of_length_le (by omega)] at ho
    simp
    exact ⟨ho, fr⟩

end Go.Dk

namespace Go.Dk
open Go Go.Dr
set_option maxRecDepth 100000

/-! ### the program's bytes are the document's -/

theorem less_lt : ∀ x y : Txt, Op.bytesLess x y = true ↔ x < y
  | x, [] => by
    cases x <;> simp [Op.bytesLess]
  | [], y :: l => by simp [Op.bytesLess]
  | a :: x, b :: y => by
    have ih := less_lt x y
    rw [List.cons_lt_cons_iff, ← ih]
    simp only [Op.bytesLess, Bool.or_eq_true, decide_eq_true_eq, Bool.and_eq_true, beq_iff_eq]

theorem Tof_asc (l : List Ep) : AscT (Tof l) := by
  unfold AscT Tof srtT
  have tr : ∀ a b c : Txt, decide (a ≤ b) = true → decide (b ≤ c) = true → decide (a ≤ c) = true := fun a b c h1 h2 => by simp only [decide_eq_true_eq] at *; exact List.le_trans h1 h2
  have to : ∀ a b : Txt, (decide (a ≤ b) || decide (b ≤ a)) = true := fun a b => by simp only [Bool.or_eq_true, decide_eq_true_eq]; exact List.le_total a b
  have h1 := List.pairwise_mergeSort tr to (addE [] (l.map (·.ls)))
  have h2 : (srtT (addE [] (l.map (·.ls)))).Nodup := Tof_nodup l
  unfold srtT at h2
  refine (h1.and h2).imp fun {a b} h => ?_
  obtain ⟨h3, h4⟩ := h
  simp only [decide_eq_true_eq] at h3
  rcases less_tri a b with h | h | h
  · exact h
  · exact absurd h h4
  · exact absurd ((less_lt b a).1 h) (List.not_lt.2 h3)

theorem Tof_isT (l : List Ep) : IsT (Tof l) (l.map (·.ls)) := ⟨Tof_asc l, fun s => Tof_mem l s⟩

theorem evE_range (T : List Txt) : ∀ (l : List Ep) (off : Nat), evE T off l = (List.range l.length).flatMap fun i => match (l.map entOf)[i]? with | some x => x.ls.map fun k => ((pl T k.1, pl T k.2), off + i) | none => []
  | [], _ => rfl
  | x :: l, off => by
    rw [evE, evE_range T l (off + 1), List.length_cons, List.range_succ_eq_map, List.flatMap_cons, List.flatMap_map]
    congr 1
    rw [List.flatMap_def, List.flatMap_def]
    congr 1
    refine List.map_congr_left fun i _ => ?_
    simp only [List.map_cons, List.getElem?_cons_succ]
    rw [show off + 1 + i = off + (i + 1) by omega]

theorem evs_eq (T : List Txt) (l : List Ep) : evsOf T (l.map entOf) = evE T 0 l := by
  rw [evE_range]
  unfold evsOf
  rw [List.length_map]
  rw [List.flatMap_def, List.flatMap_def]
  congr 1
  refine List.map_congr_left fun i _ => ?_
  cases (l.map entOf)[i]? with
  | none => rfl
  | some x => simp

theorem itE_bytes (T : List Txt) (x : Ep) (h8 : x.ls.length ≤ 8) (hp : ∀ k ∈ x.ls, pl T k.1 < 2 ^ 62 ∧ pl T k.2 < 2 ^ 62) : (itE T x).flatMap itB = entB T (entOf x) := by
  have h1 : ∀ l : List Lab, (∀ k ∈ l, pl T k.1 < 2 ^ 62 ∧ pl T k.2 < 2 ^ 62) → (l.flatMap fun k => [It.w (pl T k.1 : Int) 4, .w (pl T k.2 : Int) 4]).flatMap itB = labsB T l := by
    intro l
    induction l with
    | nil => intro _; rfl
    | cons k l ih =>
      intro h
      obtain ⟨a, b⟩ := h k List.mem_cons_self
      have ih := ih fun y hy => h y (List.mem_cons_of_mem _ hy)
      unfold labsB at ih ⊢
      rw [List.flatMap_cons, List.flatMap_append, ih, List.flatMap_cons]
      congr 1
      simp only [List.flatMap_cons, List.flatMap_nil, List.append_nil, itB, n64_of_nat _ (Nat.lt_trans a (by decide)), n64_of_nat _ (Nat.lt_trans b (by decide))]
  have hb1 : be 1 (n64 (x.ls.length : Int)) = [x.ls.length] := by
    rw [n64_of_nat _ (by omega)]
    simp only [be, List.nil_append, List.cons.injEq, and_true]
    omega
  unfold itE entB
  rw [List.cons_append, List.flatMap_cons, List.flatMap_append, h1 x.ls hp]
  simp only [List.flatMap_cons, List.flatMap_nil, List.append_nil, itB, hb1, entOf, List.append_assoc, List.cons_append, List.nil_append]

/-- **the program's bytes are the document's** -/
theorem bytes_eq {l : List Ep} (hn : l.length ≤ 10000) (hc : canE l = true) {T : List Txt} (hT : IsT T (l.map (·.ls))) : bytesI l = encB T (l.map entOf) := by
  have h8 := canE_ls8 hc
  have hTT : T = Tof l := hT.unique (Tof_isT l)
  subst hTT
  have hTl := Tof_len l h8
  have hmem : ∀ x ∈ l, ∀ k ∈ x.ls, k.1 ∈ Tof l ∧ k.2 ∈ Tof l := fun x hx k hk =>
    ⟨(Tof_mem l _).2 ⟨x.ls, List.mem_map.2 ⟨x, hx, rfl⟩, k, hk, .inl rfl⟩, (Tof_mem l _).2 ⟨x.ls, List.mem_map.2 ⟨x, hx, rfl⟩, k, hk, .inr rfl⟩⟩
  have hpl : ∀ s ∈ Tof l, pl (Tof l) s < 2 ^ 62 := fun s hs => by have := pl_lt hs; omega
  have hplist : l.map (·.ls) = (l.map entOf).map (·.ls) := by rw [List.map_map]; rfl
  have e1 : ([It.w ((Tof l).length : Int) 4]).flatMap itB = be 4 (Tof l).length := by
    simp only [List.flatMap_cons, List.flatMap_nil, List.append_nil, itB, n64_of_nat _ (show (Tof l).length < 2 ^ 64 by omega)]
  have e2 : ((Tof l).map It.t).flatMap itB = (Tof l).flatMap fun s => s.length :: bT s := by
    rw [List.flatMap_map, List.flatMap_def, List.flatMap_def]
    congr 1
    refine List.map_congr_left fun s hs => ?_
    obtain ⟨y, hy, k, hk, hsk⟩ := (Tof_mem l s).1 hs
    obtain ⟨x, hx, rfl⟩ := List.mem_map.1 hy
    obtain ⟨a, b, _⟩ := (canL_mem (canE_mem hc x hx).1).2 k hk
    have : s.length ≤ 40 := by rcases hsk with rfl | rfl <;> omega
    simp only [itB]
    rw [Nat.mod_eq_of_lt (by omega)]
  have e3 : ([It.w (l.length : Int) 4]).flatMap itB = be 4 l.length := by
    simp only [List.flatMap_cons, List.flatMap_nil, List.append_nil, itB, n64_of_nat _ (show l.length < 2 ^ 64 by omega)]
  have e4 : (l.flatMap (itE (Tof l))).flatMap itB = (l.map entOf).flatMap (entB (Tof l)) := by
    rw [List.flatMap_assoc, List.flatMap_map, List.flatMap_def, List.flatMap_def]
    congr 1
    exact List.map_congr_left fun x hx => itE_bytes _ x (h8 x hx) fun k hk => ⟨hpl _ (hmem x hx k hk).1, hpl _ (hmem x hx k hk).2⟩
  have hevs : evsOf (Tof l) (l.map entOf) = evE (Tof l) 0 l := evs_eq _ l
  have hmm : mmOf l = gath (evsOf (Tof l) (l.map entOf)) := by rw [hevs]; rfl
  have hpart : ∀ x ∈ l.map entOf, Parted x.ls := fun x hx => by
    obtain ⟨y, hy, rfl⟩ := List.mem_map.1 hx
    exact canL_parted (canE_mem hc y hy).1
  have hkey : ∀ p ∈ (mmOf l).map (·.1), p.1 < 2 ^ 62 ∧ p.2 < 2 ^ 62 := by
    intro p hp
    unfold mmOf at hp
    rw [gath_keys, ← hevs] at hp
    obtain ⟨e, he, rfl⟩ := List.mem_map.1 hp
    unfold evsOf at he
    obtain ⟨i, _, hi⟩ := List.mem_flatMap.1 he
    cases hx : (l.map entOf)[i]? with
    | none => rw [hx] at hi; cases hi
    | some x =>
      rw [hx] at hi
      obtain ⟨k, hk, rfl⟩ := List.mem_map.1 hi
      obtain ⟨y, hy, rfl⟩ := List.mem_map.1 (List.mem_of_getElem? hx)
      have := hmem y hy k hk
      exact ⟨hpl _ this.1, hpl _ this.2⟩
  have e5 : (itP (mmOf l) (srtP ((mmOf l).map (·.1)))).flatMap itB = postsB (Tof l) (l.map entOf) := by
    have hnd : ((mmOf l).map (·.1)).Nodup := gath_nodup _
    rw [← posts_eq (by rw [← hplist]; exact Tof_isT l) hpart (srtP_asc hnd) (fun p => by rw [srtP_mem, hmm])]
    unfold itP
    rw [List.flatMap_assoc, List.flatMap_def, List.flatMap_def]
    congr 1
    refine List.map_congr_left fun p hp => ?_
    obtain ⟨a, b⟩ := hkey p ((srtP_mem _ p).1 hp)
    rw [← hmm]
    simp only [List.flatMap_cons, List.flatMap_nil, List.append_nil, itB, pairB, n64_of_nat _ (Nat.lt_trans a (show (2:Nat) ^ 62 < 2 ^ 64 by decide)), n64_of_nat _ (Nat.lt_trans b (show (2:Nat) ^ 62 < 2 ^ 64 by decide)), List.append_assoc]
  unfold bytesI itemsOf encB headB
  rw [List.flatMap_append, List.flatMap_append, List.flatMap_append, List.flatMap_append, e1, e2, e3, e4, e5, List.length_map]

end Go.Dk

namespace Go.Dk
open Go Go.Dr
set_option maxRecDepth 100000

/-- more put behind ours, out of a slice -/
theorem app_sl {B n k : Nat} {g : AH} {v x : AV} {l bs : List Nat} (o : Own B g 1 n v (by8 l)) (s : Sl g 1 k x (by8 bs)) (hB : B ≤ g.next) (hb : n + k ≤ 2 ^ 40) :
    ∃ v' g', opApp 1 1 v x g = okV v' g' ∧ Own B g' 1 (n + k) v' (by8 (l ++ bs)) ∧ FrB B g g' := by
  obtain ⟨v', g', e, o2, f, p, q⟩ := o.append (bytes := 1) s hB (by8_scalar _) (by omega) (by omega)
  exact ⟨v', g', e, by rw [by8_append]; exact o2, f⟩

theorem ref13_Encode {h : AH} {n : Nat} {v : AV} {xs : List (AV × Ep)} (s : Sl h 5 n v (xs.flatMap enC)) (hn : n ≤ 10000) (he : ∀ x ∈ xs, EnOk h x ∧ Short x.2.ls ∧ x.2.ls.length < 2 ^ 62) :
    Ev P SI (.fn f_ref13_Encode) [v] h (EncIK h (xs.map (·.2))) := by
  refine ev_fn k_ref13_Encode rfl rfl ?_
  have hl : xs.length = n := by have := s.1; rw [en_len] at this; omega
  simp only [c_ref13_Encode, wpC_seq]
  simp
  refine (ref13_Can s (by omega) he).mono ?_
  rintro r g ⟨rfl, f1⟩
  cases hc : canE (xs.map (·.2)) with
  | false =>
    simp [EncIK, hc]
    exact f1
  | true =>
    have hll : (xs.map (·.2)).length ≤ 10000 := by rw [List.length_map]; omega
    have h8 := canE_ls8 hc
    have h8x : ∀ x ∈ xs, x.2.ls.length ≤ 8 := fun x hx => h8 x.2 (List.mem_map.2 ⟨x, hx, rfl⟩)
    have hcx : ∀ x ∈ xs, canL x.2.ls = true := fun x hx => (canE_mem hc x.2 (List.mem_map.2 ⟨x, hx, rfl⟩)).1
    simp
    refine (ref13_texts (s.fr f1) (by omega) (fun x hx => ⟨(he x hx).1.fr f1, h8x x hx⟩)).mono ?_
    rintro tv g2 ⟨T, k, ht, hT, f2, hk⟩
    have F2 := f1.trans f2
    have hTl : T.length = k := by have := ht.1; simpa [tx] using this
    have hT' : IsT T ((xs.map (·.2)).map (·.ls)) := by rw [List.map_map]; exact hT
    have hbe := bytes_eq hll hc hT'
    have hBl := bytesI_len hll hc
    have hents : (xs.map (·.2)).map entOf = xs.map fun x => entOf x.2 := by rw [List.map_map]; rfl
    rw [hents] at hbe
    have hel : (xs.map fun x => entOf x.2).length = n := by rw [List.length_map, hl]
    have hmemT : ∀ x ∈ xs, ∀ y ∈ x.2.ls, y.1 ∈ T ∧ y.2 ∈ T := fun x hx y hy =>
      ⟨(hT.2 _).2 ⟨x.2.ls, List.mem_map.2 ⟨x, hx, rfl⟩, y, hy, .inl rfl⟩, (hT.2 _).2 ⟨x.2.ls, List.mem_map.2 ⟨x, hx, rfl⟩, y, hy, .inr rfl⟩⟩
    have hTs : ∀ y ∈ T, y.length ≤ 40 ∧ y ≠ [] := fun y hy => by
      obtain ⟨z, hz, k, hk, hyk⟩ := (hT.2 y).1 hy
      obtain ⟨x, hx, rfl⟩ := List.mem_map.1 hz
      obtain ⟨a, b, c, d⟩ := (canL_mem (hcx x hx)).2 k hk
      rcases hyk with rfl | rfl
      · exact ⟨by omega, c⟩
      · exact ⟨b, d⟩
    have hkn : n64 (k : Int) = k := n64_of_nat _ (by omega)
    have hnn : n64 (n : Int) = n := n64_of_nat _ (by omega)
    have hfin : encB T (xs.map fun x => entOf x.2) = be 4 k ++ (T.flatMap fun s => s.length :: bT s) ++ be 4 n ++ (xs.map fun x => entOf x.2).flatMap (entB T) ++ postsB T (xs.map fun x => entOf x.2) := by
      unfold encB headB; rw [hTl, hel]
    rw [hfin] at hbe
    rw [hbe] at hBl
    simp only [List.length_append, be_length] at hBl
    have o1 := Own.fresh (B := g2.next) (h := g2) (es := 1) (n := 4) (l := by8 (be 4 k)) true (Nat.le_refl _) (by simp)
    have tl := ht.len
    have tl2 := (ht.fr (Fr.push (.refl g2) (.cells (by8 (be 4 k)) false))).len
    simp [tl, ref13_four, hkn, tl2, -List.length_flatMap]
    refine w_count (n := k) (by rfl) (fun j σ ds g => ds = [] ∧ σ 0 = v ∧ σ 4 = tv ∧ σ 18 = tv ∧ σ 19 = .int .i64 (k : Int) ∧ Fr g2 g ∧ Own g2.next g 1 (4 + ((T.take j).flatMap fun s => s.length :: bT s).length) (σ 5) (by8 (be 4 k ++ (T.take j).flatMap fun s => s.length :: bT s))) (by omega) (by simp)
      ⟨rfl, by simp, by simp, by simp, by simp, Fr.push (.refl g2) _, by simpa using o1⟩ (fun j σ ds g hJ => by simp [hJ.2.2.2.2.1]) ?_ ?_
    · rintro j σ ds g' hj hi ⟨rfl, e0, e4, e18, e19, fr, ho⟩
      obtain ⟨y, hy⟩ := at_some (l := T) (j := j) (by omega)
      obtain ⟨id, o, a1, a2, _⟩ := (ht.fr fr).get1 (k := .i64) (i := (j : Int)) rfl hj (x := .str y) (by simp [tx, hy])
      obtain ⟨hy40, _⟩ := hTs y (List.mem_of_getElem? hy)
      obtain ⟨bv, hbv⟩ : ∃ bv, σ 5 = bv := ⟨_, rfl⟩
      rw [hbv] at ho
      have hpre := flat_prefix (fun s => s.length :: bT s) T (j + 1)
      have hsn : (T.take (j + 1)).flatMap (fun s => s.length :: bT s) = (T.take j).flatMap (fun s => s.length :: bT s) ++ (y.length :: bT y) := by
        rw [take_snoc _ _ _ hy, List.flatMap_append]; simp
      have hyl : (y.length :: bT y).length = 1 + y.length := by simp [bT]; omega
      rw [hsn, List.length_append, hyl] at hpre
      generalize hB : (T.take j).flatMap (fun s => s.length :: bT s) = B at *
      have w8 : wrapF .u8 (y.length : Int) = (y.length : Int) := wrap_u8 (by omega) (by omega)
      obtain ⟨v3, g3, c1, o3, fb3, p3, n3, i3⟩ := app_put (bs := [y.length]) (k := 1) ho rfl fr.next (by omega)
      have c1' : opApp 1 1 bv (.slice g'.next 0 1 1 true 1) (g'.push (.cells [.int .u8 (y.length : Int)] false)) = okV v3 g3 := c1
      obtain ⟨v4, g4, c2, o4, fb4, p4, q4⟩ := o3.append_src (bytes := 1) (src_str y) (by simp) (by have := fr.next; omega) (by8_scalar _) (by omega) (by omega)
      simp [e18, hi, a1, a2, hbv, w8, splice_eq, c1', c2, e0, e4, e19, -List.length_flatMap]
      rw [hsn]
      refine ⟨⟨by have := fr.next; have := fb4.next; omega, fun i hi' => by rw [fb4.get i hi', fb3.get i hi']; exact fr.get i hi'⟩, ?_⟩
      have e1 : 4 + (B ++ y.length :: bT y).length = 4 + B.length + 1 + y.length := by rw [List.length_append, hyl]; omega
      rw [e1]
      have e2 : by8 (be 4 k ++ (B ++ y.length :: bT y)) = by8 (be 4 k ++ B ++ [y.length]) ++ by8 (y.map UInt8.toNat) := by
        rw [← by8_append]; simp [bT]
      rw [e2]
      exact o4
    · rintro σ ds g3 ⟨rfl, e0, e4, e18, e19, fr, ho⟩
      rw [List.take_of_length_le (by omega)] at ho
      obtain ⟨bv, hbv⟩ : ∃ bv, σ 5 = bv := ⟨_, rfl⟩
      rw [hbv] at ho
      generalize hH : (T.flatMap fun s => s.length :: bT s) = H at *
      have sl3 := (s.fr (F2.trans fr)).len
      obtain ⟨v4, g4, c1, o4, fb4, p4, n4, i4⟩ := app_put (bs := be 4 n) (k := 4) ho (by simp) fr.next (by omega)
      have fr4 : Fr g2 g4 := ⟨by have := fr.next; omega, fun i hi' => by rw [fb4.get i hi']; exact fr.get i hi'⟩
      have sl4 := (s.fr (F2.trans fr4)).len
      simp [hbv, e0, sl3, ref13_four, hnn, c1, sl4, -List.length_flatMap]
      refine w_count (n := n) (by rfl) (fun j σ ds g => ds = [] ∧ σ 0 = v ∧ σ 4 = tv ∧ σ 38 = v ∧ σ 39 = .int .i64 (n : Int) ∧ Fr g2 g ∧ Own g2.next g 1 (8 + H.length + (((xs.map fun x => entOf x.2).take j).flatMap (entB T)).length) (σ 5) (by8 (be 4 k ++ H ++ be 4 n ++ ((xs.map fun x => entOf x.2).take j).flatMap (entB T)))) (by omega) (by simp)
        ⟨rfl, by simp [e0], by simp [e4], by simp, by simp, fr4, ?_⟩ (fun j σ ds g hJ => by simp [hJ.2.2.2.2.1]) ?_ ?_
      · have e1 : 8 + H.length = 4 + H.length + 4 := by omega
        simpa [e1] using o4
      · rintro j σ' ds g' hj hi ⟨rfl, f0, f4, f38, f39, fr', ho'⟩
        obtain ⟨x, hx⟩ := at_some (l := xs) (j := j) (by omega)
        have hxm := List.mem_of_getElem? hx
        have hxe : (xs.map fun x => entOf x.2)[j]? = some (entOf x.2) := by simp [hx]
        have fh := F2.trans fr'
        obtain ⟨id, o, a1, a2, _⟩ := en_at (s.fr fh) hx
        have okg := (he x hxm).1.fr fh
        have hlc := Sl.oneCell okg
        have stn := opStore_new (h := g') (n := 5) (z := [.nils, .int .i64 0, .int .i64 0, .int .i64 0, .int .i64 0]) (l := enC x) rfl rfl (by simp [enC, allScalar, hlc.2])
        have fp := Fr.push (.refl g') (.cells (enC x) false)
        have ln : loadN (g'.push (.cells (enC x) false)) g'.next 0 5 = .ok (enC x) := loadN_of (get_push_new _) rfl
        obtain ⟨bv', hbv'⟩ : ∃ bv, σ' 5 = bv := ⟨_, rfl⟩
        rw [hbv'] at ho'
        have hpre := flat_prefix (entB T) (xs.map fun x => entOf x.2) (j + 1)
        have hsn : ((xs.map fun x => entOf x.2).take (j + 1)).flatMap (entB T) = ((xs.map fun x => entOf x.2).take j).flatMap (entB T) ++ entB T (entOf x.2) := by
          rw [take_snoc _ _ _ hxe, List.flatMap_append]; simp
        rw [hsn, List.length_append] at hpre
        simp only [wpC_seq]
        simp [f38, hi, a1, opLoadN, a2, stn, f4, ln, -List.length_flatMap]
        refine (ref13_entry (ht.fr (fr'.trans fp)) (by omega) (okg.fr fp) (h8x x hxm) (hmemT x hxm)).mono ?_
        rintro r g5 ⟨o5, f5⟩
        have el := entB_len T x.2
        generalize hB : ((xs.map fun x => entOf x.2).take j).flatMap (entB T) = B at *
        generalize hE : entB T (entOf x.2) = E at *
        obtain ⟨v6, g6, c6, o6, fb6⟩ := app_sl ((ho'.fr fp).fr f5) o5.sl (by have := fr'.next; have := f5.next; have : (g'.push (.cells (enC x) false)).next = g'.next + 1 := rfl; omega) (by omega)
        simp [hbv', c6, f0, f4, f38, f39, hi, -List.length_flatMap]
        rw [hsn]
        have gn : (g'.push (.cells (enC x) false)).next = g'.next + 1 := rfl
        refine ⟨⟨by have := fr'.next; have := f5.next; have := fb6.next; omega, fun i hi' => ?_⟩, ?_⟩
        · have := fr'.next
          rw [fb6.get i hi', f5.get i (by omega), get_push_old (by omega)]; exact fr'.get i hi'
        · have e1 : 8 + H.length + (B ++ E).length = 8 + H.length + B.length + (21 + 8 * x.2.ls.length) := by rw [List.length_append, el]; omega
          rw [e1]
          simp only [List.append_assoc] at o6 ⊢
          exact o6
      · rintro σ' ds g' ⟨rfl, f0, f4, f38, f39, fr', ho'⟩
        rw [List.take_of_length_le (by omega)] at ho'
        obtain ⟨bv', hbv'⟩ : ∃ bv, σ' 5 = bv := ⟨_, rfl⟩
        rw [hbv'] at ho'
        simp [hbv', f0, f4, -List.length_flatMap]
        have fh := F2.trans fr'
        refine (ref13_postings (s.fr fh) (by omega) (fun x hx => ⟨(he x hx).1.fr fh, h8x x hx, canL_parted (hcx x hx)⟩) (ht.fr fr') (by omega) (fun y hy => (hTs y hy).2) (by omega)).mono ?_
        rintro r g5 ⟨o5, f5⟩
        generalize hE : (xs.map fun x => entOf x.2).flatMap (entB T) = E at *
        generalize hP : postsB T (xs.map fun x => entOf x.2) = Q at *
        obtain ⟨v6, g6, c6, o6, fb6⟩ := app_sl (ho'.fr f5) o5.sl (by have := fr'.next; have := f5.next; omega) (by omega)
        simp [c6, EncIK, hc, -List.length_flatMap]
        have f6 : Fr h g6 := ⟨by have := F2.next; have := fr'.next; have := f5.next; have := fb6.next; omega, fun i hi' => by
          have h1 := F2.next
          have h2 := fr'.next
          rw [fb6.get i (by omega), f5.get i (by omega)]; exact fh.get i hi'⟩
        refine ⟨?_, f6⟩
        rw [hbe]
        have e1 : (be 4 k ++ H ++ be 4 n ++ E ++ Q).length = 8 + H.length + E.length + Q.length := by simp only [List.length_append, be_length]; omega
        rw [e1]
        exact o6.sl

end Go.Dk

namespace Go.Dk
open Go Go.Dr
set_option maxRecDepth 100000

end Go.Dk

namespace Go.Dk
open Go Go.Dr
set_option maxRecDepth 100000

theorem equal_bytes {h : AH} {n : Nat} {va vb : AV} {l : List Nat} (sa : Sl h 1 n va (by8 l)) (sb : Sl h 1 n vb (by8 l)) (hn : n < 2 ^ 62) (K : AV → AH → Prop) :
    Ev P SI (.fn f_slices_Equal_byte_byte) [va, vb] h K = K (.bool true) h := by
  refine Ev.eq (ev_fn k_slices_Equal_byte_byte rfl rfl ?_) K
  have hl : l.length = n := by have := sa.1; simpa using this
  simp [c_slices_Equal_byte_byte, sa.len, sb.len]
  refine w_count (n := n) (by rfl) (fun j σ ds g => ds = [] ∧ σ 0 = va ∧ σ 1 = vb ∧ σ 12 = .int .i64 (n : Int) ∧ g = h) (by omega) (by simp) (by simp) (fun j σ ds g hJ => by simp [hJ.2.2.2.1]) ?_ ?_
  · rintro j σ ds g hj hi ⟨rfl, e0, e1, e12, rfl⟩
    obtain ⟨x, hx⟩ := at_some (l := l) (j := j) (by omega)
    obtain ⟨i1, o1, a1, a2, _⟩ := sa.get1 (k := .i64) (i := (j : Int)) rfl hj (x := .int .u8 (x : Int)) (by rw [by8_get, hx]; rfl)
    obtain ⟨i2, o2, b1, b2, _⟩ := sb.get1 (k := .i64) (i := (j : Int)) rfl hj (x := .int .u8 (x : Int)) (by rw [by8_get, hx]; rfl)
    simp [e0, e1, e12, hi, a1, a2, b1, b2]
  · rintro σ ds g ⟨rfl, e0, e1, e12, rfl⟩
    simp

/-- the law: any entries as bytes -/
theorem law_IndexWrites {h : AH} {n : Nat} {v : AV} {xs : List (AV × Ep)} (s : Sl h 5 n v (xs.flatMap enC)) (hn : n < 2 ^ 62) (he : ∀ x ∈ xs, EnOk h x ∧ Short x.2.ls ∧ x.2.ls.length < 2 ^ 62) :
    Ev P SI (.fn f_law13_IndexWrites) [v] h fun r _ => r = .bool true := by
  refine ev_fn k_law13_IndexWrites rfl rfl ?_
  obtain ⟨m, hm⟩ : ∃ m, min n 12 = m := ⟨_, rfl⟩
  have hmi : min (n : Int) 12 = (m : Int) := by omega
  obtain ⟨u, f1, su⟩ := s.slice (lo := none) (hi := some (.int .i64 (m : Int))) (a := 0) (b := m) (.inl ⟨rfl, rfl⟩) (.inr ⟨.i64, rfl⟩) (by omega) (by omega)
  rw [Nat.zero_mul, List.drop_zero, Nat.sub_zero, flatMap_take (es := 5) xs (fun x _ => rfl)] at su
  have he' : ∀ x ∈ xs.take m, EnOk h x ∧ Short x.2.ls ∧ x.2.ls.length < 2 ^ 62 := fun x hx => he x (List.mem_of_mem_take hx)
  generalize xs.take m = ys at *
  simp [c_law13_IndexWrites, s.len, hmi, f1]
  refine (index_Encode su (by omega) he').mono ?_
  intro r g hr
  unfold EncIK at hr
  cases hc : canE (ys.map (·.2)) with
  | true =>
    rw [if_pos hc] at hr
    obtain ⟨a, rfl, sa, fa⟩ := hr
    have hBl := bytesI_len (l := ys.map (·.2)) (by rw [List.length_map]; have := su.1; rw [en_len] at this; omega) hc
    simp
    refine (ref13_Encode (su.fr fa) (by omega) (fun x hx => ⟨(he' x hx).1.fr fa, (he' x hx).2⟩)).mono ?_
    intro r g2 hr
    unfold EncIK at hr
    rw [if_pos hc] at hr
    obtain ⟨b, rfl, sb, fb⟩ := hr
    simp [equal_bytes (sa.fr fb) sb (by omega)]
    have F := fa.trans fb
    refine (index_Can (su.fr F) (by omega) (fun x hx => ⟨(he' x hx).1.fr F, (he' x hx).2⟩)).mono ?_
    rintro r g3 ⟨rfl, fc⟩
    simp
    refine (ref13_Can (su.fr (F.trans fc)) (by omega) (fun x hx => ⟨(he' x hx).1.fr (F.trans fc), (he' x hx).2⟩)).mono ?_
    rintro r g4 ⟨rfl, fd⟩
    simp [ev_awake]
  | false =>
    rw [if_neg (by rw [hc]; simp)] at hr
    obtain ⟨rfl, fa⟩ := hr
    simp
    refine (ref13_Encode (su.fr fa) (by omega) (fun x hx => ⟨(he' x hx).1.fr fa, (he' x hx).2⟩)).mono ?_
    intro r g2 hr
    unfold EncIK at hr
    rw [if_neg (by rw [hc]; simp)] at hr
    obtain ⟨rfl, fb⟩ := hr
    simp [equal_bytes (l := []) (Sl.nil 1) (Sl.nil 1) (by omega)]
    have F := fa.trans fb
    refine (index_Can (su.fr F) (by omega) (fun x hx => ⟨(he' x hx).1.fr F, (he' x hx).2⟩)).mono ?_
    rintro r g3 ⟨rfl, fc⟩
    simp
    refine (ref13_Can (su.fr (F.trans fc)) (by omega) (fun x hx => ⟨(he' x hx).1.fr (F.trans fc), (he' x hx).2⟩)).mono ?_
    rintro r g4 ⟨rfl, fd⟩
    simp [ev_awake]

end Go.Dk

/-
  DERIVED: THE SHELF's CONTRACTS AT THIS DUMP, IN PLAIN WORDS (tools/lay-plain.mjs out of 'TrySort0.lean', which tools/lay-shelf.mjs wrote): THE SAME DECLARATIONS UNDER THE SAME NAMES: 'import', 'namespace', 'open', 'def', 'theorem' AND NOTHING ELSE: no command of the shelf's: FOR A HAND-IN. Each laying: the table of numbers ('.._ren') and one theorem, a field a fact of the dump's own or the kernel's comparison; each contract: ONE APPLICATION.
-/
namespace Go.Proofs
open Go.Shelf
def Tryz.mSort_ren : Go.Shelf.Ren := ⟨fun | 6 => 106 | 8 => 137 | 9 => 136 | 19 => 160 | 20 => 161 | 21 => 151 | 22 => 152 | 23 => 153 | 24 => 154 | 25 => 155 | 26 => 156 | 27 => 157 | 28 => 158 | 29 => 159 | 36 => 177 | 31 => 178 | 32 => 179 | 37 => 180 | 38 => 181 | 39 => 117 | 41 => 185 | n => n, fun | 27 => 53 | 29 => 9 | 3 => 3 | 32 => 174 | 26 => 53 | 0 => 0 | 44 => 207 | 46 => 66 | 4 => 4 | 36 => 199 | 35 => 198 | 41 => 204 | 5 => 5 | 9 => 9 | 53 => 221 | 57 => 224 | 63 => 228 | 64 => 229 | n => n, fun | n => n⟩
theorem Tryz.mSort : Go.Proofs.SlLaysM.n6 Tryz.prog Tryz.mSort_ren := {
  mixed := by kernel_rfl
  f6 := ⟨Tryz.f106.name, by decide, Tryz.func106.trans (congrArg some (by kernel_rfl))⟩
  f8 := Tryz.func137.trans (congrArg some (by kernel_rfl))
  f9 := ⟨Tryz.f136.name, by decide, Tryz.func136.trans (congrArg some (by kernel_rfl))⟩
  f19 := Tryz.func160.trans (congrArg some (by kernel_rfl))
  f20 := Tryz.func161.trans (congrArg some (by kernel_rfl))
  f21 := ⟨Tryz.f151.name, by decide, Tryz.func151.trans (congrArg some (by kernel_rfl))⟩
  f22 := ⟨Tryz.f152.name, by decide, Tryz.func152.trans (congrArg some (by kernel_rfl))⟩
  f23 := ⟨Tryz.f153.name, by decide, Tryz.func153.trans (congrArg some (by kernel_rfl))⟩
  f24 := ⟨Tryz.f154.name, by decide, Tryz.func154.trans (congrArg some (by kernel_rfl))⟩
  f25 := ⟨Tryz.f155.name, by decide, Tryz.func155.trans (congrArg some (by kernel_rfl))⟩
  f26 := ⟨Tryz.f156.name, by decide, Tryz.func156.trans (congrArg some (by kernel_rfl))⟩
  f27 := ⟨Tryz.f157.name, by decide, Tryz.func157.trans (congrArg some (by kernel_rfl))⟩
  f28 := ⟨Tryz.f158.name, by decide, Tryz.func158.trans (congrArg some (by kernel_rfl))⟩
  f29 := ⟨Tryz.f159.name, by decide, Tryz.func159.trans (congrArg some (by kernel_rfl))⟩
  f31 := Tryz.func178.trans (congrArg some (by kernel_rfl))
  f32 := Tryz.func179.trans (congrArg some (by kernel_rfl))
  f36 := ⟨Tryz.f177.name, by decide, Tryz.func177.trans (congrArg some (by kernel_rfl))⟩
  f37 := ⟨Tryz.f180.name, by decide, Tryz.func180.trans (congrArg some (by kernel_rfl))⟩
  f38 := ⟨Tryz.f181.name, by decide, Tryz.func181.trans (congrArg some (by kernel_rfl))⟩
  f39 := ⟨Tryz.f117.name, by decide, Tryz.func117.trans (congrArg some (by kernel_rfl))⟩
  f41 := ⟨Tryz.f185.name, by decide, Tryz.func185.trans (congrArg some (by kernel_rfl))⟩
  t0 := Tryz.underlying0
  a0 := Tryz.isAgg0
  z0 := Tryz.sizeOf0
  v0 := Tryz.zeroValue0
  t3 := Tryz.underlying3
  a3 := Tryz.isAgg3
  z3 := Tryz.sizeOf3
  v3 := Tryz.zeroValue3
  t4 := Tryz.underlying4
  a4 := Tryz.isAgg4
  z4 := Tryz.sizeOf4
  v4 := Tryz.zeroValue4
  t5 := Tryz.underlying5
  a5 := Tryz.isAgg5
  z5 := Tryz.sizeOf5
  v5 := Tryz.zeroValue5
  t9 := Tryz.underlying9
  a9 := Tryz.isAgg9
  z9 := Tryz.sizeOf9
  v9 := Tryz.zeroValue9
  t26 := Tryz.underlying53
  a26 := Tryz.isAgg53
  z26 := Tryz.sizeOf53
  v26 := Tryz.zeroValue53
  t27 := Tryz.underlying53
  a27 := Tryz.isAgg53
  z27 := Tryz.sizeOf53
  v27 := Tryz.zeroValue53
  t29 := Tryz.underlying9
  a29 := Tryz.isAgg9
  z29 := Tryz.sizeOf9
  v29 := Tryz.zeroValue9
  t32 := Tryz.underlying174
  a32 := Tryz.isAgg174
  z32 := Tryz.sizeOf174
  v32 := Tryz.zeroValue174
  t35 := Tryz.underlying198
  a35 := Tryz.isAgg198
  z35 := Tryz.sizeOf198
  v35 := Tryz.zeroValue198
  t36 := Tryz.underlying199
  a36 := Tryz.isAgg199
  z36 := Tryz.sizeOf199
  v36 := Tryz.zeroValue199
  t41 := Tryz.underlying204
  a41 := Tryz.isAgg204
  z41 := Tryz.sizeOf204
  v41 := Tryz.zeroValue204
  t44 := Tryz.underlying207
  a44 := Tryz.isAgg207
  z44 := Tryz.sizeOf207
  v44 := Tryz.zeroValue207
  t46 := Tryz.underlying66
  a46 := Tryz.isAgg66
  z46 := Tryz.sizeOf66
  v46 := Tryz.zeroValue66
  t53 := Tryz.underlying221
  a53 := Tryz.isAgg221
  z53 := Tryz.sizeOf221
  v53 := Tryz.zeroValue221
  t57 := Tryz.underlying224
  a57 := Tryz.isAgg224
  z57 := Tryz.sizeOf224
  v57 := Tryz.zeroValue224
  t63 := Tryz.underlying228
  a63 := Tryz.isAgg228
  z63 := Tryz.sizeOf228
  v63 := Tryz.zeroValue228
  t64 := Tryz.underlying229
  a64 := Tryz.isAgg229
  z64 := Tryz.sizeOf229
  v64 := Tryz.zeroValue229 }
def Tryz.pSort_ren : Go.Shelf.Ren := ⟨fun | 6 => 110 | 15 => 137 | 14 => 139 | 28 => 160 | 29 => 161 | 20 => 162 | 21 => 163 | 22 => 164 | 23 => 165 | 24 => 166 | 25 => 167 | 26 => 168 | 27 => 169 | 46 => 182 | 47 => 178 | 48 => 179 | 49 => 183 | 50 => 184 | 57 => 186 | n => n, fun | 22 => 113 | 24 => 108 | 25 => 112 | 3 => 3 | 39 => 174 | 0 => 0 | 53 => 207 | 55 => 66 | 4 => 4 | 46 => 199 | 45 => 198 | 50 => 204 | 5 => 5 | 9 => 9 | 66 => 221 | 70 => 224 | 76 => 228 | 77 => 229 | n => n, fun | n => n⟩
theorem Tryz.pSort : Go.Proofs.SlLaysF0.n6 Tryz.prog Tryz.pSort_ren := {
  mixed := by kernel_rfl
  f6 := ⟨Tryz.f110.name, by decide, Tryz.func110.trans (congrArg some (by kernel_rfl))⟩
  f14 := ⟨Tryz.f139.name, by decide, Tryz.func139.trans (congrArg some (by kernel_rfl))⟩
  f15 := Tryz.func137.trans (congrArg some (by kernel_rfl))
  f20 := ⟨Tryz.f162.name, by decide, Tryz.func162.trans (congrArg some (by kernel_rfl))⟩
  f21 := ⟨Tryz.f163.name, by decide, Tryz.func163.trans (congrArg some (by kernel_rfl))⟩
  f22 := ⟨Tryz.f164.name, by decide, Tryz.func164.trans (congrArg some (by kernel_rfl))⟩
  f23 := ⟨Tryz.f165.name, by decide, Tryz.func165.trans (congrArg some (by kernel_rfl))⟩
  f24 := ⟨Tryz.f166.name, by decide, Tryz.func166.trans (congrArg some (by kernel_rfl))⟩
  f25 := ⟨Tryz.f167.name, by decide, Tryz.func167.trans (congrArg some (by kernel_rfl))⟩
  f26 := ⟨Tryz.f168.name, by decide, Tryz.func168.trans (congrArg some (by kernel_rfl))⟩
  f27 := ⟨Tryz.f169.name, by decide, Tryz.func169.trans (congrArg some (by kernel_rfl))⟩
  f28 := Tryz.func160.trans (congrArg some (by kernel_rfl))
  f29 := Tryz.func161.trans (congrArg some (by kernel_rfl))
  f46 := ⟨Tryz.f182.name, by decide, Tryz.func182.trans (congrArg some (by kernel_rfl))⟩
  f47 := Tryz.func178.trans (congrArg some (by kernel_rfl))
  f48 := Tryz.func179.trans (congrArg some (by kernel_rfl))
  f49 := ⟨Tryz.f183.name, by decide, Tryz.func183.trans (congrArg some (by kernel_rfl))⟩
  f50 := ⟨Tryz.f184.name, by decide, Tryz.func184.trans (congrArg some (by kernel_rfl))⟩
  f57 := ⟨Tryz.f186.name, by decide, Tryz.func186.trans (congrArg some (by kernel_rfl))⟩
  t0 := Tryz.underlying0
  a0 := Tryz.isAgg0
  z0 := Tryz.sizeOf0
  v0 := Tryz.zeroValue0
  t3 := Tryz.underlying3
  a3 := Tryz.isAgg3
  z3 := Tryz.sizeOf3
  v3 := Tryz.zeroValue3
  t4 := Tryz.underlying4
  a4 := Tryz.isAgg4
  z4 := Tryz.sizeOf4
  v4 := Tryz.zeroValue4
  t5 := Tryz.underlying5
  a5 := Tryz.isAgg5
  z5 := Tryz.sizeOf5
  v5 := Tryz.zeroValue5
  t9 := Tryz.underlying9
  a9 := Tryz.isAgg9
  z9 := Tryz.sizeOf9
  v9 := Tryz.zeroValue9
  t22 := Tryz.underlying113
  a22 := Tryz.isAgg113
  z22 := Tryz.sizeOf113
  v22 := Tryz.zeroValue113
  t25 := Tryz.underlying112
  a25 := Tryz.isAgg112
  z25 := Tryz.sizeOf112
  v25 := Tryz.zeroValue112
  t39 := Tryz.underlying174
  a39 := Tryz.isAgg174
  z39 := Tryz.sizeOf174
  v39 := Tryz.zeroValue174
  t45 := Tryz.underlying198
  a45 := Tryz.isAgg198
  z45 := Tryz.sizeOf198
  v45 := Tryz.zeroValue198
  t46 := Tryz.underlying199
  a46 := Tryz.isAgg199
  z46 := Tryz.sizeOf199
  v46 := Tryz.zeroValue199
  t50 := Tryz.underlying204
  a50 := Tryz.isAgg204
  z50 := Tryz.sizeOf204
  v50 := Tryz.zeroValue204
  t53 := Tryz.underlying207
  a53 := Tryz.isAgg207
  z53 := Tryz.sizeOf207
  v53 := Tryz.zeroValue207
  t55 := Tryz.underlying66
  a55 := Tryz.isAgg66
  z55 := Tryz.sizeOf66
  v55 := Tryz.zeroValue66
  t66 := Tryz.underlying221
  a66 := Tryz.isAgg221
  z66 := Tryz.sizeOf221
  v66 := Tryz.zeroValue221
  t70 := Tryz.underlying224
  a70 := Tryz.isAgg224
  z70 := Tryz.sizeOf224
  v70 := Tryz.zeroValue224
  t76 := Tryz.underlying228
  a76 := Tryz.isAgg228
  z76 := Tryz.sizeOf228
  v76 := Tryz.zeroValue228
  t77 := Tryz.underlying229
  a77 := Tryz.isAgg229
  z77 := Tryz.sizeOf229
  v77 := Tryz.zeroValue229 }
def Tryz.cmpInt_ren : Go.Shelf.Ren := ⟨fun | 5 => 67 | 7 => 108 | n => n, fun | 22 => 3 | 3 => 3 | 4 => 4 | n => n, fun | n => n⟩
theorem Tryz.cmpInt : Go.Proofs.SlLaysC2.n5 Tryz.prog Tryz.cmpInt_ren := {
  mixed := by kernel_rfl
  f5 := ⟨Tryz.f67.name, by decide, Tryz.func67.trans (congrArg some (by kernel_rfl))⟩
  f7 := ⟨Tryz.f108.name, by decide, Tryz.func108.trans (congrArg some (by kernel_rfl))⟩
  t3 := Tryz.underlying3
  a3 := Tryz.isAgg3
  z3 := Tryz.sizeOf3
  v3 := Tryz.zeroValue3
  t4 := Tryz.underlying4
  a4 := Tryz.isAgg4
  z4 := Tryz.sizeOf4
  v4 := Tryz.zeroValue4
  t22 := Tryz.underlying3
  a22 := Tryz.isAgg3
  z22 := Tryz.sizeOf3
  v22 := Tryz.zeroValue3 }
end Go.Proofs

namespace Go.Proofs
open Go.Shelf Go.RowKit Go.Lib Go.Sort
set_option maxRecDepth 100000

/-- which of two numbers is not nothing, the first one first -/
def orI (x y : Int) : Int := if x = 0 then y else x

set_option maxHeartbeats 2000000 in
theorem Tryz.or66 (x y : Int) (b : Nat) (w : World) (h0 : w.cell? ⟨b, 0, none⟩ = some (.int .i64 x)) (h1 : w.cell? ⟨b, 1, none⟩ = some (.int .i64 y)) :
    Calls Tryz.prog 66 #[.slice (some ⟨b, 0, none⟩) 2 2] w fun e w' => e = .returned (.int .i64 (orI x y)) ∧ w' = w := by
  go_enter Tryz.func66, Tryz.ntmps66
  go_wp2
  refine wp_loop_rounds 3 ?_
  rw [rounds_succ]
  go_wp2
  · rename_i hx
    go_ret
    refine ⟨?_, rfl⟩
    have : ¬ x = 0 := by simpa using hx
    simp [orI, this]
  · rename_i hx
    have hx0 : x = 0 := by simpa using hx
    rw [rounds_succ]
    go_wp2
    · rename_i hy
      go_ret
      refine ⟨?_, rfl⟩
      simp [orI, hx0]
    · rename_i hy
      have hy0 : y = 0 := by simpa using hy
      rw [rounds_succ]
      go_wp2
      go_ret
      refine ⟨?_, rfl⟩
      simp [orI, hx0, hy0]

set_option maxHeartbeats 2000000 in
/-- the order of two pairs -/
theorem Tryz.closure65 (x y : Int × Int) (W : World) : Calls Tryz.prog 65 #[.agg #[.int .i64 x.1, .int .i64 x.2], .agg #[.int .i64 y.1, .int .i64 y.2]] W fun e w' => e = .returned (.int .i64 (orI (Lib.compareInt x.1 y.1) (Lib.compareInt x.2 y.2))) ∧ ∃ q os', w' = grow (W.drewN q) os' := by
  have hcon1 := fun W' => AnyG.cmp_Compare_int Tryz.cmpInt x.1 y.1 W'
  change ∀ W', Calls Tryz.prog 67 _ _ _ at hcon1
  have hcon2 := fun W' => AnyG.cmp_Compare_int Tryz.cmpInt x.2 y.2 W'
  change ∀ W', Calls Tryz.prog 67 _ _ _ at hcon2
  generalize Lib.compareInt x.1 y.1 = r1 at hcon1 ⊢
  generalize Lib.compareInt x.2 y.2 = r2 at hcon2 ⊢
  go_enter Tryz.func65, Tryz.ntmps65
  go_wp2_with fail
  have hs : W.heap.size < (W.alloc (.cells #[.int .i64 x.1, .int .i64 x.2] 108)).heap.size := by simp
  generalize hW : (W.alloc (.cells #[.int .i64 x.1, .int .i64 x.2] 108)).alloc (.cells #[.int .i64 y.1, .int .i64 y.2] 108) = W2
  have c0 : W2.cell? ⟨W.heap.size, 0, none⟩ = some (.int .i64 x.1) := by rw [← hW]; simp
  have c1 : W2.cell? ⟨W.heap.size, 1, none⟩ = some (.int .i64 x.2) := by rw [← hW]; simp
  have c2 : W2.cell? ⟨W.heap.size + 1, 0, none⟩ = some (.int .i64 y.1) := by rw [← hW]; simp
  have c3 : W2.cell? ⟨W.heap.size + 1, 1, none⟩ = some (.int .i64 y.2) := by rw [← hW]; simp
  refine wp_region_still_tail 10 Tryz.mSort.mixed (by kernel_rfl) ?_
  simp only [List.take_succ_cons, List.take_zero, List.drop_succ_cons, List.drop_zero]
  have hD : ({ W2 with drawn := W2.drawn + 1 } : World) = W2.drew := rfl
  rw [hD]
  have d0 : W2.drew.cell? ⟨W.heap.size, 0, none⟩ = some (.int .i64 x.1) := c0
  have d1 : W2.drew.cell? ⟨W.heap.size, 1, none⟩ = some (.int .i64 x.2) := c1
  have d2 : W2.drew.cell? ⟨W.heap.size + 1, 0, none⟩ = some (.int .i64 y.1) := c2
  have d3 : W2.drew.cell? ⟨W.heap.size + 1, 1, none⟩ = some (.int .i64 y.2) := c3
  still_step
  still_step
  still_step
  still_step
  still_call (hcon1 _)
  still_step
  still_step
  still_step
  still_step
  still_call (hcon2 _)
  refine wpStill_nil ?_
  have hfin : ∃ os0, W2.drew = grow (W.drewN 1) os0 := ⟨_, by rw [← hW, alloc_eq_grow, alloc_eq_grow, grow_grow]; rfl⟩
  clear hD d0 d1 d2 d3 c0 c1 c2 c3
  generalize W2.drew = W3 at hfin ⊢
  go_wp2_with (go_at_call 66; refine (Tryz.or66 r1 r2 W3.heap.size _ (by simp) (by simp)).mono ?_; rintro e w' ⟨rfl, rfl⟩)
  go_ret
  obtain ⟨os0, hos⟩ := hfin
  exact ⟨rfl, 1, _, by rw [hos, alloc_eq_grow, grow_grow]⟩

end Go.Proofs

namespace Go.Dk
open Go Go.Dr Go.RowKit
set_option maxRecDepth 100000

/-! ### what is told of calls holds of the machine -/

theorem holds_map {α : Type} [Inhabited α] (e : α → Value) {w : World} {b o : Nat} {l : List α} (h : Sort.Holds id w b o (l.map e).toArray) : Sort.Holds e w b o l.toArray := by
  intro j hj
  have hj' : j < l.length := by simpa using hj
  obtain ⟨h1, h2⟩ := h j (by simpa using hj)
  refine ⟨?_, h2⟩
  rw [h1]
  simp [getElem!_def, hj']

theorem putRow_map {α : Type} [Inhabited α] (e : α → Value) (w : World) (b o : Nat) (l : List α) : Sort.putRow e w b o l.toArray = Sort.putRow id w b o (l.map e).toArray := by
  unfold Sort.putRow
  congr 1
  funext c
  unfold Sort.putCells
  congr 1
  funext k x
  by_cases hk : o ≤ k ∧ k < o + l.length
  · have h1 : o ≤ k ∧ k < o + l.toArray.size := by simpa using hk
    have h2 : o ≤ k ∧ k < o + (l.map e).toArray.size := by simpa using hk
    rw [if_pos h1, if_pos h2]
    have h3 : k - o < l.length := by omega
    simp [getElem!_def, h3]
  · have h1 : ¬ (o ≤ k ∧ k < o + l.toArray.size) := by simpa using hk
    have h2 : ¬ (o ≤ k ∧ k < o + (l.map e).toArray.size) := by simpa using hk
    rw [if_neg h1, if_neg h2]

theorem tx_cv (ss : List Txt) : (tx ss).map cv = ss.map Go.Proofs.encStr := by
  unfold tx
  rw [List.map_map]
  rfl

theorem body106 : Go.Proofs.Tryz.f106.body.isSome = true := by kernel_rfl
theorem body110 : Go.Proofs.Tryz.f110.body.isSome = true := by kernel_rfl
theorem body65 : Go.Proofs.Tryz.f65.body.isSome = true := by kernel_rfl
theorem numIyS : P.funcs.all (fun f => f.name != "runtime.NumGoroutine") = true := by kernel_rfl

theorem strSort : RowSortIs P f_slices_Sort_string_string 1 [] strD where
  some := by
    rintro A A' len blk off cap rest' φ w ⟨ss, rfl, rfl⟩ hr hl hb hH hblk
    cases hr
    have hsl : ss.length = len := by simpa [tx] using hl
    subst hsl
    rw [tx_cv] at hH
    have := Go.Proofs.AnyM.slices_Sort_string Go.Proofs.Tryz.mSort blk off cap ss w (holds_map _ hH) hblk hb
    refine this.mono ?_
    rintro e w' ⟨rfl, n, os, rfl⟩
    refine ⟨rfl, n, os, ?_⟩
    rw [putRow_map, tx_cv]
    rfl
  none := by
    intro p cap rest' φ w hr
    cases hr
    exact Go.Proofs.AnyM.slices_Sort_string_none Go.Proofs.Tryz.mSort p cap w
  enter := fun _ w => callFn_run (noNum numIyS) Go.Proofs.Tryz.func106 body106 w
  len := by rintro A A' ⟨ss, rfl, rfl⟩; simp [tx, srtT]
  isC := by
    rintro A A' ⟨ss, rfl, rfl⟩
    refine ⟨fun a ha => ?_, fun a ha => ?_⟩ <;> (obtain ⟨s, _, rfl⟩ := List.mem_map.1 ha; rfl)

theorem cmpLaysP (blk off size : Nat) (w : World) : Go.Proofs.CmpLays P f_index_items_1 #[] (enc2 .i64 .i64) 2 cfP blk off size w := fun _ _ _ _ x y => Go.Proofs.Tryz.closure65 x y _

theorem pairSort : RowSortIs P f_slices_SortFunc_index_pair_index_pair 2 [.func (.func f_index_items_1) [] []] (pairD .i64 .i64 cfP) := by
  refine pair_sort swoP ?_ ?_ ?_
  · intro blk off cap d w hH hblk hsz
    exact Go.Proofs.AnyQ.slices_SortFunc Go.Proofs.Tryz.pSort 2 Go.Proofs.Tryz.isAgg108 Go.Proofs.Tryz.sizeOf108 (enc2 .i64 .i64) (fun _ => rfl) (fun x v hv => by simp [enc2] at hv; rcases hv with rfl | rfl <;> rfl) cfP swoP f_index_items_1 #[] blk off cap d w
      (fun _ w => callFn_run (noNum numIyS) Go.Proofs.Tryz.func65 body65 w) (cmpLaysP blk off d.size w) hH hblk hsz
  · intro p cap w
    exact Go.Proofs.AnyF.slices_SortFunc_none { Go.Proofs.Tryz.pSort with } p cap _ w
  · exact fun _ w => callFn_run (noNum numIyS) Go.Proofs.Tryz.func110 body110 w

theorem sumS0 (B : Nat) (w0 : World) : SumOk P B w0 S0 := by
  intro f g hs args h v h' he φ w args' ha hG hR
  unfold S0 at hs
  split at hs
  · rename_i e; subst e; cases hs
    exact rowS_ok strSort (by omega) he ha hR
  · split at hs
    · rename_i e; subst e; cases hs
      exact rowS_ok pairSort (by omega) he ha hR
    · cases hs

theorem run13 : okTrue (evCall P (fun _ => none) 100000 1000 (.fn f_law13_awake) [] ⟨P.globals.size, .leaf⟩) = true := by kernel_rfl
theorem run19 : okTrue (evCall P (fun _ => none) 100000 1000 (.fn f_law19_awake) [] ⟨P.globals.size, .leaf⟩) = true := by kernel_rfl

theorem sumSI (B : Nat) (w0 : World) : SumOk P B w0 SI := by
  intro f g hs args h v h' he φ w args' ha hG hR
  unfold SI at hs
  split at hs
  · rename_i e; subst e; cases hs
    exact endS_ok Go.Proofs.Tryz.mSort.mixed (noNum numIyS) (sumS0 B w0) he ha hG hR
  · split at hs
    · rename_i e; subst e; cases hs
      exact endS_ok Go.Proofs.Tryz.mSort.mixed (noNum numIyS) (sumS0 B w0) he ha hG hR
    · split at hs
      · exact closed_ok Go.Proofs.Tryz.mSort.mixed numIyS run19 B w0 f g hs args h v h' he φ w args' ha hG hR
      · exact closed_ok Go.Proofs.Tryz.mSort.mixed numIyS run13 B w0 f g hs args h v h' he φ w args' ha hG hR

end Go.Dk

namespace Go.Proofs.YtkbddcapcjdenaaGreatDoor
open Go Go.Dr Go.RowKit Go.ChangeShapes Go.WideShapes Go.ChangeAt Go.Lib
set_option maxRecDepth 100000

theorem ownIw : ownKnob Tryz.prog.godebug = none := by kernel_rfl
theorem laidOutIw : laidOutB Tryz.prog = true := by kernel_rfl
theorem numIw : Tryz.prog.funcs.all (fun f => f.name != "runtime.NumGoroutine") = true := by kernel_rfl

def intsIw (k : IntKind) (l : List Int) : Array Value := (l.map fun z => Value.int k z).toArray

/-- a world that fits: the settled one, the listed variables' cells laid -/
noncomputable def laidWorldIw (os : Os) : World :=
  let w0 := World.holding Tryz.prog os ⟨#[], #[], []⟩
  let put (h : Array Obj) (g : Nat) (cs : Array Value) : Array Obj := h.modify g fun
    | .cells _ t frozen => .cells cs t frozen
    | o => o
  let h := w0.heap
  let h := put h 0 (intsIw .u8 [0, 1, 56, 2, 57, 49, 28, 3, 61, 58, 42, 50, 38, 29, 17, 4, 62, 47, 59, 36, 45, 43, 51, 22, 53, 39, 33, 30, 24, 18, 12, 5, 63, 55, 48, 27, 60, 41, 37, 16, 46, 35, 44, 21, 52, 32, 23, 11, 54, 26, 40, 15, 34, 20, 31, 10, 25, 14, 19, 9, 13, 8, 7, 6])
  { w0 with heap := h }

theorem laidRunIw (os : Os) (args : Array Value) : LaidIn Tryz.prog ((laidWorldIw os).forCall (fun _ _ => 0) ⟨#[], args, []⟩).memory (Rows.indexWritesRow.laid.filter fun x => x.2.handleName?.isNone) [0] :=
  LaidIn.of_run _ 8 (by kernel_rfl) (by kernel_rfl) (by kernel_rfl) (by kernel_rfl)

theorem laidMetIw (os : Os) (args : Array Value) : laidMetH Tryz.prog Rows.indexWritesRow.laid ((laidWorldIw os).forCall (fun _ _ => 0) ⟨#[], args, []⟩).memory :=
  laidMetH_of_parts (laidRunIw os args).met (by kernel_rfl)

end Go.Proofs.YtkbddcapcjdenaaGreatDoor

/-
  What a law is given, laid into an abstract heap, with the bounds that the given data's sizes keep.
-/
namespace Go.Dr
open Go.RowKit

variable {P : Program} {H : Type} {enc : TypeId × Value → H} {W : World} {base : Nat} {sp : Nat → Bool} {held : Bool}

theorem weights_all {P : Program} {e : TypeId} {d : DataW H} : ∀ {l : List (DataW H)}, d ∈ l → ∀ n ∈ d.weights P e, n ∈ DataW.weightsAll P e l
  | x :: l, hm, n, hn => by
    simp only [DataW.weightsAll, List.mem_append]
    rcases List.mem_cons.1 hm with rfl | hm
    · exact .inl hn
    · exact .inr (weights_all hm n hn)

/-- cells of a type, as they can be read from h -/
inductive TyZ (P : Program) (h : AH) : TypeId → List AV → Prop
  | bool {t : TypeId} (ht : P.underlying t = some .bool) (b : Bool) : TyZ P h t [.bool b]
  | int {t : TypeId} {k : IntKind} {n : Int} (ht : P.underlying t = some (.int k)) (hn : (Lit.int k n).wf = true) : TyZ P h t [.int k n]
  | str {t : TypeId} {s : List UInt8} (ht : P.underlying t = some .string) (hs : s.length ≤ reachBytes) : TyZ P h t [.str s]
  | nils {t e : TypeId} (ht : P.underlying t = some (.slice e)) : TyZ P h t [.nils]
  | slice {t e : TypeId} {id len cap : Nat} {vs : List AV} (ht : P.underlying t = some (.slice e)) (hi : id < h.next) (hg : h.get id = some (.cells vs true)) (hv : vs.length = len * P.cellsOf e)
      (hl : len ≤ cap) (hc : cap * P.bytesOf e ≤ reachBytes) (hel : ∀ i, i < len → TyZ P h e ((vs.drop (i * P.cellsOf e)).take (P.cellsOf e))) : TyZ P h t [.slice id 0 len cap true (P.cellsOf e)]
  | struct {t : TypeId} {fs : Array Field} {cs : List AV} (ht : P.underlying t = some (.struct fs)) (hl : cs.length = P.cellsOf t)
      (hf : ∀ f ∈ fs.toList, TyZ P h f.type ((cs.drop f.offset).take (P.cellsOf f.type))) : TyZ P h t cs

theorem TyZ.fr {h h' : AH} (f : Fr h h') : ∀ {t : TypeId} {cs : List AV}, TyZ P h t cs → TyZ P h' t cs := by
  intro t cs s
  induction s with
  | bool ht b => exact .bool ht b
  | int ht hn => exact .int ht hn
  | str ht hs => exact .str ht hs
  | nils ht => exact .nils ht
  | slice ht hi hg hv hl hc _ ih => exact .slice ht (Nat.lt_of_lt_of_le hi f.next) (by rw [f.get _ hi]; exact hg) hv hl hc ih
  | struct ht hl _ ih => exact .struct ht hl ih

/-- fields, one after another -/
theorem lay_fieldsZ {B : Nat} {w0 : World} (L : TypeId → List Value → Prop)
    (hL : ∀ t cs, L t cs → ∀ φ h, Rel B w0 φ h W → RO φ h → ∃ φ' h' l, ConL φ' l cs ∧ Rel B w0 φ' h' W ∧ RO φ' h' ∧ φ.le φ' ∧ Fr h h' ∧ TyZ P h' t l) (cs : List Value) :
    ∀ (fs : List Field) (acc : Nat), tileOk P fs acc cs.length = true → (∀ f ∈ fs, L f.type ((cs.drop f.offset).take (P.cellsOf f.type))) → ∀ φ h, Rel B w0 φ h W → RO φ h →
    ∃ φ' h' l, ConL φ' l (cs.drop acc) ∧ Rel B w0 φ' h' W ∧ RO φ' h' ∧ φ.le φ' ∧ Fr h h' ∧ (∀ f ∈ fs, acc ≤ f.offset ∧ TyZ P h' f.type ((l.drop (f.offset - acc)).take (P.cellsOf f.type)))
  | [], acc, ht, _, φ, h, hR, hro => by
    have : acc = cs.length := Nat.eq_of_beq_eq_true ht
    subst this
    exact ⟨φ, h, [], by rw [List.drop_length]; exact .nil, hR, hro, .refl _, .refl _, fun f hf => by cases hf⟩
  | f :: fs, acc, ht, hf, φ, h, hR, hro => by
    simp only [tileOk, Bool.and_eq_true] at ht
    have ho : f.offset = acc := Nat.eq_of_beq_eq_true ht.1
    obtain ⟨φ1, h1, l1, c1, R1, ro1, le1, f1, t1⟩ := hL _ _ (hf f (by simp)) φ h hR hro
    obtain ⟨φ2, h2, l2, c2, R2, ro2, le2, f2, t2⟩ := lay_fieldsZ L hL cs fs (acc + P.cellsOf f.type) ht.2 (fun g hg => hf g (List.mem_cons_of_mem _ hg)) φ1 h1 R1 ro1
    have hle : acc + P.cellsOf f.type ≤ cs.length := by
      have : ∀ (fs : List Field) (a : Nat), tileOk P fs a cs.length = true → a ≤ cs.length := by
        intro fs
        induction fs with
        | nil => intro a h; exact Nat.le_of_eq (Nat.eq_of_beq_eq_true h)
        | cons g gs ih =>
          intro a h
          simp only [tileOk, Bool.and_eq_true] at h
          have := ih _ h.2
          omega
      exact this _ _ ht.2
    rw [ho] at c1
    have hlen : l1.length = P.cellsOf f.type := by rw [c1.length, List.length_take, List.length_drop]; omega
    refine ⟨φ2, h2, l1 ++ l2, ?_, R2, ro2, le1.trans le2, f1.trans f2, fun g hg => ?_⟩
    · have := (c1.mono le2).append c2
      rw [← List.drop_drop, List.take_append_drop] at this
      exact this
    · rcases List.mem_cons.1 hg with rfl | hg
      · refine ⟨by omega, ?_⟩
        rw [ho, Nat.sub_self, List.drop_zero, List.take_append_of_le_length (by omega), List.take_of_length_le (by omega)]
        exact t1.fr f2
      · obtain ⟨h3, h4⟩ := t2 g hg
        refine ⟨by omega, ?_⟩
        rw [show g.offset - acc = l1.length + (g.offset - (acc + P.cellsOf f.type)) from by omega, ← List.drop_drop, List.drop_left]
        exact h4

/-- cells of such a type, laid -/
theorem lay_cellsZ {B : Nat} {w0 : World} :
    ∀ (d fuel : Nat) (t : TypeId) (cs : List Value) (x : DataW H × List MemPlace), plainTy P d t = true → DataW.trod enc P W base (fun _ => true) held fuel t cs = some x → (∀ n ∈ x.1.weights P t, n ≤ reachBytes) → Empties W cs →
    ∀ φ h, Rel B w0 φ h W → RO φ h → ∃ φ' h' l, ConL φ' l cs ∧ Rel B w0 φ' h' W ∧ RO φ' h' ∧ φ.le φ' ∧ Fr h h' ∧ TyZ P h' t l
  | 0, fuel, t, cs, x, hp, _, _, _, _, _, _, _ => by cases hp
  | d + 1, fuel, t, cs, x, hp, h, hw0, hz, φ, g, hR, hro => by
    unfold plainTy at hp
    cases ht : P.underlying t with
    | none => rw [ht] at hp; cases hp
    | some td =>
      rw [ht] at hp
      cases td with
      | bool =>
        obtain ⟨b, rfl, _⟩ := DataW.trod_bool ht h
        exact ⟨φ, g, _, .cons (.bool b) .nil, hR, hro, .refl _, .refl _, .bool ht b⟩
      | int k =>
        obtain ⟨n, rfl, _, hw⟩ := DataW.trod_int ht h
        exact ⟨φ, g, _, .cons (.int k n) .nil, hR, hro, .refl _, .refl _, .int ht hw⟩
      | string =>
        obtain ⟨⟨⟨s⟩⟩, rfl, rfl, _⟩ := DataW.trod_string ht h
        have hs : s.length ≤ reachBytes := hw0 _ (by simp [DataW.weights])
        exact ⟨φ, g, _, .cons (.str s) .nil, hR, hro, .refl _, .refl _, .str ht hs⟩
      | struct fs =>
        simp only [Bool.and_eq_true, List.all_eq_true] at hp
        obtain ⟨hp1, hp2⟩ := hp
        obtain ⟨xs, n, _, hx, hl, hlen, hf⟩ := DataW.trod_struct ht h
        subst hx
        simp only [DataW.weights, ht] at hw0
        obtain ⟨φ1, h1, l1, c1, R1, ro1, le1, f1, t1⟩ := lay_fieldsZ (L := fun t cs => ∃ n x, plainTy P d t = true ∧ DataW.trod enc P W base (fun _ => true) held n t cs = some x ∧ (∀ n ∈ x.1.weights P t, n ≤ reachBytes) ∧ Empties W cs)
          (fun t cs ⟨n, x, h1, h2, h3, h4⟩ => lay_cellsZ d n t cs x h1 h2 h3 h4) cs fs.toList 0 (by rw [hl]; exact hp1) (fun f hfm => by
            obtain ⟨i, hi⟩ := List.mem_iff_getElem?.1 hfm
            rw [Array.getElem?_toList] at hi
            have hlt : i < xs.length := by rw [hlen]; exact (Array.getElem?_eq_some_iff.1 hi).1
            exact ⟨n, xs[i], hp2 f hfm, by rw [hf i f hi]; exact List.getElem?_eq_getElem hlt, fun m hm => hw0 m (DataW.weights_mem_each (j := i) (by rw [List.getElem?_map, Array.getElem?_toList, hi]; rfl) (by rw [List.getElem?_map, List.getElem?_eq_getElem hlt]; rfl) m hm), fun a len hm => hz a len (List.mem_of_mem_drop (List.mem_of_mem_take hm))⟩) φ g hR hro
        exact ⟨φ1, h1, l1, c1, R1, ro1, le1, f1, .struct ht (by rw [c1.length, List.drop_zero, hl]) fun f hf => by have := (t1 f hf).2; rwa [Nat.sub_zero] at this⟩
      | slice e =>
        simp only [Bool.and_eq_true] at hp
        obtain ⟨hp1, hp2⟩ := hp
        have hk : 0 < P.cellsOf e := Nat.le_of_ble_eq_true hp1
        rcases DataW.trod_slice ht h with ⟨rfl, _⟩ | ⟨a, len, cap, elems, rest, n, _, rfl, hx, hb, hlc, _, hel, he1, he2, _⟩
        · exact ⟨φ, g, _, .cons .nils .nil, hR, hro, .refl _, .refl _, .nils ht⟩
        · obtain ⟨hrl, hr⟩ := he2 rfl
          subst hx
          simp only [DataW.weights, ht, List.length_map, List.mem_cons, List.mem_append] at hw0
          have hcm : cap * P.bytesOf e ≤ reachBytes := by
            have := hw0 _ (.inl rfl)
            rwa [hel, hrl, show len + (cap - len) = cap from by omega] at this
          have each : ∀ i, i < cap → ∃ cs y, W.cells? base (a.add (i * P.cellsOf e)) (P.cellsOf e) = some cs ∧ DataW.trod enc P W base (fun _ => true) held n e cs = some y ∧ ∀ n ∈ y.1.weights P e, n ≤ reachBytes := by
            intro i hi
            have : ∃ y, (W.cells? base (a.add (i * P.cellsOf e)) (P.cellsOf e)).bind (DataW.trod enc P W base (fun _ => true) held n e) = some y ∧ ∀ n ∈ y.1.weights P e, n ≤ reachBytes := by
              by_cases hil : i < len
              · exact ⟨elems[i], by rw [he1 i hil]; exact List.getElem?_eq_getElem (by omega), fun m hm => hw0 m (.inr (.inl (weights_all (List.mem_map_of_mem (List.getElem_mem _)) m hm)))⟩
              · have hj : i - len < cap - len := by omega
                refine ⟨rest[i - len], ?_, fun m hm => hw0 m (.inr (.inr (weights_all (List.mem_map_of_mem (List.getElem_mem _)) m hm)))⟩
                have := hr (i - len) hj
                rw [show len + (i - len) = i from by omega] at this
                rw [this]; exact List.getElem?_eq_getElem (by omega)
            obtain ⟨y, hy, hwy⟩ := this
            obtain ⟨cs, h1, h2⟩ := Option.bind_eq_some_iff.1 hy
            exact ⟨cs, y, h1, h2, hwy⟩
          have hblk : ∃ (b : Nat) (c : Array Value) (e : TypeId) (f : Nat × Nat), W.heap[b]? = some (.cells c e f) := by
            by_cases hc0 : cap = 0
            · subst hc0; exact hz a len (by simp)
            · obtain ⟨cs, y, q1, _⟩ := each 0 (by omega)
              obtain ⟨q2, q3⟩ := cells?_get q1
              have := q3 0 hk
              rw [List.getElem?_eq_getElem (by omega)] at this
              obtain ⟨_, c, et, f, hbk, _⟩ := cell_some this
              exact ⟨_, c, et, f, hbk⟩
          -- the elements' cells
          have hcs : ∃ css : List (List Value), css.length = len ∧ ∀ i c, css[i]? = some c → W.cells? base (a.add (i * P.cellsOf e)) (P.cellsOf e) = some c ∧ ∃ y, DataW.trod enc P W base (fun _ => true) held n e c = some y ∧ ∀ n ∈ y.1.weights P e, n ≤ reachBytes := by
            refine ⟨(List.range len).map fun i => (W.cells? base (a.add (i * P.cellsOf e)) (P.cellsOf e)).getD [], by simp, fun i c hi => ?_⟩
            have hil : i < len := by have := (List.getElem?_eq_some_iff.1 hi).1; simpa using this
            obtain ⟨cs, y, h1, h2, h3⟩ := each i (by omega)
            simp only [List.getElem?_map, List.getElem?_range hil, Option.map_some, Option.some.injEq, h1, Option.getD_some] at hi
            subst hi
            exact ⟨h1, y, h2, h3⟩
          obtain ⟨css, hcl, hcs⟩ := hcs
          obtain ⟨φ1, h1, ls, R1, ro1, le1, f1, hll, hls⟩ := lay_list (B := B) (w0 := w0) (w := W) (fun (h : AH) (_ : Unit) l => TyZ P h e l) (fun h h' _ l f t => t.fr f) (css.map fun c => ((), c)) (fun x hx φ h hR hro => by
            obtain ⟨c, hc, rfl⟩ := List.mem_map.1 hx
            obtain ⟨i, hi⟩ := List.mem_iff_getElem?.1 hc
            obtain ⟨_, y, hy, hwy⟩ := hcs i c hi
            exact lay_cellsZ d n e c y hp2 hy hwy (fun _ _ _ => hblk) φ h hR hro) φ g hR hro
          rw [List.length_map, hcl] at hll
          have hlens : ∀ l ∈ ls, l.length = P.cellsOf e := by
            intro l hl
            obtain ⟨i, hi⟩ := List.mem_iff_getElem?.1 hl
            have hil : i < css.length := by rw [hcl, ← hll]; exact (List.getElem?_eq_some_iff.1 hi).1
            obtain ⟨l', h1, h2, _⟩ := hls i ((), css[i]) (by simp [hil])
            rw [hi] at h1
            cases h1
            rw [h2.length]
            exact (cells?_get (hcs i _ (List.getElem?_eq_getElem hil)).1).1
          obtain ⟨hfl, hfg⟩ := flat_get ls (P.cellsOf e) hlens
          by_cases hc0 : cap = 0
          · -- nothing there
            obtain ⟨b, c, et, f, hbk⟩ := hblk
            have hl0 : len = 0 := by omega
            have hv0 : ls.flatten = [] := List.length_eq_zero_iff.1 (by rw [hfl, hll, hl0, Nat.zero_mul])
            obtain ⟨R2, ro2, le2⟩ := rel_ro R1 ro1 (p := ⟨b, 0, 0⟩) (vs := []) hbk (Nat.le_refl _) (Nat.zero_le _) (fun i x hx => by simp at hx)
            refine ⟨_, _, [.slice h1.next 0 len cap true (P.cellsOf e)], .cons (.slice (Phi.set_same _ _ _) (fun _ => rfl) (Nat.le_refl _) hlc (.inl hc0)) .nil, R2, ro2, le1.trans le2, f1.push _, ?_⟩
            exact .slice ht (by simp) (get_push_new _) (by rw [hl0, Nat.zero_mul]; rfl) hlc hcm fun i hi => by omega
          · have hcp : 0 < cap := by omega
            have hk0 : ∀ i j, i < cap → j < P.cellsOf e → ∃ v, W.cell? ((a.add (i * P.cellsOf e)).add j) = some v := by
              intro i j hi hj
              obtain ⟨cs, y, q1, _⟩ := each i hi
              obtain ⟨q2, q3⟩ := cells?_get q1
              exact ⟨cs[j]'(by omega), by rw [q3 j hj]; exact List.getElem?_eq_getElem (by omega)⟩
            obtain ⟨v0, hv0⟩ := hk0 0 0 hcp hk
            have ha0 : (a.add (0 * P.cellsOf e)).add 0 = a := by simp [Addr.add]
            rw [ha0] at hv0
            obtain ⟨hsp, c, et, f, hbk, _⟩ := cell_some hv0
            have hat : ∀ i j, (a.add (i * P.cellsOf e)).add j = ⟨a.block, a.off + (i * P.cellsOf e + j), none⟩ := by
              intro i j
              rw [add_none hsp, Addr.add_none, Nat.add_assoc]
            have hcell : ∀ o, W.cell? ⟨a.block, o, none⟩ = c[o]? := fun o => cell?_of hbk
            have hsz : a.off + cap * P.cellsOf e ≤ c.size := by
              obtain ⟨v, hv⟩ := hk0 (cap - 1) (P.cellsOf e - 1) (by omega) (by omega)
              rw [hat, hcell] at hv
              have := (Array.getElem?_eq_some_iff.1 hv).1
              have e1 : (cap - 1) * P.cellsOf e + P.cellsOf e = cap * P.cellsOf e := by
                rw [← Nat.succ_mul, show (cap - 1).succ = cap from by omega]
              omega
            have hle : len * P.cellsOf e ≤ cap * P.cellsOf e := Nat.mul_le_mul_right _ hlc
            obtain ⟨R2, ro2, le2⟩ := rel_ro R1 ro1 (p := ⟨a.block, a.off, cap * P.cellsOf e⟩) (vs := ls.flatten) hbk (by rw [hfl, hll]; exact hle) hsz (fun i x hx => by
              have hi : i < len * P.cellsOf e := by rw [← hll, ← hfl]; exact (List.getElem?_eq_some_iff.1 hx).1
              have hdiv : i / P.cellsOf e < len := (Nat.div_lt_iff_lt_mul hk).2 hi
              have hmod : i % P.cellsOf e < P.cellsOf e := Nat.mod_lt _ hk
              have hdm : i / P.cellsOf e * P.cellsOf e + i % P.cellsOf e = i := by rw [Nat.mul_comm]; exact Nat.div_add_mod _ _
              obtain ⟨l, q1, q2⟩ := flat_cell ls (P.cellsOf e) hlens (i / P.cellsOf e) (i % P.cellsOf e) (by omega) hmod
              rw [hdm, hx] at q2
              have hcs' : (css.map fun c => ((), c))[i / P.cellsOf e]? = some ((), css[i / P.cellsOf e]'(by omega)) := by simp [hcl, hdiv]
              obtain ⟨l', q3, q4, _⟩ := hls _ _ hcs'
              rw [q1] at q3
              cases q3
              obtain ⟨y, q5, q6⟩ := q4.get _ _ q2.symm
              refine ⟨y, ?_, q6⟩
              obtain ⟨_, q7⟩ := cells?_get (hcs _ _ (List.getElem?_eq_getElem (by omega : i / P.cellsOf e < css.length))).1
              have q8 := q7 _ hmod
              rw [hat, hcell, hdm] at q8
              rw [q8]
              exact q5)
            refine ⟨_, _, [.slice h1.next 0 len cap true (P.cellsOf e)], .cons (.slice (p := ⟨a.block, a.off, cap * P.cellsOf e⟩) (Phi.set_same _ _ _) (fun _ => rfl) (Nat.le_refl _) hlc (.inr ⟨Nat.le_of_eq (Nat.zero_add _), ?_⟩)) .nil, R2, ro2, le1.trans le2, f1.push _, ?_⟩
            · obtain ⟨b, o, s⟩ := a
              cases hsp
              rfl
            · refine .slice ht (by simp) (get_push_new _) (by rw [hfl, hll]) hlc hcm fun i hi => ?_
              have hil : i < css.length := by omega
              obtain ⟨l, q1, _, q3⟩ := hls i ((), css[i]) (by simp [hil])
              rw [hfg i l q1]
              exact q3.fr ((Fr.refl _).push _)
      | _ => cases hp

/-- a slice that is given -/
theorem lay_sliceZ {B : Nat} {w0 : World} {b0 : Nat} {d : Nat} {t e : TypeId} {v : Value} {dd : DataW H} {ps : List MemPlace} (ht : P.underlying t = some (.slice e)) (hp : plainTy P d t = true)
    (hval : Value.okWide P W .any b0 t v) (hd : DataW.Trod enc P W base (fun _ => true) held t v dd ps) (hw : ∀ n ∈ dd.weights P t, n ≤ reachBytes) {φ : Phi} {h : AH} (hR : Rel B w0 φ h W) (hro : RO φ h) :
    ∃ φ' h' a, Con φ' a v ∧ Rel B w0 φ' h' W ∧ RO φ' h' ∧ φ.le φ' ∧ Fr h h' ∧ TyZ P h' t [a] := by
  have hc : Cell.okWide P W .any b0 t v := by
    unfold Value.okWide at hval
    rw [ht] at hval
    exact hval
  have hs := okWide_scalar hc
  have hcells : v.cells.toList = [v] := by cases v <;> first | rfl | cases hs
  obtain ⟨fuel, hd⟩ := hd
  rw [hcells] at hd
  obtain ⟨φ', h', l, c1, R1, ro1, le1, f1, t1⟩ := lay_cellsZ d fuel t [v] _ hp hd hw (fun a len hm => by
    simp only [List.mem_singleton] at hm
    rw [← hm] at hc
    exact cell_empty hc) φ h hR hro
  cases c1 with
  | cons c1 c2 =>
    cases c2
    exact ⟨φ', h', _, c1, R1, ro1, le1, f1, t1⟩

variable {h : AH}

theorem TyZ.int_inv {t : TypeId} {k : IntKind} {l : List AV} (ht : P.underlying t = some (.int k)) (s : TyZ P h t l) : ∃ n, l = [.int k n] ∧ (Lit.int k n).wf = true := by
  cases s with
  | int ht' hn => rw [ht] at ht'; cases ht'; exact ⟨_, rfl, hn⟩
  | bool ht' => rw [ht] at ht'; cases ht'
  | str ht' => rw [ht] at ht'; cases ht'
  | nils ht' => rw [ht] at ht'; cases ht'
  | slice ht' => rw [ht] at ht'; cases ht'
  | struct ht' => rw [ht] at ht'; cases ht'

theorem TyZ.str_inv {t : TypeId} {l : List AV} (ht : P.underlying t = some .string) (s : TyZ P h t l) : ∃ x, l = [.str x] ∧ x.length ≤ reachBytes := by
  cases s with
  | str ht' hs => exact ⟨_, rfl, hs⟩
  | int ht' => rw [ht] at ht'; cases ht'
  | bool ht' => rw [ht] at ht'; cases ht'
  | nils ht' => rw [ht] at ht'; cases ht'
  | slice ht' => rw [ht] at ht'; cases ht'
  | struct ht' => rw [ht] at ht'; cases ht'

theorem TyZ.slice_inv {t e : TypeId} {k : Nat} {l : List AV} (ht : P.underlying t = some (.slice e)) (hb : 0 < P.bytesOf e) (hk : P.cellsOf e = k) (s : TyZ P h t l) :
    ∃ v n vs, l = [v] ∧ n ≤ reachBytes ∧ Sl h k n v vs ∧ ∀ i, i < n → TyZ P h e ((vs.drop (i * k)).take k) := by
  subst hk
  cases s with
  | nils ht' => exact ⟨_, 0, [], rfl, Nat.zero_le _, Sl.nil _, fun i hi => absurd hi (by omega)⟩
  | @slice _ e' id len cap vs ht' hi hg hv hl hc hel =>
    rw [ht] at ht'
    cases ht'
    exact ⟨_, len, vs, rfl, Nat.le_trans (Nat.le_trans hl (Nat.le_mul_of_pos_right _ hb)) hc, ⟨hv, .inr ⟨id, 0, cap, true, vs, true, rfl, hi, hl, hg, by omega, by rw [List.drop_zero, List.take_of_length_le (by omega)]⟩⟩, hel⟩
  | int ht' => rw [ht] at ht'; cases ht'
  | bool ht' => rw [ht] at ht'; cases ht'
  | str ht' => rw [ht] at ht'; cases ht'
  | struct ht' => rw [ht] at ht'; cases ht'

theorem TyZ.struct_inv {t : TypeId} {l : List AV} {ts : List (TypeId × Nat)} (ht : structOf P t = ts) (hne : ts ≠ []) (s : TyZ P h t l) :
    l.length = P.cellsOf t ∧ ∀ u o, (u, o) ∈ ts → TyZ P h u ((l.drop o).take (P.cellsOf u)) := by
  subst ht
  unfold structOf at hne ⊢
  cases s with
  | struct ht' hl hf =>
    rw [ht']
    refine ⟨hl, fun u o hm => ?_⟩
    simp only [List.mem_map, Prod.mk.injEq] at hm
    obtain ⟨f, hf', rfl, rfl⟩ := hm
    exact hf f hf'
  | int ht' => rw [ht'] at hne; exact absurd rfl hne
  | bool ht' => rw [ht'] at hne; exact absurd rfl hne
  | str ht' => rw [ht'] at hne; exact absurd rfl hne
  | nils ht' => rw [ht'] at hne; exact absurd rfl hne
  | slice ht' => rw [ht'] at hne; exact absurd rfl hne

end Go.Dr
namespace Go.Proofs.YtkbddcapcjdenaaGreatDoor
open Go Go.Dr Go.Dk Go.RowKit Go.ChangeShapes Go.WideShapes Go.ChangeAt Go.Lib
set_option maxRecDepth 100000

theorem ml62 : reachBytes < 2 ^ 62 := by decide
theorem bytesIw58 : 0 < Tryz.prog.bytesOf 58 := of_decide_eq_true (by kernel_rfl)
theorem bytesIw65 : 0 < Tryz.prog.bytesOf 65 := of_decide_eq_true (by kernel_rfl)
theorem cellsIw3 : Tryz.prog.cellsOf 3 = 1 := by kernel_rfl
theorem cellsIw9 : Tryz.prog.cellsOf 9 = 1 := by kernel_rfl
theorem cellsIw56 : Tryz.prog.cellsOf 56 = 1 := by kernel_rfl
theorem cellsIw58 : Tryz.prog.cellsOf 58 = 5 := by kernel_rfl
theorem cellsIw65 : Tryz.prog.cellsOf 65 = 2 := by kernel_rfl
theorem undIw3 : Tryz.prog.underlying 3 = some (.int .i64) := by kernel_rfl
theorem undIw9 : Tryz.prog.underlying 9 = some .string := by kernel_rfl
theorem undIw22 : Tryz.prog.underlying 22 = some (.slice 58) := by kernel_rfl
theorem undIw56 : Tryz.prog.underlying 56 = some (.slice 65) := by kernel_rfl
theorem structIw58 : structOf Tryz.prog 58 = [(56, 0), (3, 1), (3, 2), (3, 3), (3, 4)] := by kernel_rfl
theorem structIw65 : structOf Tryz.prog 65 = [(9, 0), (9, 1)] := by kernel_rfl
theorem plainIw22 : plainTy Tryz.prog 8 22 = true := by kernel_rfl

theorem flat_map {α : Type} (f : α → List AV) : ∀ l : List α, (l.map f).flatten = l.flatMap f
  | [] => rfl
  | x :: l => by rw [List.map_cons, List.flatten_cons, List.flatMap_cons, flat_map f l]

/-- labels that a law is given -/
theorem labels_ofIw {h : AH} {l : List AV} (s : TyZ Tryz.prog h 56 l) : ∃ v ls, l = [v] ∧ Sl h 2 ls.length v (ls.flatMap labC) ∧ Short ls ∧ ls.length < 2 ^ 62 := by
  obtain ⟨v, n, vs, rfl, hn, hs, he⟩ := s.slice_inv undIw56 bytesIw65 cellsIw65
  obtain ⟨ls, h1, h2, h3⟩ := elems_of labC (fun x : Lab => x.1.length < 2 ^ 62 ∧ x.2.length < 2 ^ 62) 2 n vs hs.1 fun i hi => by
    obtain ⟨hl, hf⟩ := (he i hi).struct_inv structIw65 (by simp)
    rw [cellsIw65] at hl
    have f0 := hf 9 0 (by simp)
    have f1 := hf 9 1 (by simp)
    rw [cellsIw9] at f0 f1
    obtain ⟨a, a1, a2⟩ := f0.str_inv undIw9
    obtain ⟨b, b1, b2⟩ := f1.str_inv undIw9
    generalize (vs.drop (i * 2)).take 2 = w at hl a1 b1
    match w, hl with
    | [c0, c1], _ =>
      simp at a1 b1
      subst a1 b1
      have := ml62
      exact ⟨(a, b), rfl, Nat.lt_of_le_of_lt a2 this, Nat.lt_of_le_of_lt b2 this⟩
  rw [flat_map] at h2
  subst h2
  have := ml62
  exact ⟨v, ls, rfl, by rw [h1]; exact hs, h3, by omega⟩

/-- entries that a law is given -/
theorem entries_ofIw {h : AH} {l : List AV} (s : TyZ Tryz.prog h 22 l) : ∃ v n, ∃ xs : List (AV × Ep), l = [v] ∧ n < 2 ^ 62 ∧ Sl h 5 n v (xs.flatMap enC) ∧ ∀ x ∈ xs, EnOk h x ∧ Short x.2.ls ∧ x.2.ls.length < 2 ^ 62 := by
  obtain ⟨v, n, vs, rfl, hn, hs, he⟩ := s.slice_inv undIw22 bytesIw58 cellsIw58
  obtain ⟨xs, h1, h2, h3⟩ := elems_of enC (fun x : AV × Ep => EnOk h x ∧ Short x.2.ls ∧ x.2.ls.length < 2 ^ 62) 5 n vs hs.1 fun i hi => by
    obtain ⟨hl, hf⟩ := (he i hi).struct_inv structIw58 (by simp)
    rw [cellsIw58] at hl
    have f0 := hf 56 0 (by simp)
    rw [cellsIw56] at f0
    obtain ⟨lv0, ls, a0, b0, c0, d0⟩ := labels_ofIw f0
    have hi' : ∀ o, (3, o) ∈ ([(56, 0), (3, 1), (3, 2), (3, 3), (3, 4)] : List (TypeId × Nat)) → ∃ z, (((vs.drop (i * 5)).take 5).drop o).take 1 = [.int .i64 z] := fun o ho => by
      have := hf 3 o ho
      rw [cellsIw3] at this
      obtain ⟨z, e, _⟩ := this.int_inv undIw3
      exact ⟨z, e⟩
    obtain ⟨z1, a1⟩ := hi' 1 (by simp)
    obtain ⟨z2, a2⟩ := hi' 2 (by simp)
    obtain ⟨z3, a3⟩ := hi' 3 (by simp)
    obtain ⟨z4, a4⟩ := hi' 4 (by simp)
    generalize (vs.drop (i * 5)).take 5 = w at hl a0 a1 a2 a3 a4
    match w, hl with
    | [y0, y1, y2, y3, y4], _ =>
      simp at a0 a1 a2 a3 a4
      subst a0 a1 a2 a3 a4
      exact ⟨(y0, ⟨ls, z1, z2, z3, z4⟩), rfl, b0, c0, d0⟩
  rw [flat_map] at h2
  subst h2
  have := ml62
  exact ⟨v, n, xs, rfl, by omega, hs, h3⟩

/-- the law IndexWrites, run by the machine -/
theorem calls_IndexWrites {H : Type} {enc : TypeId × Value → H} {held : Bool} {W : World} {base : Nat} {b0 : Nat} {v0 : Value} {d0 : DataW H} {p0 : List MemPlace}
    (hv0 : Value.okWide Tryz.prog W .any b0 22 v0) (h0 : DataW.Trod enc Tryz.prog W base (fun _ => true) held 22 v0 d0 p0) (hw0 : ∀ n ∈ d0.weights Tryz.prog 22, n ≤ reachBytes) :
    Calls Tryz.prog 3 #[v0] W fun e W' => e = .returned (.bool true) ∧ Below W.heap.size W W' := by
  obtain ⟨φ1, g1, a0, c0, R1, ro1, le1, f1, t0⟩ := lay_sliceZ (B := W.heap.size) (w0 := W) undIw22 plainIw22 hv0 h0 hw0 (rel0 W Tryz.prog.globals.size (ρ := fun _ => .pointer none)) (ro0 _ _)
  obtain ⟨u, n, xs, e1, hn, s1, q1⟩ := entries_ofIw t0
  cases e1
  exact law_evS (f := f_law13_IndexWrites) (args' := [v0]) Tryz.checked.mixed numIw (sumSI _ _) (law_IndexWrites s1 hn q1) (.cons c0 .nil) ((glob0 Tryz.prog).le le1) R1

end Go.Proofs.YtkbddcapcjdenaaGreatDoor
