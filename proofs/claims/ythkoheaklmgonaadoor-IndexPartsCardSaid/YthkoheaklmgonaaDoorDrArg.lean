/-
  What a law is given, laid into an abstract heap: numbers, texts, slices and structs of these, to any depth; only read.
-/
import Derived.Test.YthkoheaklmgonaaDoorDrSim
import Derived.ProofKit
namespace Go.Dr
open Go.RowKit

variable {P : Program} {H : Type} {enc : TypeId × Value → H} {W : World} {base : Nat} {sp : Nat → Bool} {held : Bool}

theorem mapM_some {α β : Type} {f : α → Option β} : ∀ {l : List α} {r : List β}, l.mapM f = some r → r.length = l.length ∧ ∀ (i : Nat) (a : α), l[i]? = some a → ∃ b, r[i]? = some b ∧ f a = some b
  | [], r, h => by
    simp only [List.mapM_nil] at h
    cases h
    exact ⟨rfl, fun i a e => by simp at e⟩
  | x :: l, r, h => by
    rw [List.mapM_cons] at h
    cases hx : f x with
    | none => rw [hx] at h; cases h
    | some b =>
      cases hl : l.mapM f with
      | none => rw [hx, hl] at h; cases h
      | some bs =>
        rw [hx, hl] at h
        cases h
        obtain ⟨h1, h2⟩ := mapM_some hl
        refine ⟨by simp [h1], fun i a e => ?_⟩
        cases i with
        | zero => simp at e; subst e; exact ⟨b, rfl, hx⟩
        | succ i => exact h2 i a (by simpa using e)

/-- cells of a type, as they can be read from h -/
inductive TyV (P : Program) (h : AH) : TypeId → List AV → Prop
  | bool {t : TypeId} (ht : P.underlying t = some .bool) (b : Bool) : TyV P h t [.bool b]
  | int {t : TypeId} {k : IntKind} {n : Int} (ht : P.underlying t = some (.int k)) (hn : (Lit.int k n).wf = true) : TyV P h t [.int k n]
  | str {t : TypeId} {s : List UInt8} (ht : P.underlying t = some .string) (hs : s.length ≤ maxLen) : TyV P h t [.str s]
  | nils {t e : TypeId} (ht : P.underlying t = some (.slice e)) : TyV P h t [.nils]
  | slice {t e : TypeId} {id len cap : Nat} {vs : List AV} (ht : P.underlying t = some (.slice e)) (hi : id < h.next) (hg : h.get id = some (.cells vs true)) (hv : vs.length = len * P.cellsOf e)
      (hl : len ≤ cap) (hc : cap ≤ maxLen) (hel : ∀ i, i < len → TyV P h e ((vs.drop (i * P.cellsOf e)).take (P.cellsOf e))) : TyV P h t [.slice id 0 len cap true (P.cellsOf e)]
  | struct {t : TypeId} {fs : Array Field} {cs : List AV} (ht : P.underlying t = some (.struct fs)) (hl : cs.length = P.cellsOf t)
      (hf : ∀ f ∈ fs.toList, TyV P h f.type ((cs.drop f.offset).take (P.cellsOf f.type))) : TyV P h t cs

theorem TyV.fr {h h' : AH} (f : Fr h h') : ∀ {t : TypeId} {cs : List AV}, TyV P h t cs → TyV P h' t cs := by
  intro t cs s
  induction s with
  | bool ht b => exact .bool ht b
  | int ht hn => exact .int ht hn
  | str ht hs => exact .str ht hs
  | nils ht => exact .nils ht
  | slice ht hi hg hv hl hc _ ih => exact .slice ht (Nat.lt_of_lt_of_le hi f.next) (by rw [f.get _ hi]; exact hg) hv hl hc ih
  | struct ht hl _ ih => exact .struct ht hl ih

/-- fields that lie one after another -/
def tileOk (P : Program) : List Field → Nat → Nat → Bool
  | [], acc, tot => Nat.beq acc tot
  | f :: fs, acc, tot => Nat.beq f.offset acc && tileOk P fs (acc + P.cellsOf f.type) tot

/-- a type of such values alone -/
def plainTy (P : Program) : Nat → TypeId → Bool
  | 0, _ => false
  | d + 1, t => match P.underlying t with
    | some .bool | some (.int _) | some .string => true
    | some (.slice e) => Nat.blt 0 (P.cellsOf e) && plainTy P d e
    | some (.struct fs) => tileOk P fs.toList 0 (P.cellsOf t) && fs.toList.all fun f => plainTy P d f.type
    | _ => false

/-- nothing may be written -/
def RO (φ : Phi) (h : AH) : Prop := ∀ j q o, φ j = some q → h.get j = some o → o.writable = false

theorem cells?_get {n : Nat} {a : Addr} {cs : List Value} (h : W.cells? base a n = some cs) : cs.length = n ∧ ∀ i, i < n → W.cell? (a.add i) = cs[i]? := by
  unfold World.cells? at h
  split at h
  · obtain ⟨h1, h2⟩ := mapM_some h
    rw [List.length_range] at h1
    refine ⟨h1, fun i hi => ?_⟩
    obtain ⟨b, hb, hf⟩ := h2 i i (by rw [List.getElem?_range hi])
    rw [hb, hf]
  · cases h

/-- a block laid to be read -/
theorem rel_ro {B : Nat} {w0 w : World} {φ : Phi} {h : AH} (r : Rel B w0 φ h w) (hro : RO φ h) {p : Pl} {vs : List AV} {c : Array Value} {e : TypeId} {f : Nat × Nat} (hb : w.heap[p.blk]? = some (.cells c e f))
    (h1 : vs.length ≤ p.room) (h2 : p.off + p.room ≤ c.size) (hc : ∀ i x, vs[i]? = some x → ∃ y, c[p.off + i]? = some y ∧ Con φ x y) :
    Rel B w0 (φ.set h.next p) (h.push (.cells vs true)) w ∧ RO (φ.set h.next p) (h.push (.cells vs true)) ∧ φ.le (φ.set h.next p) := by
  have hle := Phi.le_set p r.fresh
  refine ⟨(r.promise (.cells vs true)).lay (Nat.lt_succ_self _) r.fresh (get_push_new _) ⟨c, e, f.1, f.2, hb, h1, h2, fun i x hx => ?_, fun e => by cases e⟩ (fun e => by cases e) (fun j q oj hj hg hw => ?_), fun j q o hj hg => ?_, hle⟩
  · obtain ⟨y, hy, hcon⟩ := hc i x hx
    exact ⟨y, hy, hcon.mono hle⟩
  · have hne : j ≠ h.next := fun e => by rw [e, r.fresh] at hj; cases hj
    rw [get_push_old hne] at hg
    rcases hw with hw | hw
    · cases hw
    · rw [hro j q oj hj hg] at hw; cases hw
  · by_cases hne : j = h.next
    · subst hne
      rw [get_push_new] at hg
      cases hg
      rfl
    · rw [Phi.set_other _ _ hne] at hj
      rw [get_push_old hne] at hg
      exact hro j q o hj hg

/-- several, one after another -/
theorem lay_list {B : Nat} {w0 w : World} {α : Type} (T : AH → α → List AV → Prop) (hT : ∀ h h' a l, Fr h h' → T h a l → T h' a l) : ∀ (xs : List (α × List Value)) (_ : ∀ x ∈ xs, ∀ φ h, Rel B w0 φ h w → RO φ h →
      ∃ φ' h' l, ConL φ' l x.2 ∧ Rel B w0 φ' h' w ∧ RO φ' h' ∧ φ.le φ' ∧ Fr h h' ∧ T h' x.1 l) (φ : Phi) (h : AH), Rel B w0 φ h w → RO φ h →
    ∃ (φ' : Phi) (h' : AH) (ls : List (List AV)), Rel B w0 φ' h' w ∧ RO φ' h' ∧ φ.le φ' ∧ Fr h h' ∧ ls.length = xs.length ∧ ∀ (i : Nat) (x : α × List Value), xs[i]? = some x → ∃ l, ls[i]? = some l ∧ ConL φ' l x.2 ∧ T h' x.1 l
  | [], _, φ, h, r, ro => ⟨φ, h, [], r, ro, .refl _, .refl _, rfl, fun i x e => by simp at e⟩
  | x :: xs, hx, φ, h, r, ro => by
    obtain ⟨φ1, h1, l, c1, r1, ro1, le1, f1, t1⟩ := hx x (by simp) φ h r ro
    obtain ⟨φ2, h2, ls, r2, ro2, le2, f2, hl, hall⟩ := lay_list T hT xs (fun y hy => hx y (List.mem_cons_of_mem _ hy)) φ1 h1 r1 ro1
    refine ⟨φ2, h2, l :: ls, r2, ro2, le1.trans le2, f1.trans f2, by simp [hl], fun i y e => ?_⟩
    cases i with
    | zero => simp at e; subst e; exact ⟨l, rfl, c1.mono le2, hT _ _ _ _ f2 t1⟩
    | succ i => exact hall i y (by simpa using e)

theorem flat_get {α : Type} : ∀ (ls : List (List α)) (k : Nat), (∀ l ∈ ls, l.length = k) → ls.flatten.length = ls.length * k ∧ ∀ (i : Nat) (l : List α), ls[i]? = some l → (ls.flatten.drop (i * k)).take k = l
  | [], k, _ => ⟨by simp, fun i l e => by simp at e⟩
  | x :: ls, k, h => by
    obtain ⟨h1, h2⟩ := flat_get ls k fun l hl => h l (List.mem_cons_of_mem _ hl)
    have hx := h x (by simp)
    refine ⟨by rw [List.flatten_cons, List.length_append, h1, hx, List.length_cons, Nat.add_mul, Nat.one_mul, Nat.add_comm], fun i l e => ?_⟩
    cases i with
    | zero =>
      simp at e; subst e
      rw [List.flatten_cons, Nat.zero_mul, List.drop_zero, List.take_append_of_le_length (by omega), List.take_of_length_le (by omega)]
    | succ i =>
      rw [List.flatten_cons, Nat.add_mul, Nat.one_mul, Nat.add_comm, ← List.drop_drop, ← hx, List.drop_left, hx]
      exact h2 i l (by simpa using e)

theorem flat_cell {α : Type} (ls : List (List α)) (k : Nat) (h : ∀ l ∈ ls, l.length = k) (i j : Nat) (hi : i < ls.length) (hj : j < k) : ∃ l, ls[i]? = some l ∧ ls.flatten[i * k + j]? = l[j]? := by
  obtain ⟨h1, h2⟩ := flat_get ls k h
  refine ⟨ls[i], List.getElem?_eq_getElem hi, ?_⟩
  have := h2 i _ (List.getElem?_eq_getElem hi)
  rw [← this, List.getElem?_take, if_pos hj, List.getElem?_drop]

theorem add_none {a : Addr} (h : a.spot = none) (m : Nat) : a.add m = ⟨a.block, a.off + m, none⟩ := by
  obtain ⟨b, o, s⟩ := a
  cases h
  exact Addr.add_none b o m

theorem cell_some {a : Addr} {v : Value} (h : W.cell? a = some v) : a.spot = none ∧ ∃ c e f, W.heap[a.block]? = some (.cells c e f) ∧ c[a.off]? = some v := by
  unfold World.cell? at h
  split at h
  · rename_i c e f hb
    split at h
    · cases h
    · rename_i hs
      refine ⟨by cases hs' : a.spot <;> simp_all, c, e, f, hb, h⟩
  · cases h

/-- fields, one after another -/
theorem lay_fields {B : Nat} {w0 : World} (L : TypeId → List Value → Prop)
    (hL : ∀ t cs, L t cs → ∀ φ h, Rel B w0 φ h W → RO φ h → ∃ φ' h' l, ConL φ' l cs ∧ Rel B w0 φ' h' W ∧ RO φ' h' ∧ φ.le φ' ∧ Fr h h' ∧ TyV P h' t l) (cs : List Value) :
    ∀ (fs : List Field) (acc : Nat), tileOk P fs acc cs.length = true → (∀ f ∈ fs, L f.type ((cs.drop f.offset).take (P.cellsOf f.type))) → ∀ φ h, Rel B w0 φ h W → RO φ h →
    ∃ φ' h' l, ConL φ' l (cs.drop acc) ∧ Rel B w0 φ' h' W ∧ RO φ' h' ∧ φ.le φ' ∧ Fr h h' ∧ (∀ f ∈ fs, acc ≤ f.offset ∧ TyV P h' f.type ((l.drop (f.offset - acc)).take (P.cellsOf f.type)))
  | [], acc, ht, _, φ, h, hR, hro => by
    have : acc = cs.length := Nat.eq_of_beq_eq_true ht
    subst this
    exact ⟨φ, h, [], by rw [List.drop_length]; exact .nil, hR, hro, .refl _, .refl _, fun f hf => by cases hf⟩
  | f :: fs, acc, ht, hf, φ, h, hR, hro => by
    simp only [tileOk, Bool.and_eq_true] at ht
    have ho : f.offset = acc := Nat.eq_of_beq_eq_true ht.1
    obtain ⟨φ1, h1, l1, c1, R1, ro1, le1, f1, t1⟩ := hL _ _ (hf f (by simp)) φ h hR hro
    obtain ⟨φ2, h2, l2, c2, R2, ro2, le2, f2, t2⟩ := lay_fields L hL cs fs (acc + P.cellsOf f.type) ht.2 (fun g hg => hf g (List.mem_cons_of_mem _ hg)) φ1 h1 R1 ro1
    have hle : acc + P.cellsOf f.type ≤ cs.length := by
      have : ∀ (fs : List Field) (a : Nat), tileOk P fs a cs.length = true → a ≤ cs.length := by
        intro fs
        induction fs with
        | nil => intro a h; exact Nat.le_of_eq (Nat.eq_of_beq_eq_true h)
        | cons g gs ih =>
          intro a h
          simp only [tileOk, Bool.and_eq_true] at h
          have := ih _ h.2
          omega
      exact this _ _ ht.2
    rw [ho] at c1
    have hlen : l1.length = P.cellsOf f.type := by rw [c1.length, List.length_take, List.length_drop]; omega
    refine ⟨φ2, h2, l1 ++ l2, ?_, R2, ro2, le1.trans le2, f1.trans f2, fun g hg => ?_⟩
    · have := (c1.mono le2).append c2
      rw [← List.drop_drop, List.take_append_drop] at this
      exact this
    · rcases List.mem_cons.1 hg with rfl | hg
      · refine ⟨by omega, ?_⟩
        rw [ho, Nat.sub_self, List.drop_zero, List.take_append_of_le_length (by omega), List.take_of_length_le (by omega)]
        exact t1.fr f2
      · obtain ⟨h3, h4⟩ := t2 g hg
        refine ⟨by omega, ?_⟩
        rw [show g.offset - acc = l1.length + (g.offset - (acc + P.cellsOf f.type)) from by omega, ← List.drop_drop, List.drop_left]
        exact h4

/-- where a slice of no room stands, some block of cells lies -/
def Empties (W : World) (cs : List Value) : Prop := ∀ (a : Addr) (len : Nat), Value.slice (some a) len 0 ∈ cs → ∃ (b : Nat) (c : Array Value) (e : TypeId) (f : Nat × Nat), W.heap[b]? = some (.cells c e f)

/-- cells of such a type, laid -/
theorem lay_cells {B : Nat} {w0 : World} :
    ∀ (d fuel : Nat) (t : TypeId) (cs : List Value) (x : DataW H × List MemPlace), plainTy P d t = true → DataW.trod enc P W base (fun _ => true) held fuel t cs = some x → Empties W cs →
    ∀ φ h, Rel B w0 φ h W → RO φ h → ∃ φ' h' l, ConL φ' l cs ∧ Rel B w0 φ' h' W ∧ RO φ' h' ∧ φ.le φ' ∧ Fr h h' ∧ TyV P h' t l
  | 0, fuel, t, cs, x, hp, _, _, _, _, _, _ => by cases hp
  | d + 1, fuel, t, cs, x, hp, h, hz, φ, g, hR, hro => by
    unfold plainTy at hp
    cases ht : P.underlying t with
    | none => rw [ht] at hp; cases hp
    | some td =>
      rw [ht] at hp
      cases td with
      | bool =>
        obtain ⟨b, rfl, _⟩ := DataW.trod_bool ht h
        exact ⟨φ, g, _, .cons (.bool b) .nil, hR, hro, .refl _, .refl _, .bool ht b⟩
      | int k =>
        obtain ⟨n, rfl, _, hw⟩ := DataW.trod_int ht h
        exact ⟨φ, g, _, .cons (.int k n) .nil, hR, hro, .refl _, .refl _, .int ht hw⟩
      | string =>
        obtain ⟨⟨⟨s⟩⟩, rfl, _, hs⟩ := DataW.trod_string ht h
        exact ⟨φ, g, _, .cons (.str s) .nil, hR, hro, .refl _, .refl _, .str ht hs⟩
      | struct fs =>
        simp only [Bool.and_eq_true, List.all_eq_true] at hp
        obtain ⟨hp1, hp2⟩ := hp
        obtain ⟨xs, n, _, _, hl, hlen, hf⟩ := DataW.trod_struct ht h
        obtain ⟨φ1, h1, l1, c1, R1, ro1, le1, f1, t1⟩ := lay_fields (L := fun t cs => ∃ n x, plainTy P d t = true ∧ DataW.trod enc P W base (fun _ => true) held n t cs = some x ∧ Empties W cs)
          (fun t cs ⟨n, x, h1, h2, h3⟩ => lay_cells d n t cs x h1 h2 h3) cs fs.toList 0 (by rw [hl]; exact hp1) (fun f hfm => by
            obtain ⟨i, hi⟩ := List.mem_iff_getElem?.1 hfm
            rw [Array.getElem?_toList] at hi
            have hlt : i < xs.length := by rw [hlen]; exact (Array.getElem?_eq_some_iff.1 hi).1
            exact ⟨n, xs[i], hp2 f hfm, by rw [hf i f hi]; exact List.getElem?_eq_getElem hlt, fun a len hm => hz a len (List.mem_of_mem_drop (List.mem_of_mem_take hm))⟩) φ g hR hro
        exact ⟨φ1, h1, l1, c1, R1, ro1, le1, f1, .struct ht (by rw [c1.length, List.drop_zero, hl]) fun f hf => by have := (t1 f hf).2; rwa [Nat.sub_zero] at this⟩
      | slice e =>
        simp only [Bool.and_eq_true] at hp
        obtain ⟨hp1, hp2⟩ := hp
        have hk : 0 < P.cellsOf e := Nat.le_of_ble_eq_true hp1
        rcases DataW.trod_slice ht h with ⟨rfl, _⟩ | ⟨a, len, cap, elems, rest, n, _, rfl, _, hb, hlc, hcm, hel, he1, he2, _⟩
        · exact ⟨φ, g, _, .cons .nils .nil, hR, hro, .refl _, .refl _, .nils ht⟩
        · obtain ⟨hrl, hr⟩ := he2 rfl
          have each : ∀ i, i < cap → ∃ cs y, W.cells? base (a.add (i * P.cellsOf e)) (P.cellsOf e) = some cs ∧ DataW.trod enc P W base (fun _ => true) held n e cs = some y := by
            intro i hi
            have : ∃ y, (W.cells? base (a.add (i * P.cellsOf e)) (P.cellsOf e)).bind (DataW.trod enc P W base (fun _ => true) held n e) = some y := by
              by_cases hil : i < len
              · exact ⟨elems[i], by rw [he1 i hil]; exact List.getElem?_eq_getElem (by omega)⟩
              · have hj : i - len < cap - len := by omega
                refine ⟨rest[i - len], ?_⟩
                have := hr (i - len) hj
                rw [show len + (i - len) = i from by omega] at this
                rw [this]; exact List.getElem?_eq_getElem (by omega)
            obtain ⟨y, hy⟩ := this
            obtain ⟨cs, h1, h2⟩ := Option.bind_eq_some_iff.1 hy
            exact ⟨cs, y, h1, h2⟩
          have hblk : ∃ (b : Nat) (c : Array Value) (e : TypeId) (f : Nat × Nat), W.heap[b]? = some (.cells c e f) := by
            by_cases hc0 : cap = 0
            · subst hc0; exact hz a len (by simp)
            · obtain ⟨cs, y, q1, _⟩ := each 0 (by omega)
              obtain ⟨q2, q3⟩ := cells?_get q1
              have := q3 0 hk
              rw [List.getElem?_eq_getElem (by omega)] at this
              obtain ⟨_, c, et, f, hbk, _⟩ := cell_some this
              exact ⟨_, c, et, f, hbk⟩
          -- the elements' cells
          have hcs : ∃ css : List (List Value), css.length = len ∧ ∀ i c, css[i]? = some c → W.cells? base (a.add (i * P.cellsOf e)) (P.cellsOf e) = some c ∧ ∃ y, DataW.trod enc P W base (fun _ => true) held n e c = some y := by
            refine ⟨(List.range len).map fun i => (W.cells? base (a.add (i * P.cellsOf e)) (P.cellsOf e)).getD [], by simp, fun i c hi => ?_⟩
            have hil : i < len := by have := (List.getElem?_eq_some_iff.1 hi).1; simpa using this
            obtain ⟨cs, y, h1, h2⟩ := each i (by omega)
            simp only [List.getElem?_map, List.getElem?_range hil, Option.map_some, Option.some.injEq, h1, Option.getD_some] at hi
            subst hi
            exact ⟨h1, y, h2⟩
          obtain ⟨css, hcl, hcs⟩ := hcs
          obtain ⟨φ1, h1, ls, R1, ro1, le1, f1, hll, hls⟩ := lay_list (B := B) (w0 := w0) (w := W) (fun (h : AH) (_ : Unit) l => TyV P h e l) (fun h h' _ l f t => t.fr f) (css.map fun c => ((), c)) (fun x hx φ h hR hro => by
            obtain ⟨c, hc, rfl⟩ := List.mem_map.1 hx
            obtain ⟨i, hi⟩ := List.mem_iff_getElem?.1 hc
            obtain ⟨_, y, hy⟩ := hcs i c hi
            exact lay_cells d n e c y hp2 hy (fun _ _ _ => hblk) φ h hR hro) φ g hR hro
          rw [List.length_map, hcl] at hll
          have hlens : ∀ l ∈ ls, l.length = P.cellsOf e := by
            intro l hl
            obtain ⟨i, hi⟩ := List.mem_iff_getElem?.1 hl
            have hil : i < css.length := by rw [hcl, ← hll]; exact (List.getElem?_eq_some_iff.1 hi).1
            obtain ⟨l', h1, h2, _⟩ := hls i ((), css[i]) (by simp [hil])
            rw [hi] at h1
            cases h1
            rw [h2.length]
            exact (cells?_get (hcs i _ (List.getElem?_eq_getElem hil)).1).1
          obtain ⟨hfl, hfg⟩ := flat_get ls (P.cellsOf e) hlens
          by_cases hc0 : cap = 0
          · -- nothing there
            obtain ⟨b, c, et, f, hbk⟩ := hblk
            have hl0 : len = 0 := by omega
            have hv0 : ls.flatten = [] := List.length_eq_zero_iff.1 (by rw [hfl, hll, hl0, Nat.zero_mul])
            obtain ⟨R2, ro2, le2⟩ := rel_ro R1 ro1 (p := ⟨b, 0, 0⟩) (vs := []) hbk (Nat.le_refl _) (Nat.zero_le _) (fun i x hx => by simp at hx)
            refine ⟨_, _, [.slice h1.next 0 len cap true (P.cellsOf e)], .cons (.slice (Phi.set_same _ _ _) (fun _ => rfl) (Nat.le_refl _) hlc (.inl hc0)) .nil, R2, ro2, le1.trans le2, f1.push _, ?_⟩
            exact .slice ht (by simp) (get_push_new _) (by rw [hl0, Nat.zero_mul]; rfl) hlc hcm fun i hi => by omega
          · have hcp : 0 < cap := by omega
            have hk0 : ∀ i j, i < cap → j < P.cellsOf e → ∃ v, W.cell? ((a.add (i * P.cellsOf e)).add j) = some v := by
              intro i j hi hj
              obtain ⟨cs, y, q1, _⟩ := each i hi
              obtain ⟨q2, q3⟩ := cells?_get q1
              exact ⟨cs[j]'(by omega), by rw [q3 j hj]; exact List.getElem?_eq_getElem (by omega)⟩
            obtain ⟨v0, hv0⟩ := hk0 0 0 hcp hk
            have ha0 : (a.add (0 * P.cellsOf e)).add 0 = a := by simp [Addr.add]
            rw [ha0] at hv0
            obtain ⟨hsp, c, et, f, hbk, _⟩ := cell_some hv0
            have hat : ∀ i j, (a.add (i * P.cellsOf e)).add j = ⟨a.block, a.off + (i * P.cellsOf e + j), none⟩ := by
              intro i j
              rw [add_none hsp, Addr.add_none, Nat.add_assoc]
            have hcell : ∀ o, W.cell? ⟨a.block, o, none⟩ = c[o]? := fun o => cell?_of hbk
            have hsz : a.off + cap * P.cellsOf e ≤ c.size := by
              obtain ⟨v, hv⟩ := hk0 (cap - 1) (P.cellsOf e - 1) (by omega) (by omega)
              rw [hat, hcell] at hv
              have := (Array.getElem?_eq_some_iff.1 hv).1
              have e1 : (cap - 1) * P.cellsOf e + P.cellsOf e = cap * P.cellsOf e := by
                rw [← Nat.succ_mul, show (cap - 1).succ = cap from by omega]
              omega
            have hle : len * P.cellsOf e ≤ cap * P.cellsOf e := Nat.mul_le_mul_right _ hlc
            obtain ⟨R2, ro2, le2⟩ := rel_ro R1 ro1 (p := ⟨a.block, a.off, cap * P.cellsOf e⟩) (vs := ls.flatten) hbk (by rw [hfl, hll]; exact hle) hsz (fun i x hx => by
              have hi : i < len * P.cellsOf e := by rw [← hll, ← hfl]; exact (List.getElem?_eq_some_iff.1 hx).1
              have hdiv : i / P.cellsOf e < len := (Nat.div_lt_iff_lt_mul hk).2 hi
              have hmod : i % P.cellsOf e < P.cellsOf e := Nat.mod_lt _ hk
              have hdm : i / P.cellsOf e * P.cellsOf e + i % P.cellsOf e = i := by rw [Nat.mul_comm]; exact Nat.div_add_mod _ _
              obtain ⟨l, q1, q2⟩ := flat_cell ls (P.cellsOf e) hlens (i / P.cellsOf e) (i % P.cellsOf e) (by omega) hmod
              rw [hdm, hx] at q2
              have hcs' : (css.map fun c => ((), c))[i / P.cellsOf e]? = some ((), css[i / P.cellsOf e]'(by omega)) := by simp [hcl, hdiv]
              obtain ⟨l', q3, q4, _⟩ := hls _ _ hcs'
              rw [q1] at q3
              cases q3
              obtain ⟨y, q5, q6⟩ := q4.get _ _ q2.symm
              refine ⟨y, ?_, q6⟩
              obtain ⟨_, q7⟩ := cells?_get (hcs _ _ (List.getElem?_eq_getElem (by omega : i / P.cellsOf e < css.length))).1
              have q8 := q7 _ hmod
              rw [hat, hcell, hdm] at q8
              rw [q8]
              exact q5)
            refine ⟨_, _, [.slice h1.next 0 len cap true (P.cellsOf e)], .cons (.slice (p := ⟨a.block, a.off, cap * P.cellsOf e⟩) (Phi.set_same _ _ _) (fun _ => rfl) (Nat.le_refl _) hlc (.inr ⟨Nat.le_of_eq (Nat.zero_add _), ?_⟩)) .nil, R2, ro2, le1.trans le2, f1.push _, ?_⟩
            · obtain ⟨b, o, s⟩ := a
              cases hsp
              rfl
            · refine .slice ht (by simp) (get_push_new _) (by rw [hfl, hll]) hlc hcm fun i hi => ?_
              have hil : i < css.length := by omega
              obtain ⟨l, q1, _, q3⟩ := hls i ((), css[i]) (by simp [hil])
              rw [hfg i l q1]
              exact q3.fr ((Fr.refl _).push _)
      | _ => cases hp

theorem shape_cells {b : Nat} {x : TypeId × Nat} (h : W.shape? b = some x) : ∃ (c : Array Value) (e : TypeId) (f : Nat × Nat), W.heap[b]? = some (.cells c e f) := by
  unfold World.shape? at h
  split at h
  · rename_i c e f hb; exact ⟨c, e, f, hb⟩
  · cases h

theorem cell_empty {b0 : Nat} {t : TypeId} {a : Addr} {len cap : Nat} (h : Cell.okWide P W .any b0 t (.slice (some a) len cap)) : ∃ (b : Nat) (c : Array Value) (e : TypeId) (f : Nat × Nat), W.heap[b]? = some (.cells c e f) := by
  unfold Cell.okWide at h
  split at h
  case h_8 =>
    unfold Cell.ok at h
    split at h <;> first | contradiction | skip
    all_goals (rename_i heq; first | cases heq | skip)
    obtain ⟨_, _, hh⟩ := h
    unfold World.has at hh
    obtain ⟨_, _, row, cells, hs, _⟩ := hh
    obtain ⟨c, e, f, hb⟩ := shape_cells hs
    exact ⟨_, c, e, f, hb⟩
  all_goals (rename_i heq; cases heq)

/-- a slice that is given -/
theorem lay_slice {B : Nat} {w0 : World} {b0 : Nat} {d : Nat} {t e : TypeId} {v : Value} {dd : DataW H} {ps : List MemPlace} (ht : P.underlying t = some (.slice e)) (hp : plainTy P d t = true)
    (hval : Value.okWide P W .any b0 t v) (hd : DataW.Trod enc P W base (fun _ => true) held t v dd ps) {φ : Phi} {h : AH} (hR : Rel B w0 φ h W) (hro : RO φ h) :
    ∃ φ' h' a, Con φ' a v ∧ Rel B w0 φ' h' W ∧ RO φ' h' ∧ φ.le φ' ∧ Fr h h' ∧ TyV P h' t [a] := by
  have hc : Cell.okWide P W .any b0 t v := by
    unfold Value.okWide at hval
    rw [ht] at hval
    exact hval
  have hs := okWide_scalar hc
  have hcells : v.cells.toList = [v] := by cases v <;> first | rfl | cases hs
  obtain ⟨fuel, hd⟩ := hd
  rw [hcells] at hd
  obtain ⟨φ', h', l, c1, R1, ro1, le1, f1, t1⟩ := lay_cells d fuel t [v] _ hp hd (fun a len hm => by
    simp only [List.mem_singleton] at hm
    rw [← hm] at hc
    exact cell_empty hc) φ h hR hro
  cases c1 with
  | cons c1 c2 =>
    cases c2
    exact ⟨φ', h', _, c1, R1, ro1, le1, f1, t1⟩

/-- a struct that is given -/
theorem lay_struct {B : Nat} {w0 : World} {b0 : Nat} {d : Nat} {t : TypeId} {fs : Array Field} {v : Value} {dd : DataW H} {ps : List MemPlace} (ht : P.underlying t = some (.struct fs)) (hp : plainTy P d t = true)
    (hval : Value.okWide P W .any b0 t v) (hd : DataW.Trod enc P W base (fun _ => true) held t v dd ps) {φ : Phi} {h : AH} (hR : Rel B w0 φ h W) (hro : RO φ h) :
    ∃ φ' h' l, Con φ' (.agg l) v ∧ Rel B w0 φ' h' W ∧ RO φ' h' ∧ φ.le φ' ∧ Fr h h' ∧ TyV P h' t l := by
  unfold Value.okWide at hval
  rw [ht] at hval
  obtain ⟨⟨cs⟩, rfl, _, ts, _, _, hall⟩ := hval
  obtain ⟨fuel, hd⟩ := hd
  obtain ⟨φ', h', l, c1, R1, ro1, le1, f1, t1⟩ := lay_cells d fuel t cs _ hp hd (fun a len hm => by
    obtain ⟨i, hi⟩ := List.mem_iff_getElem?.1 hm
    obtain ⟨u, _, hu⟩ := hall i _ (by simpa using hi)
    exact cell_empty hu) φ h hR hro
  exact ⟨φ', h', l, .agg c1, R1, ro1, le1, f1, t1⟩

theorem ro0 (φ : Phi) (n : Nat) : RO φ ⟨n, .leaf⟩ := fun _ _ _ _ e => by cases e

/-- a law that comes out true -/
theorem law_ev (hM : P.follows .mixedOrders = true) (hnum : P.funcs.all (fun f => f.name != "runtime.NumGoroutine") = true) {f : FuncId} {args : List AV} {args' : List Value} {φ : Phi} {h : AH}
    (he : Ev P (fun _ => none) (.fn f) args h fun r _ => r = .bool true) (ha : ConL φ args args') (hG : GlobRel P φ) (hR : Rel W.heap.size W φ h W) :
    Calls P f ⟨args'⟩ W fun e W' => e = .returned (.bool true) ∧ Below W.heap.size W W' := by
  obtain ⟨N, v, h', he, rfl⟩ := he
  refine (calls_of_ev hM (noNum hnum) sumOk_none he ha hG hR).mono fun e W' hh => ?_
  cases e with
  | returned v =>
    obtain ⟨φ', h1, h2, _⟩ := hh
    cases h1
    exact ⟨rfl, h2.below⟩
  | panicked c => exact hh.elim
  | outgrown => exact hh.elim

theorem GlobRel.le {φ ψ : Phi} (h : GlobRel P φ) (hle : φ.le ψ) : GlobRel P ψ := fun g hg => let ⟨n, e⟩ := h g hg; ⟨n, hle _ _ e⟩

/-! ### what cells of a type are -/

variable {h : AH}

theorem TyV.int_inv {t : TypeId} {k : IntKind} {l : List AV} (ht : P.underlying t = some (.int k)) (s : TyV P h t l) : ∃ n, l = [.int k n] ∧ (Lit.int k n).wf = true := by
  cases s with
  | int ht' hn => rw [ht] at ht'; cases ht'; exact ⟨_, rfl, hn⟩
  | bool ht' => rw [ht] at ht'; cases ht'
  | str ht' => rw [ht] at ht'; cases ht'
  | nils ht' => rw [ht] at ht'; cases ht'
  | slice ht' => rw [ht] at ht'; cases ht'
  | struct ht' => rw [ht] at ht'; cases ht'

theorem TyV.str_inv {t : TypeId} {l : List AV} (ht : P.underlying t = some .string) (s : TyV P h t l) : ∃ x, l = [.str x] ∧ x.length ≤ maxLen := by
  cases s with
  | str ht' hs => exact ⟨_, rfl, hs⟩
  | int ht' => rw [ht] at ht'; cases ht'
  | bool ht' => rw [ht] at ht'; cases ht'
  | nils ht' => rw [ht] at ht'; cases ht'
  | slice ht' => rw [ht] at ht'; cases ht'
  | struct ht' => rw [ht] at ht'; cases ht'

theorem TyV.slice_inv {t e : TypeId} {k : Nat} {l : List AV} (ht : P.underlying t = some (.slice e)) (hk : P.cellsOf e = k) (s : TyV P h t l) :
    ∃ v n vs, l = [v] ∧ n ≤ maxLen ∧ Sl h k n v vs ∧ ∀ i, i < n → TyV P h e ((vs.drop (i * k)).take k) := by
  subst hk
  cases s with
  | nils ht' => exact ⟨_, 0, [], rfl, Nat.zero_le _, Sl.nil _, fun i hi => absurd hi (by omega)⟩
  | @slice _ e' id len cap vs ht' hi hg hv hl hc hel =>
    rw [ht] at ht'
    cases ht'
    exact ⟨_, len, vs, rfl, Nat.le_trans hl hc, ⟨hv, .inr ⟨id, 0, cap, true, vs, true, rfl, hi, hl, hg, by omega, by rw [List.drop_zero, List.take_of_length_le (by omega)]⟩⟩, hel⟩
  | int ht' => rw [ht] at ht'; cases ht'
  | bool ht' => rw [ht] at ht'; cases ht'
  | str ht' => rw [ht] at ht'; cases ht'
  | struct ht' => rw [ht] at ht'; cases ht'

def structOf (P : Program) (t : TypeId) : List (TypeId × Nat) := match P.underlying t with
  | some (.struct fs) => fs.toList.map fun f => (f.type, f.offset)
  | _ => []

theorem TyV.struct_inv {t : TypeId} {l : List AV} {ts : List (TypeId × Nat)} (ht : structOf P t = ts) (hne : ts ≠ []) (s : TyV P h t l) :
    l.length = P.cellsOf t ∧ ∀ u o, (u, o) ∈ ts → TyV P h u ((l.drop o).take (P.cellsOf u)) := by
  subst ht
  unfold structOf at hne ⊢
  cases s with
  | struct ht' hl hf =>
    rw [ht']
    refine ⟨hl, fun u o hm => ?_⟩
    simp only [List.mem_map, Prod.mk.injEq] at hm
    obtain ⟨f, hf', rfl, rfl⟩ := hm
    exact hf f hf'
  | int ht' => rw [ht'] at hne; exact absurd rfl hne
  | bool ht' => rw [ht'] at hne; exact absurd rfl hne
  | str ht' => rw [ht'] at hne; exact absurd rfl hne
  | nils ht' => rw [ht'] at hne; exact absurd rfl hne
  | slice ht' => rw [ht'] at hne; exact absurd rfl hne

/-- elements told one by one -/
theorem elems_of {α : Type} (g : α → List AV) (p : α → Prop) (k : Nat) : ∀ (n : Nat) (vs : List AV), vs.length = n * k → (∀ i, i < n → ∃ x, (vs.drop (i * k)).take k = g x ∧ p x) → ∃ xs : List α, xs.length = n ∧ vs = (xs.map g).flatten ∧ ∀ x ∈ xs, p x
  | 0, vs, hl, _ => ⟨[], rfl, List.length_eq_zero_iff.1 (by omega), fun x hx => by cases hx⟩
  | n + 1, vs, hl, he => by
    obtain ⟨x, h1, h2⟩ := he 0 (by omega)
    rw [Nat.zero_mul, List.drop_zero] at h1
    rw [Nat.add_mul, Nat.one_mul] at hl
    obtain ⟨xs, h3, h4, h5⟩ := elems_of g p k n (vs.drop k) (by rw [List.length_drop]; omega) fun i hi => by
      obtain ⟨y, q1, q2⟩ := he (i + 1) (by omega)
      refine ⟨y, ?_, q2⟩
      rw [List.drop_drop, show k + i * k = (i + 1) * k from by rw [Nat.add_mul, Nat.one_mul, Nat.add_comm]]
      exact q1
    refine ⟨x :: xs, by simp [h3], ?_, fun y hy => ?_⟩
    · rw [List.map_cons, List.flatten_cons, ← h4, ← h1, List.take_append_drop]
    · rcases List.mem_cons.1 hy with rfl | hy
      · exact h2
      · exact h5 y hy

end Go.Dr
