/-
  The abstract heap against the model's world.
-/
import Derived.Test.YthkoheaklmgonaaDoorDrBase
namespace Go.Dr
open Go.RowKit

inductive ConE (φ : Phi) : List AEntry → List MapEntry → Prop
  | nil : ConE φ [] []
  | cons {e : AEntry} {e' : MapEntry} {l : List AEntry} {l' : List MapEntry} (hk : Con φ e.key e'.key) (hv : Con φ e.val e'.val) (hb : e'.born = e.born) (t : ConE φ l l') : ConE φ (e :: l) (e' :: l')

theorem ConE.mono {φ ψ : Phi} (hle : φ.le ψ) : ∀ {a : List AEntry} {v : List MapEntry}, ConE φ a v → ConE ψ a v
  | _, _, .nil => .nil
  | _, _, .cons hk hv hb t => .cons (hk.mono hle) (hv.mono hle) hb (t.mono hle)

def valOf (t : PT AV) (i : Nat) : AV := match t.get i with | some v => v | none => aundef

structure LoopRel (φ : Phi) (r : ALoop) (r' : Loop) : Prop where
  state : r'.state = r.state
  pending : r'.pending = r.pending
  params : r'.params = r.params
  assign : r'.assign = r.assign
  body : r'.body = r.body
  size : r'.tmps.size = r.n
  tmps : ∀ i, Con φ (valOf r.tmps i) (r'.tmps.getD i undef)

def ObjRel (φ : Phi) (w : World) (p : Pl) : AObj → Prop
  | .cells vs ro => ∃ c e lo hi, w.heap[p.blk]? = some (.cells c e (lo, hi)) ∧ vs.length ≤ p.room ∧ p.off + p.room ≤ c.size ∧
      (∀ i x, vs[i]? = some x → ∃ y, c[p.off + i]? = some y ∧ Con φ x y) ∧ (ro = false → ∀ i, p.off ≤ i → i < p.off + p.room → ¬ (lo ≤ i ∧ i < hi))
  | .map l clock => ∃ es, w.heap[p.blk]? = some (.map ⟨es⟩ clock) ∧ ConE φ l es
  | .loop r => ∃ r', w.heap[p.blk]? = some (.loop r') ∧ LoopRel φ r r'
  | .deferred none => w.heap[p.blk]? = some (.deferred none)
  | .deferred (some []) => w.heap[p.blk]? = some (.deferred (some []))
  | .deferred (some (_ :: _)) => False
  | .siter s pos => p.off = 0 ∧ w.heap[p.blk]? = some (.stringIter ⟨⟨s⟩⟩ pos)
  | .miter m since seen stepped => p.off = 0 ∧ ∃ m', w.heap[p.blk]? = some (.mapIter m' since ⟨seen⟩ stepped) ∧
      match m with | none => m' = none | some id => ∃ q, φ id = some q ∧ m' = some q.blk

theorem LoopRel.mono {φ ψ : Phi} (hle : φ.le ψ) {r : ALoop} {r' : Loop} (h : LoopRel φ r r') : LoopRel ψ r r' :=
  { h with tmps := fun i => (h.tmps i).mono hle }

theorem ObjRel.mono {φ ψ : Phi} (hle : φ.le ψ) {w : World} {p : Pl} {o : AObj} (h : ObjRel φ w p o) : ObjRel ψ w p o := by
  cases o with
  | cells vs ro =>
    obtain ⟨c, e, lo, hi, h1, h2, h3, h4, h5⟩ := h
    exact ⟨c, e, lo, hi, h1, h2, h3, fun i x hx => let ⟨y, hy, hc⟩ := h4 i x hx; ⟨y, hy, hc.mono hle⟩, h5⟩
  | map l clock => obtain ⟨es, h1, h2⟩ := h; exact ⟨es, h1, h2.mono hle⟩
  | loop r => obtain ⟨r', h1, h2⟩ := h; exact ⟨r', h1, h2.mono hle⟩
  | deferred ds =>
    cases ds with
    | none => exact h
    | some l => cases l <;> exact h
  | siter s pos => exact h
  | miter m since seen stepped =>
    obtain ⟨h0, m', h1, h2⟩ := h
    refine ⟨h0, m', h1, ?_⟩
    cases m with
    | none => exact h2
    | some id => obtain ⟨q, hq, hm⟩ := h2; exact ⟨q, hle _ _ hq, hm⟩

theorem ObjRel.world {φ : Phi} {w w' : World} {p : Pl} {o : AObj} (h : ObjRel φ w p o) (hw : w'.heap[p.blk]? = w.heap[p.blk]?) : ObjRel φ w' p o := by
  cases o with
  | deferred ds =>
    cases ds with
    | none => simp only [ObjRel] at *; rw [hw]; exact h
    | some l => cases l <;> simp only [ObjRel] at * <;> rw [hw]; exact h
  | _ => simp only [ObjRel] at *; rw [hw]; exact h

def AObj.writable : AObj → Bool
  | .cells _ ro => !ro
  | _ => true

/-- the abstract heap h against the world w: φ says where each of its blocks lies; from block B on the world is ours, below it is as w0 -/
structure Rel (B : Nat) (w0 : World) (φ : Phi) (h : AH) (w : World) : Prop where
  lt : ∀ i p, φ i = some p → i < h.next
  obj : ∀ i p o, φ i = some p → h.get i = some o → ObjRel φ w p o
  own : ∀ i p o, φ i = some p → h.get i = some o → o.writable = true → B ≤ p.blk
  inj : ∀ i j p q oi oj, i ≠ j → φ i = some p → φ j = some q → h.get i = some oi → h.get j = some oj → (oi.writable = true ∨ oj.writable = true) → p.blk ≠ q.blk
  below : Below B w0 w
  base : B ≤ w0.heap.size

/-- from (φ, h) to (φ', h'): what was there stays where it is; blocks that lie nowhere are not touched, nor laid -/
structure Ext (φ : Phi) (h : AH) (φ' : Phi) (h' : AH) : Prop where
  le : φ.le φ'
  next : h.next ≤ h'.next
  keep : ∀ i, i < h.next → φ i = none → φ' i = none ∧ h'.get i = h.get i

theorem Ext.refl (φ : Phi) (h : AH) : Ext φ h φ h := ⟨.refl _, Nat.le_refl _, fun _ _ e => ⟨e, rfl⟩⟩
theorem Ext.trans {φ φ' φ'' : Phi} {h h' h'' : AH} (a : Ext φ h φ' h') (b : Ext φ' h' φ'' h'') : Ext φ h φ'' h'' :=
  ⟨a.le.trans b.le, Nat.le_trans a.next b.next, fun i hi e => by
    obtain ⟨e1, g1⟩ := a.keep i hi e
    obtain ⟨e2, g2⟩ := b.keep i (Nat.lt_of_lt_of_le hi a.next) e1
    exact ⟨e2, g2.trans g1⟩⟩

def Phi.set (φ : Phi) (i : Nat) (p : Pl) : Phi := ⟨fun j => if j = i then some p else φ j, φ.raw⟩
theorem Phi.set_same (φ : Phi) (i : Nat) (p : Pl) : φ.set i p i = some p := by simp [Phi.set]
theorem Phi.set_other (φ : Phi) {i j : Nat} (p : Pl) (h : j ≠ i) : φ.set i p j = φ j := by simp [Phi.set, h]
theorem Phi.le_set {φ : Phi} {i : Nat} (p : Pl) (h : φ i = none) : φ.le (φ.set i p) := by
  refine ⟨fun j q e => ?_, rfl⟩
  by_cases hj : j = i
  · subst hj; rw [h] at e; cases e
  · rw [Phi.set_other _ _ hj]; exact e

variable {B : Nat} {w0 w w' : World} {φ : Phi} {h : AH}

theorem Rel.fresh (r : Rel B w0 φ h w) : φ h.next = none := by
  cases e : φ h.next with
  | none => rfl
  | some p => exact absurd (r.lt _ _ e) (Nat.lt_irrefl _)

/-- a block that lies nowhere yet -/
theorem Rel.promise (r : Rel B w0 φ h w) (o : AObj) : Rel B w0 φ (h.push o) w := by
  have hn := r.fresh
  have g : ∀ i p, φ i = some p → (h.push o).get i = h.get i := fun i p e => by
    rw [AH.get_push, if_neg]; intro e'; subst e'; rw [hn] at e; cases e
  exact ⟨fun i p e => Nat.lt_succ_of_lt (r.lt i p e), fun i p o' e e' => r.obj i p o' e (by rw [← g i p e]; exact e'),
    fun i p o' e e' => r.own i p o' e (by rw [← g i p e]; exact e'),
    fun i j p q oi oj hij e1 e2 g1 g2 hw => r.inj i j p q oi oj hij e1 e2 (by rw [← g i p e1]; exact g1) (by rw [← g j q e2]; exact g2) hw, r.below, r.base⟩

/-- a block is laid -/
theorem Rel.lay (r : Rel B w0 φ h w) {i : Nat} {p : Pl} {o : AObj} (hi : i < h.next) (hn : φ i = none) (hg : h.get i = some o) (ho : ObjRel (φ.set i p) w p o)
    (hB : o.writable = true → B ≤ p.blk) (hd : ∀ j q oj, φ j = some q → h.get j = some oj → (o.writable = true ∨ oj.writable = true) → q.blk ≠ p.blk) : Rel B w0 (φ.set i p) h w := by
  have hle := Phi.le_set p hn
  refine ⟨fun j q e => ?_, fun j q o' e e' => ?_, fun j q o' e e' hw => ?_, fun j k q q' oj ok hjk e1 e2 g1 g2 hw => ?_, r.below, r.base⟩
  · by_cases hj : j = i
    · subst hj; exact hi
    · rw [Phi.set_other _ _ hj] at e; exact r.lt _ _ e
  · by_cases hj : j = i
    · subst hj; rw [Phi.set_same] at e; cases e; rw [hg] at e'; cases e'; exact ho
    · rw [Phi.set_other _ _ hj] at e; exact (r.obj _ _ _ e e').mono hle
  · by_cases hj : j = i
    · subst hj; rw [Phi.set_same] at e; cases e; rw [hg] at e'; cases e'; exact hB hw
    · rw [Phi.set_other _ _ hj] at e; exact r.own _ _ _ e e' hw
  · by_cases hj : j = i
    · subst hj; rw [Phi.set_same] at e1; cases e1; rw [hg] at g1; cases g1
      rw [Phi.set_other _ _ (fun e => hjk e.symm)] at e2
      exact fun e => hd _ _ _ e2 g2 hw e.symm
    · rw [Phi.set_other _ _ hj] at e1
      by_cases hk : k = i
      · subst hk; rw [Phi.set_same] at e2; cases e2; rw [hg] at g2; cases g2
        exact hd _ _ _ e1 g1 hw.symm
      · rw [Phi.set_other _ _ hk] at e2; exact r.inj _ _ _ _ _ _ hjk e1 e2 g1 g2 hw

/-- the world goes on, and leaves our blocks alone -/
theorem Rel.world (r : Rel B w0 φ h w) (hb : Below B w w') (hk : ∀ i p o, φ i = some p → h.get i = some o → w'.heap[p.blk]? = w.heap[p.blk]?) : Rel B w0 φ h w' :=
  ⟨r.lt, fun i p o e e' => (r.obj i p o e e').world (hk i p o e e'), r.own, r.inj, r.below.trans hb, r.base⟩

theorem Rel.size (r : Rel B w0 φ h w) : B ≤ w.heap.size := Nat.le_trans r.base r.below.size

theorem ObjRel.lt {p : Pl} {o : AObj} (ho : ObjRel φ w p o) : p.blk < w.heap.size := by
  have : ∃ o', w.heap[p.blk]? = some o' := by
    cases o with
    | cells vs ro => obtain ⟨c, e, lo, hi, h1, _⟩ := ho; exact ⟨_, h1⟩
    | map l clock => obtain ⟨es, h1, _⟩ := ho; exact ⟨_, h1⟩
    | loop r => obtain ⟨es, h1, _⟩ := ho; exact ⟨_, h1⟩
    | deferred ds => cases ds with
      | none => exact ⟨_, ho⟩
      | some l => cases l with
        | nil => exact ⟨_, ho⟩
        | cons _ _ => exact ho.elim
    | siter s pos => exact ⟨_, ho.2⟩
    | miter m a b c => obtain ⟨_, m', h1, _⟩ := ho; exact ⟨_, h1⟩
  obtain ⟨o', e⟩ := this
  exact (Array.getElem?_eq_some_iff.1 e).1

theorem Rel.alloc (r : Rel B w0 φ h w) (O : Obj) : Rel B w0 φ h (w.alloc O) :=
  r.world ((Below.refl _ _).alloc r.size O) fun i p o e e' => Below.heap_alloc _ _ _ (r.obj i p o e e').lt

theorem Rel.drew (r : Rel B w0 φ h w) : Rel B w0 φ h w.drew := r.world (Below.refl _ _).drew fun _ _ _ _ _ => rfl

/-- a block is killed -/
theorem Rel.kill (r : Rel B w0 φ h w) (i : Nat) : Rel B w0 φ (h.kill i) w := by
  have g : ∀ j o, (h.kill i).get j = some o → h.get j = some o := fun j o e => by
    rw [AH.get_kill] at e; split at e
    · cases e
    · exact e
  exact ⟨r.lt, fun j p o e e' => r.obj j p o e (g _ _ e'), fun j p o e e' => r.own j p o e (g _ _ e'),
    fun j k p q oi oj hjk e1 e2 g1 g2 => r.inj j k p q oi oj hjk e1 e2 (g _ _ g1) (g _ _ g2), r.below, r.base⟩

/-- a block of ours is written -/
theorem Rel.write (r : Rel B w0 φ h w) {i : Nat} {p : Pl} {o o' : AObj} (hi : φ i = some p) (hg : h.get i = some o) (hw : o.writable = true) (_hw' : o'.writable = true)
    (hb : Below B w w') (hk : ∀ k, k ≠ p.blk → w'.heap[k]? = w.heap[k]?) (ho : ObjRel φ w' p o') : Rel B w0 φ (h.set i o') w' := by
  refine ⟨r.lt, fun j q o1 e e' => ?_, fun j q o1 e e' => ?_, fun j k q q' oj ok hjk e1 e2 g1 g2 _ => ?_, r.below.trans hb, r.base⟩
  · rw [AH.get_set] at e'
    by_cases hj : j = i
    · subst hj; rw [if_pos rfl] at e'; cases e'; rw [hi] at e; cases e; exact ho
    · rw [if_neg hj] at e'
      exact (r.obj _ _ _ e e').world (hk _ (r.inj _ _ _ _ _ _ hj e hi e' hg (.inr hw)))
  · rw [AH.get_set] at e'
    by_cases hj : j = i
    · subst hj; rw [if_pos rfl] at e'; cases e'; rw [hi] at e; cases e; exact fun _ => r.own _ _ _ hi hg hw
    · rw [if_neg hj] at e'; exact r.own _ _ _ e e'
  · rw [AH.get_set] at g1 g2
    by_cases hj : j = i
    · subst hj
      rw [if_neg (fun e => hjk e.symm)] at g2
      exact r.inj _ _ _ _ _ _ hjk e1 e2 hg g2 (.inl hw)
    · rw [if_neg hj] at g1
      by_cases hk' : k = i
      · subst hk'; exact r.inj _ _ _ _ _ _ hjk e1 e2 g1 hg (.inr hw)
      · rw [if_neg hk'] at g2; rename_i hh; exact r.inj _ _ _ _ _ _ hjk e1 e2 g1 g2 hh

/-- a new block -/
theorem Rel.push (r : Rel B w0 φ h w) {room : Nat} {o : AObj} {O : Obj} (ho : ObjRel (φ.set h.next ⟨w.heap.size, 0, room⟩) (w.alloc O) ⟨w.heap.size, 0, room⟩ o) :
    Rel B w0 (φ.set h.next ⟨w.heap.size, 0, room⟩) (h.push o) (w.alloc O) :=
  ((r.promise o).alloc O).lay (Nat.lt_succ_self _) r.fresh (by rw [AH.get_push, if_pos rfl]) ho (fun _ => r.size)
    fun j q oj e e' _ => Nat.ne_of_lt (by
      have hne : j ≠ h.next := fun e' => by subst e'; rw [r.fresh] at e; cases e
      rw [AH.get_push, if_neg hne] at e'
      exact (r.obj _ _ _ e e').lt)

theorem Ext.push (r : Rel B w0 φ h w) (o : AObj) (p : Pl) : Ext φ h (φ.set h.next p) (h.push o) :=
  ⟨Phi.le_set _ r.fresh, Nat.le_succ _, fun i hi e => ⟨by rw [Phi.set_other _ _ (Nat.ne_of_lt hi)]; exact e, by rw [AH.get_push, if_neg (Nat.ne_of_lt hi)]⟩⟩

theorem Ext.write {i : Nat} {p : Pl} (hi : φ i = some p) (o : AObj) : Ext φ h φ (h.set i o) :=
  ⟨.refl _, Nat.le_refl _, fun j _ e => ⟨e, by rw [AH.get_set, if_neg]; intro e'; subst e'; rw [hi] at e; cases e⟩⟩

theorem Ext.kill {i : Nat} {p : Pl} (hi : φ i = some p) : Ext φ h φ (h.kill i) :=
  ⟨.refl _, Nat.le_refl _, fun j _ e => ⟨e, by rw [AH.get_kill, if_neg]; intro e'; subst e'; rw [hi] at e; cases e⟩⟩

/-! ### cells -/

theorem Addr.add_none (b o n : Nat) : (⟨b, o, none⟩ : Addr).add n = ⟨b, o + n, none⟩ := by
  unfold Addr.add; split
  · rename_i e; subst e; rfl
  · rfl

theorem cell?_of {b o : Nat} {c : Array Value} {e : TypeId} {f : Nat × Nat} (hb : w.heap[b]? = some (.cells c e f)) : w.cell? ⟨b, o, none⟩ = c[o]? := by
  simp [World.cell?, hb]

theorem run_load_at {P : Program} {b o : Nat} {v : Value} (hc : w.cell? ⟨b, o, none⟩ = some v) : (load ⟨b, o, none⟩).run P w = .ok v w := by
  rw [run_load, hc]

theorem run_loadFrom {P : Program} {b o : Nat} : ∀ (n i : Nat) (acc : Array Value) (vs : List Value), vs.length = n → (∀ j v, vs[j]? = some v → w.cell? ⟨b, o + (i + j), none⟩ = some v) →
    (loadCellsFrom ⟨b, o, none⟩ i n acc).run P w = .ok ⟨acc.toList ++ vs⟩ w
  | 0, i, acc, vs, hl, _ => by
    obtain rfl : vs = [] := List.length_eq_zero_iff.1 hl
    simp [loadCellsFrom]
  | n + 1, i, acc, vs, hl, hc => by
    cases vs with
    | nil => simp at hl
    | cons v vs =>
      have h0 := hc 0 v rfl
      simp only [Nat.add_zero] at h0
      rw [loadCellsFrom, Sem.run_bind, Addr.add_none, run_load_at h0, Result.andThen_ok,
        run_loadFrom n (i + 1) _ vs (by simpa using hl) (fun j u hj => by have := hc (j + 1) u (by simpa using hj); rw [show i + 1 + j = i + (j + 1) from by omega]; exact this)]
      simp

theorem run_loadCells_at {P : Program} {b o n : Nat} {vs : List Value} (hl : vs.length = n) (hc : ∀ j v, vs[j]? = some v → w.cell? ⟨b, o + j, none⟩ = some v) :
    (loadCells ⟨b, o, none⟩ n).run P w = .ok ⟨vs⟩ w := by
  unfold loadCells
  rw [run_loadFrom n 0 #[] vs hl (fun j v hj => by rw [Nat.zero_add]; exact hc j v hj)]
  rfl

/-- the world with cells laid from an offset on -/
def putCells (w : World) (b o : Nat) : List Value → World
  | [] => w
  | v :: vs => putCells (w.setCell ⟨b, o, none⟩ v) b (o + 1) vs

theorem setCell_heap {b o : Nat} {v : Value} {c : Array Value} {e : TypeId} {f : Nat × Nat} (hb : w.heap[b]? = some (.cells c e f)) :
    (w.setCell ⟨b, o, none⟩ v).heap[b]? = some (.cells (c.setIfInBounds o v) e f) := by
  simp only [World.setCell, Array.getElem?_modify]
  rw [if_pos trivial, hb]; rfl

theorem putCells_heap {b : Nat} {e : TypeId} {f : Nat × Nat} : ∀ (vs : List Value) (o : Nat) (w : World) (c : Array Value), w.heap[b]? = some (.cells c e f) →
    ∃ c', (putCells w b o vs).heap[b]? = some (.cells c' e f) ∧ c'.size = c.size ∧ ∀ j, c'[j]? = if o ≤ j ∧ j < o + vs.length ∧ j < c.size then vs[j - o]? else c[j]?
  | [], o, w, c, hb => ⟨c, hb, rfl, fun j => by rw [if_neg]; simp; omega⟩
  | v :: vs, o, w, c, hb => by
    obtain ⟨c', h1, h2, h3⟩ := putCells_heap vs (o + 1) _ _ (setCell_heap (o := o) (v := v) hb)
    refine ⟨c', h1, by rw [h2]; simp, fun j => ?_⟩
    rw [h3, Array.size_setIfInBounds, List.length_cons]
    by_cases h : o ≤ j ∧ j < o + (vs.length + 1) ∧ j < c.size
    · rw [if_pos h]
      by_cases hj : j = o
      · subst hj
        rw [if_neg (by omega), Nat.sub_self, Array.getElem?_setIfInBounds_self_of_lt (by omega)]; rfl
      · rw [if_pos (by omega), show j - o = (j - (o + 1)) + 1 from by omega]; rfl
    · rw [if_neg h, if_neg (by omega)]
      by_cases hj : j = o
      · subst hj
        have hsz : ¬ j < c.size := by omega
        rw [Array.getElem?_eq_none (by simp; omega), Array.getElem?_eq_none (by omega)]
      · rw [Array.getElem?_setIfInBounds_ne (by omega)]

theorem putCells_other {b : Nat} : ∀ (vs : List Value) (o : Nat) (w : World) (k : Nat), k ≠ b → (putCells w b o vs).heap[k]? = w.heap[k]?
  | [], _, _, _, _ => rfl
  | v :: vs, o, w, k, hk => by rw [putCells, putCells_other vs _ _ _ hk, Below.heap_setCell _ _ _ _ hk]

theorem putCells_below {b : Nat} (hB : B ≤ b) : ∀ (vs : List Value) (o : Nat) (w : World), Below B w (putCells w b o vs)
  | [], _, _ => .refl _ _
  | v :: vs, _, _ => ((Below.refl _ _).setCell hB v).trans (putCells_below hB vs _ _)

theorem run_storeCells_at {P : Program} {b : Nat} {e : TypeId} {lo hi : Nat} : ∀ (vs : List Value) (o i : Nat) (w : World) (c : Array Value), w.heap[b]? = some (.cells c e (lo, hi)) →
    o + i + vs.length ≤ c.size → (∀ j, o + i ≤ j → j < o + i + vs.length → ¬ (lo ≤ j ∧ j < hi)) → (∀ v ∈ vs, v.oneCell' = true) →
    (storeCells ⟨b, o, none⟩ vs i).run P w = .ok () (putCells w b (o + i) vs)
  | [], o, i, w, c, _, _, _, _ => by simp [storeCells, putCells]
  | v :: vs, o, i, w, c, hb, hs, hf, h1 => by
    rw [storeCells, Sem.run_bind, Addr.add_none, run_store _ _ _ _ _ (h1 v (by simp)), cell?_of hb]
    simp only [List.length_cons] at hs hf
    have hlt : o + i < c.size := by omega
    rw [Array.getElem?_eq_getElem hlt]
    have hnf : w.frozen? ⟨b, o + i, none⟩ = false := by
      have := hf (o + i) (by omega) (by omega)
      simp only [World.frozen?, hb]
      simp only [Bool.and_eq_false_iff, decide_eq_false_iff_not]
      omega
    simp only [hnf, putCells]
    exact run_storeCells_at vs o (i + 1) _ _ (setCell_heap hb) (by simp; omega) (fun j a b => hf j (by omega) (by omega)) (fun u hu => h1 u (by simp [hu]))

end Go.Dr
