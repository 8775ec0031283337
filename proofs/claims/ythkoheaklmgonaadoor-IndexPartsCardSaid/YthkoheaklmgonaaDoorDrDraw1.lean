/-
  Regions whose order is drawn: a block that was promised is laid later.
-/
import Derived.Test.YthkoheaklmgonaaDoorDrCode4
namespace Go.Dr
open Go.RowKit

variable {P : Program} {B : Nat} {w0 w w' : World} {φ φ' : Phi} {h h' : AH}

theorem Phi.le.same (hle : φ.le φ') {i : Nat} {p q : Pl} (h : φ i = some p) (h' : φ' i = some q) : φ i = some q := by
  have := hle _ _ h; rw [this] at h'; cases h'; exact h

mutual
theorem Con.back (hle : φ.le φ') : ∀ {x : AV} {y y' : Value}, Con φ x y' → Con φ' x y → Con φ x y
  | _, _, _, .bool b, h => by cases h; exact .bool _
  | _, _, _, .int k n, h => by cases h; exact .int _ _
  | _, _, _, .str s, h => by cases h; exact .str _
  | _, _, _, .nilp, h => by cases h; exact .nilp
  | _, _, _, .ptr h1, h => by cases h with | ptr h2 => exact .ptr (hle.same h1 h2)
  | _, _, _, .nils, h => by cases h; exact .nils
  | _, _, _, .slice h1 _ _ _ _, h => by cases h with | slice h2 a b c d => exact .slice (hle.same h1 h2) a b c d
  | _, _, _, .nilm, h => by cases h; exact .nilm
  | _, _, _, .map h1, h => by cases h with | map h2 => exact .map (hle.same h1 h2)
  | _, _, _, .nilf, h => by cases h; exact .nilf
  | _, _, _, .func ha hb, h => by cases h with | func h1 h2 => exact .func (ha.back hle h1) (hb.back hle h2)
  | _, _, _, .yield h1, h => by cases h with | yield h2 => exact .yield (hle.same h1 h2)
  | _, _, _, .nili, h => by cases h; exact .nili
  | _, _, _, .iface h1, h => by cases h with | iface h2 => exact .iface (h1.back hle h2)
  | _, _, _, .agg h1, h => by cases h with | agg h2 => exact .agg (h1.back hle h2)
  | _, _, _, .tuple h1, h => by cases h with | tuple h2 => exact .tuple (h1.back hle h2)
  | _, _, _, .raw h1 e1, h => by cases h with | raw h2 e2 => exact .raw h2 (by rw [← hle.raw]; exact e2)
theorem ConL.back (hle : φ.le φ') : ∀ {x : List AV} {y y' : List Value}, ConL φ x y' → ConL φ' x y → ConL φ x y
  | _, _, _, .nil, h => by cases h; exact .nil
  | _, _, _, .cons h1 h2, h => by cases h with | cons h3 h4 => exact .cons (h1.back hle h3) (h2.back hle h4)
end

theorem ConE.back (hle : φ.le φ') : ∀ {x : List AEntry} {y y' : List MapEntry}, ConE φ x y' → ConE φ' x y → ConE φ x y
  | _, _, _, .nil, h => by cases h; exact .nil
  | _, _, _, .cons h1 h2 h3 h4, h => by
    cases h with | cons g1 g2 g3 g4 => exact .cons (h1.back hle g1) (h2.back hle g2) g3 (ConE.back hle h4 g4)

theorem ObjRel.back (hle : φ.le φ') {p : Pl} {o : AObj} (h : ObjRel φ w p o) (h' : ObjRel φ' w' p o) : ObjRel φ w' p o := by
  cases o with
  | cells vs ro =>
    obtain ⟨c, e, lo, hi, h1, h2, h3, h4, h5⟩ := h
    obtain ⟨c', e', lo', hi', g1, g2, g3, g4, g5⟩ := h'
    refine ⟨c', e', lo', hi', g1, g2, g3, fun i x hx => ?_, g5⟩
    obtain ⟨y, _, hy⟩ := h4 i x hx
    obtain ⟨z, hz, hc⟩ := g4 i x hx
    exact ⟨z, hz, hy.back hle hc⟩
  | map l clock =>
    obtain ⟨es, h1, h2⟩ := h
    obtain ⟨es', g1, g2⟩ := h'
    exact ⟨es', g1, h2.back hle g2⟩
  | loop r =>
    obtain ⟨r1, h1, h2⟩ := h
    obtain ⟨r2, g1, g2⟩ := h'
    exact ⟨r2, g1, { g2 with tmps := fun i => (h2.tmps i).back hle (g2.tmps i) }⟩
  | deferred ds =>
    cases ds with
    | none => exact h'
    | some l => cases l <;> exact h'
  | siter s pos => exact h'
  | miter m since seen stepped =>
    obtain ⟨h0, m1, h1, h2⟩ := h
    obtain ⟨g0, m2, g1, g2⟩ := h'
    refine ⟨g0, m2, g1, ?_⟩
    cases m with
    | none => exact g2
    | some id =>
      obtain ⟨q, hq, hm⟩ := h2
      obtain ⟨q', hq', hm'⟩ := g2
      exact ⟨q', hle.same hq hq', hm'⟩

/-- what new blocks hold -/
def Fresh (φ : Phi) (o : AObj) : Prop := o = .map [] 0 ∨ ∃ l vs, o = .cells l false ∧ ConL φ l vs

theorem Fresh.back (hle : φ.le φ') {p : Pl} {o : AObj} (hf : Fresh φ o) (h' : ObjRel φ' w' p o) : ObjRel φ w' p o := by
  rcases hf with rfl | ⟨l, vs, rfl, hl⟩
  · obtain ⟨es', g1, g2⟩ := h'
    cases g2
    exact ⟨_, g1, .nil⟩
  · obtain ⟨c', e', lo', hi', g1, g2, g3, g4, g5⟩ := h'
    refine ⟨c', e', lo', hi', g1, g2, g3, fun i x hx => ?_, g5⟩
    obtain ⟨y, _, hy⟩ := hl.get i x hx
    obtain ⟨z, hz, hc⟩ := g4 i x hx
    exact ⟨z, hz, hy.back hle hc⟩

theorem Fresh.writable {o : AObj} (hf : Fresh φ o) : o.writable = true := by
  rcases hf with rfl | ⟨l, vs, rfl, hl⟩ <;> rfl

/-- the shapes of a new block's value -/
def Shape (mkv : Nat → AV) : Prop := (mkv = fun i => .ptr i 0) ∨ (mkv = fun i => .map i) ∨ ∃ len cap x es, mkv = fun i => .slice i 0 len cap x es

theorem Shape.laid {mkv : Nat → AV} (hs : Shape mkv) {i : Nat} {v : Value} (h : Con φ (mkv i) v) : ∃ p, φ i = some p := by
  rcases hs with rfl | rfl | ⟨len, cap, x, es, rfl⟩
  · cases h with | ptr h => exact ⟨_, h⟩
  · cases h with | map h => exact ⟨_, h⟩
  · cases h with | slice h _ _ _ _ => exact ⟨_, h⟩

theorem Shape.move {mkv : Nat → AV} (hs : Shape mkv) {i j : Nat} {v : Value} {p : Pl} (h : Con φ (mkv i) v) (hi : φ i = some p) {ψ : Phi} (hj : ψ j = some p) : Con ψ (mkv j) v := by
  rcases hs with rfl | rfl | ⟨len, cap, x, es, rfl⟩
  · cases h with | ptr h => rw [hi] at h; cases h; exact .ptr hj
  · cases h with | map h => rw [hi] at h; cases h; exact .map hj
  · cases h with | slice h a b c d => rw [hi] at h; cases h; exact .slice hj a b c d

/-- a block that was promised is laid: the new block takes its name -/
theorem rename {mkv : Nat → AV} {O : AObj} {v' : Value} {id : Nat} (hs : Shape mkv) (hf : Fresh φ O) (R : Rel B w0 φ h w) (R' : Rel B w0 φ' (h.push O) w') (X : Ext φ h φ' (h.push O)) (hv : Con φ' (mkv h.next) v')
    (hid : φ id = none) (hlt : id < h.next) (hget : h.get id = some O) : ∃ p, Con (φ.set id p) (mkv id) v' ∧ Rel B w0 (φ.set id p) h w' := by
  obtain ⟨p, hp⟩ := hs.laid hv
  have hgn : (h.push O).get h.next = some O := by rw [AH.get_push, if_pos rfl]
  have hO : ObjRel φ w' p O := hf.back X.le (R'.obj _ _ _ hp hgn)
  have hold : ∀ j q oj, φ j = some q → h.get j = some oj → φ' j = some q ∧ (h.push O).get j = some oj ∧ j ≠ h.next := by
    intro j q oj e1 e2
    have hj := R.lt _ _ e1
    exact ⟨X.le _ _ e1, by rw [AH.get_push, if_neg (Nat.ne_of_lt hj)]; exact e2, Nat.ne_of_lt hj⟩
  have Rw : Rel B w0 φ h w' := by
    refine ⟨R.lt, fun i q o e e' => ?_, R.own, R.inj, R'.below, R.base⟩
    obtain ⟨a, b, _⟩ := hold i q o e e'
    exact (R.obj _ _ _ e e').back X.le (R'.obj _ _ _ a b)
  refine ⟨p, hs.move hv hp (Phi.set_same _ _ _), Rw.lay hlt hid hget (hO.mono (Phi.le_set _ hid)) (fun hw => R'.own _ _ _ hp hgn hw) fun j q oj e1 e2 hw => ?_⟩
  obtain ⟨a, b, c⟩ := hold j q oj e1 e2
  exact R'.inj _ _ _ _ _ _ c a hp b hgn hw.symm

end Go.Dr
