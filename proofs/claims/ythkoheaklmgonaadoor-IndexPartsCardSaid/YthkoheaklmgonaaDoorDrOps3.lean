/-
  One operation of the abstract run is the model's: parts, '=='.
-/
import Derived.Test.YthkoheaklmgonaaDoorDrOps2
namespace Go.Dr
open Go.RowKit

variable {P : Program} {B : Nat} {w0 w : World} {φ : Phi} {h h' : AH}

theorem run_part_agg {t : TypeId} {n off : Nat} {cs : Array Value} (ha : aggT P t = .ok true) (hs : szOf P t = .ok n) :
    (Go.part t cs off).run P w = .ok (.agg (cs.extract off (off + n))) w := by
  simp [Go.part, run_aggT ha, run_szOf hs]

theorem run_part_one {t : TypeId} {off : Nat} {cs : Array Value} {v : Value} (ha : aggT P t = .ok false) (hv : cs[off]? = some v) :
    (Go.part t cs off).run P w = .ok v w := by
  simp [Go.part, run_aggT ha, hv]

theorem con_extract {l : List AV} {l' : List Value} (hc : ConL φ l l') (off n : Nat) : Con φ (.agg ((l.drop off).take n)) (.agg ((⟨l'⟩ : Array Value).extract off (off + n))) := by
  have e : (⟨l'⟩ : Array Value).extract off (off + n) = ⟨(l'.drop off).take n⟩ := by
    apply Array.ext'
    simp
  rw [e]
  exact .agg ((hc.drop off).take n)

theorem part_ok {t : TypeId} {l : List AV} {l' : List Value} {off : Nat} {v : AV} (hr : part P t l off = .ok v) (hc : ConL φ l l') :
    ∃ v', (Go.part t ⟨l'⟩ off).run P w = .ok v' w ∧ Con φ v v' := by
  unfold part at hr
  split at hr
  · rename_i ha
    split at hr
    · rename_i n hn
      split at hr
      · cases hr; exact ⟨_, run_part_agg ha hn, con_extract hc _ _⟩
      · cases hr
    · cases hr
  · rename_i ha
    split at hr
    · rename_i x hx; cases hr
      obtain ⟨y, hy, hcy⟩ := hc.get _ _ hx
      exact ⟨y, run_part_one ha (by simpa using hy), hcy⟩
    · cases hr
  · cases hr

theorem aggOne_ok {x : AV} {x' : Value} {off : Nat} {v : AV} (hr : aggOne x off = .ok v) (hc : Con φ x x') : ∃ l' v', x' = .agg ⟨l'⟩ ∧ l'[off]? = some v' ∧ Con φ v v' := by
  unfold aggOne at hr
  split at hr
  · cases hc with
    | agg hc =>
      split at hr
      · rename_i y hy; cases hr
        obtain ⟨z, hz, hcz⟩ := hc.get _ _ hy
        exact ⟨_, z, rfl, hz, hcz⟩
      · cases hr
  · cases hr

theorem aggPart_ok {x : AV} {x' : Value} {off n : Nat} {v : AV} (hr : aggPart x off n = .ok v) (hc : Con φ x x') : ∃ l', x' = .agg ⟨l'⟩ ∧ Con φ v (.agg ((⟨l'⟩ : Array Value).extract off (off + n))) := by
  unfold aggPart at hr
  split at hr
  · cases hc with
    | agg hc =>
      cases hb : Nat.ble (off + n) _ with
      | false => rw [hb] at hr; cases hr
      | true => rw [hb] at hr; cases hr; exact ⟨_, rfl, con_extract hc _ _⟩
  · cases hr

/-! #### '==' -/

theorem ba_beq (a b : List UInt8) : ((⟨⟨a⟩⟩ : ByteArray) == ⟨⟨b⟩⟩) = (a == b) := by
  show ((⟨a⟩ : Array UInt8) == ⟨b⟩) = (a == b)
  simp

theorem eqScalar_ok {td : TypeDesc} {t : TypeId} {x y : AV} {x' y' : Value} {b : Bool} {D : Nat} (ht : und P t = .ok td) (hf : fitsScalar td x y = true) (hb : eqScalar x y = some b)
    (hx : Con φ x x') (hy : Con φ y y') : (Op.equalIn (D + 1) t x' y').run P w = .ok b w := by
  have hu := run_und (P := P) (w := w) ht
  unfold eqScalar at hb
  split at hb
  all_goals (try (cases hb; done))
  all_goals (split at hb)
  all_goals (try (cases hb; done))
  all_goals (cases hx; cases hy)
  all_goals (cases td <;> simp only [fitsScalar] at hf)
  all_goals (first | (cases hf; done) | skip)
  all_goals (try (cases hb))
  all_goals (first
    | (simp only [Op.equalIn, Sem.run_bind, hu, Result.andThen_ok]; rfl)
    | (split at hb
       · rename_i hk; cases hb; subst hk; simp only [Op.equalIn, Sem.run_bind, hu, Result.andThen_ok, if_true]; rfl
       · cases hb)
    | (simp only [Op.equalIn, Sem.run_bind, hu, Result.andThen_ok, ba_beq]; rfl)
    | (cases hy; simp only [Op.equalIn, Sem.run_bind, hu, Result.andThen_ok]; rfl))


def fieldsBody (_P : Program) (D : Nat) (xs ys : Array Value) (f : Field) (_ : Option Bool × Unit) : Sem (ForInStep (Option Bool × Unit)) :=
  if f.name ≠ "_" then do
    let a ← Go.part f.type xs f.offset
    let b ← Go.part f.type ys f.offset
    let r ← Op.equalIn D f.type a b
    if (!r) = true then pure (ForInStep.done (some false, ())) else pure (ForInStep.yield (none, ()))
  else pure (ForInStep.yield (none, ()))

theorem eqFields_ok {d D : Nat} {xs ys : List AV} {xs' ys' : List Value} (ih : ∀ {t : TypeId} {x y : AV} {x' y' : Value} {b : Bool}, eqAt P d t x y = .ok b → Con φ x x' → Con φ y y' → (Op.equalIn D t x' y').run P w = .ok b w)
    (hx : ConL φ xs xs') (hy : ConL φ ys ys') : ∀ {l : List Field} {b : Bool}, eqFields P (eqAt P d) l xs ys = .ok b →
      (forIn l ((none, ()) : Option Bool × Unit) (fieldsBody P D ⟨xs'⟩ ⟨ys'⟩)).run P w = .ok ((if b then none else some false), ()) w
  | [], b, h => by cases h; simp
  | f :: l, b, h => by
    unfold eqFields at h
    rw [List.forIn_cons]
    by_cases hn : f.name ≠ "_"
    · rw [if_pos hn] at h
      split at h
      · rename_i a c ha hc
        obtain ⟨a', ra, ca⟩ := part_ok (w := w) ha hx
        obtain ⟨c', rc, cc⟩ := part_ok (w := w) hc hy
        split at h
        · rename_i he
          have hr := ih he ca cc
          have := eqFields_ok ih hx hy h
          simp only [fieldsBody, if_pos hn, Sem.run_bind, ra, rc, hr, Result.andThen_ok, Bool.not_true, Bool.false_eq_true, if_false, Sem.run_pure]
          exact this
        · rename_i he
          cases h
          have hr := ih he ca cc
          simp only [fieldsBody, if_pos hn, Sem.run_bind, ra, rc, hr, Result.andThen_ok, Bool.not_false, if_true, Sem.run_pure, Bool.false_eq_true, if_false]
        · cases h
      · cases h
    · rw [if_neg hn] at h
      have := eqFields_ok ih hx hy h
      simp only [fieldsBody, if_neg hn, Sem.run_bind, Sem.run_pure, Result.andThen_ok]
      exact this

def elemsBody (D : Nat) (elem : TypeId) (n : Nat) (xs ys : Array Value) (i : Nat) (_ : Option Bool × Unit) : Sem (ForInStep (Option Bool × Unit)) := do
  let a ← Go.part elem xs (i * n)
  let b ← Go.part elem ys (i * n)
  let r ← Op.equalIn D elem a b
  if (!r) = true then pure (ForInStep.done (some false, ())) else pure (ForInStep.yield (none, ()))

theorem eqElems_ok {d D n : Nat} {elem : TypeId} {xs ys : List AV} {xs' ys' : List Value} (ih : ∀ {t : TypeId} {x y : AV} {x' y' : Value} {b : Bool}, eqAt P d t x y = .ok b → Con φ x x' → Con φ y y' → (Op.equalIn D t x' y').run P w = .ok b w)
    (hx : ConL φ xs xs') (hy : ConL φ ys ys') : ∀ {k i : Nat} {b : Bool}, eqElems P (eqAt P d) elem n xs ys k i = .ok b →
      (forIn (List.range' i k) ((none, ()) : Option Bool × Unit) (elemsBody D elem n ⟨xs'⟩ ⟨ys'⟩)).run P w = .ok ((if b then none else some false), ()) w
  | 0, i, b, h => by cases h; simp
  | k + 1, i, b, h => by
    unfold eqElems at h
    rw [List.range'_succ, List.forIn_cons]
    split at h
    · rename_i a c ha hc
      obtain ⟨a', ra, ca⟩ := part_ok (w := w) ha hx
      obtain ⟨c', rc, cc⟩ := part_ok (w := w) hc hy
      split at h
      · rename_i he
        have hr := ih he ca cc
        have := eqElems_ok ih hx hy h
        simp only [elemsBody, Sem.run_bind, ra, rc, hr, Result.andThen_ok, Bool.not_true, Bool.false_eq_true, if_false, Sem.run_pure]
        exact this
      · rename_i he
        cases h
        have hr := ih he ca cc
        simp only [elemsBody, Sem.run_bind, ra, rc, hr, Result.andThen_ok, Bool.not_false, if_true, Sem.run_pure, Bool.false_eq_true, if_false]
      · cases h
    · cases h

theorem eqAt_ok : ∀ {d D : Nat}, d ≤ D → ∀ {t : TypeId} {x y : AV} {x' y' : Value} {b : Bool}, eqAt P d t x y = .ok b → Con φ x x' → Con φ y y' → (Op.equalIn D t x' y').run P w = .ok b w
  | 0, _, _, _, _, _, _, _, _, h, _, _ => by cases h
  | d + 1, 0, hd, _, _, _, _, _, _, _, _, _ => by omega
  | d + 1, D + 1, hd, t, x, y, x', y', b, h, hx, hy => by
    have ih := fun {t : TypeId} {x y : AV} {x' y' : Value} {b : Bool} => @eqAt_ok d D (by omega) t x y x' y' b
    unfold eqAt at h
    split at h
    · rename_i fields ht
      split at h
      · rename_i xs ys
        split at h
        · cases h
        · rename_i hs
          cases hx with
          | agg hx => cases hy with
            | agg hy =>
              have := eqFields_ok ih hx hy h
              simp only [Op.equalIn, Sem.run_bind, run_und ht, Result.andThen_ok, run_program, hs, if_false, Bool.false_eq_true]
              rw [← Array.forIn_toList]
              erw [this]
              cases b <;> simp
      · cases h
    · rename_i len elem ht
      split at h
      · rename_i xs ys
        split at h
        · rename_i n hn
          cases hx with
          | agg hx => cases hy with
            | agg hy =>
              have := eqElems_ok ih hx hy h
              simp only [Op.equalIn, Sem.run_bind, run_und ht, Result.andThen_ok, run_szOf hn, Std.Legacy.Range.forIn_eq_forIn_range', Std.Legacy.Range.size, Nat.sub_zero, Nat.add_sub_cancel, Nat.div_one]
              erw [this]
              cases b <;> simp
        · cases h
      · cases h
    · rename_i td h1 h2 ht
      split at h
      · rename_i hf
        unfold ofO at h
        split at h
        · rename_i r hr; cases h; exact eqScalar_ok ht hf hr hx hy
        · cases h
      · cases h
    · cases h

end Go.Dr
