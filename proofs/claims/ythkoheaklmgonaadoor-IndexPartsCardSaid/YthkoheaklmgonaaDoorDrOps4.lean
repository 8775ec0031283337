/-
  One operation of the abstract run is the model's: the binary and unary ones, conversions, cuts, indexes, fields.
-/
import Derived.Test.YthkoheaklmgonaaDoorDrOps3
namespace Go.Dr
open Go.RowKit

variable {P : Program} {B : Nat} {w0 w : World} {φ : Phi} {h h' : AH}

def notNum : Value → Bool
  | .int _ _ | .float _ _ | .complex _ _ _ | .string _ => false
  | _ => true

theorem binOp_eql {t : TypeId} {a b : Value} (hn : notNum a = true) : Go.binOp .eql t a b = (do pure (.bool (← Op.equal t a b))) := by
  cases a <;> first | (cases hn; done) | (cases b <;> rfl)
theorem binOp_neq {t : TypeId} {a b : Value} (hn : notNum a = true) : Go.binOp .neq t a b = (do pure (.bool (!(← Op.equal t a b)))) := by
  cases a <;> first | (cases hn; done) | (cases b <;> rfl)

theorem eqGuard_num {op : BinOp} {t : TypeId} {x y : Operand} {a b : Value} (h1 : a ≠ .nilIface) (h2 : ∀ cs, a ≠ .agg cs) : (eqGuard op t x y a b).run P w = .ok () w := by
  unfold eqGuard
  cases op <;> simp
  all_goals (cases a <;> simp_all)

theorem isConstO_iff (x : Operand) : isConstO x = (match x with | .const _ => true | _ => false) := by cases x <;> rfl

theorem eqGuard_nil {op : BinOp} {t : TypeId} {x y : Operand} (hl : (isConstO x || isConstO y) = true) : (eqGuard op t x y .nilIface .nilIface).run P w = .ok () w := by
  rw [isConstO_iff, isConstO_iff] at hl
  unfold eqGuard
  cases op <;> simp
  all_goals (cases x <;> cases y <;> simp_all)

theorem eqGuard_nilL {op : BinOp} {t : TypeId} {x y : Operand} {b : Value} (hb : b ≠ .nilIface) : (eqGuard op t x y .nilIface b).run P w = .ok () w := by
  unfold eqGuard
  cases op <;> simp
  all_goals (cases b <;> simp_all)

theorem eqGuard_agg {op : BinOp} {t : TypeId} {x y : Operand} {as bs : Array Value} (hg : P.eqGuardType P.depth t = false) : (eqGuard op t x y (.agg as) (.agg bs)).run P w = .ok () w := by
  unfold eqGuard
  cases op <;> simp [hg]

theorem eqGuard_aggL {op : BinOp} {t : TypeId} {x y : Operand} {as : Array Value} {b : Value} (hb : ∀ bs, b ≠ .agg bs) : (eqGuard op t x y (.agg as) b).run P w = .ok () w := by
  unfold eqGuard
  cases op <;> simp
  all_goals (cases b <;> simp_all)

theorem eqNeq_ok {op : BinOp} {t : TypeId} {x y v : AV} {x' y' : Value} (hr : eqNeq op (eqAt P 20 t x y) = .ok v) (hx : Con φ x x') (hy : Con φ y y') (hn : notNum x' = true) :
    ∃ v', (Go.binOp op t x' y').run P w = .ok v' w ∧ Con φ v v' := by
  unfold eqNeq at hr
  split at hr
  · rename_i b he
    have hq := eqAt_ok (P := P) (w := w) (show 20 ≤ Op.maxDepth from by decide) he hx hy
    split at hr
    · cases hr; exact ⟨.bool b, by rw [binOp_eql hn]; simp [Op.equal, hq], .bool _⟩
    · cases hr; exact ⟨.bool !b, by rw [binOp_neq hn]; simp [Op.equal, hq], .bool _⟩
    · cases hr
  · cases hr

theorem eqAt_noagg {d : Nat} {t : TypeId} {xs : List AV} {y : AV} {b : Bool} (h : eqAt P d t (.agg xs) y = .ok b) : ∃ ys, y = .agg ys := by
  cases d with
  | zero => cases h
  | succ d =>
    unfold eqAt at h
    split at h
    · split at h
      · rename_i e1 e2; exact ⟨_, rfl⟩
      · cases h
    · split at h
      · exact ⟨_, rfl⟩
      · cases h
    · rename_i td _ _ _
      split at h
      · rename_i hf; cases td <;> simp [fitsScalar] at hf
      · cases h
    · cases h

theorem eqAt_raw {d : Nat} {t : TypeId} {u : Nat} {y : AV} {b : Bool} (h : eqAt P d t (.raw u) y = .ok b) : False := by
  cases d with
  | zero => cases h
  | succ d =>
    unfold eqAt at h
    split at h
    · cases h
    · cases h
    · rename_i td _ _ _
      split at h
      · rename_i hf; cases td <;> simp [fitsScalar] at hf
      · cases h
    · cases h

theorem opBin_ok {op : BinOp} {t : TypeId} {x y : Operand} {a b v : AV} {a' b' : Value} (hr : opBin P op t (isConstO x || isConstO y) a b = .ok v) (ha : Con φ a a') (hb : Con φ b b') :
    ∃ v', (do eqGuard op t x y a' b'; Go.binOp op t a' b').run P w = .ok v' w ∧ Con φ v v' := by
  unfold opBin at hr
  split at hr
  · split at hr
    · cases ha; cases hb
      rw [Sem.run_bind, eqGuard_num (by simp) (by simp), Result.andThen_ok]
      split at hr
      · obtain ⟨v', h1, h2⟩ := shiftOp_ok (P := P) (w := w) (t := t) hr; exact ⟨v', h1, h2 φ⟩
      · rename_i hs
        split at hr
        · rename_i hk; subst hk
          obtain ⟨v', h1, h2⟩ := intOp_ok (P := P) (w := w) (t := t) (by simpa using hs) hr; exact ⟨v', h1, h2 φ⟩
        · cases hr
    · cases hr
  · split at hr
    · cases ha; cases hb
      rw [Sem.run_bind, eqGuard_num (by simp) (by simp), Result.andThen_ok]
      obtain ⟨v', h1, h2⟩ := strOp_ok (P := P) (w := w) (t := t) hr; exact ⟨v', h1, h2 φ⟩
    · cases hr
  · rename_i hni hns
    unfold binSlow at hr
    split at hr
    · cases ha; cases hb
      split at hr
      · rename_i hl
        rw [Sem.run_bind, eqGuard_nil hl, Result.andThen_ok]
        exact eqNeq_ok hr .nili .nili rfl
      · cases hr
    · cases ha with
      | agg ha => cases hb with
        | agg hb =>
          split at hr
          · cases hr
          · rename_i hg
            rw [Sem.run_bind, eqGuard_agg (by simpa using hg), Result.andThen_ok]
            exact eqNeq_ok hr (.agg ha) (.agg hb) rfl
    · rename_i h1 h2
      have hnr : ∀ u, a ≠ .raw u := fun u e => by
        subst e
        unfold eqNeq at hr
        split at hr
        · rename_i he; exact eqAt_raw he
        · cases hr
      have hn : notNum a' = true := by
        cases ha <;> first | rfl | skip
        · exact absurd rfl (hni _ _)
        · exact absurd rfl (hns _)
        · exact absurd rfl (hnr _)
      have hg : (eqGuard op t x y a' b').run P w = .ok () w := by
        cases ha with
        | nili =>
          refine eqGuard_nilL ?_
          intro e; subst e; cases hb
          · exact h1 rfl rfl
          · rename_i hraw
            unfold eqNeq at hr
            split at hr
            · rename_i he
              unfold eqAt at he
              split at he
              · cases he
              · cases he
              · split at he
                · unfold ofO at he; split at he
                  · rename_i hs; simp [eqScalar] at hs
                  · cases he
                · cases he
              · cases he
            · cases hr
        | agg ha =>
          refine eqGuard_aggL ?_
          intro bs e; subst e
          unfold eqNeq at hr
          split at hr
          · rename_i he
            obtain ⟨ys, rfl⟩ := eqAt_noagg he
            exact h2 _ _ rfl rfl
          · cases hr
        | raw hraw _ => exact absurd rfl (hnr _)
        | _ => refine eqGuard_num ?_ ?_ <;> simp
      rw [Sem.run_bind, hg, Result.andThen_ok]
      exact eqNeq_ok hr ha hb hn

theorem opUn_ok {op : UnOp} {x v : AV} {x' : Value} (hr : opUn op x = .ok v) (hx : Con φ x x') : ∃ v', (Op.unary op x').run P w = .ok v' w ∧ Con φ v v' := by
  unfold opUn at hr
  split at hr
  · cases hx
    split at hr
    · cases hr; exact ⟨_, rfl, by rw [wrapF_eq]; exact .int _ _⟩
    · cases hr; exact ⟨_, rfl, by rw [wrapF_eq]; exact .int _ _⟩
    · cases hr
  · cases hx
    split at hr
    · cases hr; exact ⟨_, rfl, .bool _⟩
    · cases hr
  · cases hr

end Go.Dr
