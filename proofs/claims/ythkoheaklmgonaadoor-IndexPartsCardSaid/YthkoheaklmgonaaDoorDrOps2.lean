/-
  One operation of the abstract run is the model's: numbers, texts, slices, fields.
-/
import Derived.Test.YthkoheaklmgonaaDoorDrOps
namespace Go.Dr
open Go.RowKit

variable {P : Program} {B : Nat} {w0 w : World} {φ : Phi} {h h' : AH}

theorem wrapF_eq (k : IntKind) (n : Int) : wrapF k n = k.wrap n := by
  cases n with
  | negSucc m => rfl
  | ofNat m =>
    show (bif Nat.blt m (2 ^ (k.bits - 1)) then Int.ofNat m else k.wrap (.ofNat m)) = _
    cases hb : Nat.blt m (2 ^ (k.bits - 1)) with
    | false => rfl
    | true =>
      have hlt : m < 2 ^ (k.bits - 1) := by simpa [Nat.blt_eq] using hb
      simp only [cond_true]
      cases k <;> simp only [IntKind.bits, IntKind.wrap, IntKind.signed] at * <;> simp at hlt <;> simp <;> omega

theorem bytes_toList (s : List UInt8) : (⟨⟨s⟩⟩ : ByteArray).toList = s := ByteArray.toList_eq _

/-! #### numbers and texts -/

theorem intOp_ok {op : BinOp} {k : IntKind} {a b : Int} {v : AV} {t : TypeId} (hs : isShift op = false) (hr : intOp op k a b = .ok v) :
    ∃ v', (binOp op t (.int k a) (.int k b)).run P w = .ok v' w ∧ ∀ φ, Con φ v v' := by
  cases op <;> simp only [intOp, cmpOp, isShift] at hr hs
  all_goals first
    | (cases hs; done)
    | (cases hr; exact ⟨_, by simp only [binOp, Op.intArith, Op.intBits, Op.intCmp, ne_eq, not_true_eq_false, if_false]; rfl, fun φ => by first | exact .bool _ | (rw [wrapF_eq]; exact .int _ _)⟩)
    | (split at hr
       · cases hr
       · rename_i hb; cases hr
         exact ⟨_, by simp [binOp, Op.intDiv, hb]; rfl, fun φ => by first | exact .int _ _ | (rw [wrapF_eq]; exact .int _ _)⟩)

theorem shiftOp_ok {op : BinOp} {k k' : IntKind} {a b : Int} {v : AV} {t : TypeId} (hr : shiftOp op k a b = .ok v) :
    ∃ v', (binOp op t (.int k a) (.int k' b)).run P w = .ok v' w ∧ ∀ φ, Con φ v v' := by
  cases op <;> simp only [shiftOp] at hr
  all_goals first
    | (cases hr; done)
    | (split at hr
       · cases hr
       · rename_i hb; cases hr
         exact ⟨_, by simp [binOp, Op.shift, hb]; rfl, fun φ => by first | exact .int _ _ | (rw [wrapF_eq]; exact .int _ _)⟩)

theorem strOp_ok {op : BinOp} {a b : List UInt8} {v : AV} {t : TypeId} (hr : strOp op a b = .ok v) :
    ∃ v', (binOp op t (.string ⟨⟨a⟩⟩) (.string ⟨⟨b⟩⟩)).run P w = .ok v' w ∧ ∀ φ, Con φ v v' := by
  cases op <;> simp only [strOp] at hr
  all_goals first
    | (cases hr; done)
    | (cases hr; exact ⟨.bool _, by simp only [binOp, Op.stringOp, bytes_toList]; rfl, fun φ => .bool _⟩)
    | skip
  split at hr
  · rename_i hle; cases hr
    refine ⟨.string ⟨⟨a ++ b⟩⟩, ?_, fun φ => .str _⟩
    have hsz : ¬ ((((⟨⟨a⟩⟩ : ByteArray).size + (⟨⟨b⟩⟩ : ByteArray).size : Nat) : Int) > IntKind.i64.max) := by
      show ¬ (((a.length + b.length : Nat) : Int) > IntKind.i64.max)
      simp [IntKind.max, IntKind.signed, IntKind.bits]; omega
    have happ : (⟨⟨a⟩⟩ : ByteArray) ++ ⟨⟨b⟩⟩ = ⟨⟨a ++ b⟩⟩ := by
      have := ByteArray.data_append (l := ⟨⟨a⟩⟩) (l' := ⟨⟨b⟩⟩)
      cases h : (⟨⟨a⟩⟩ : ByteArray) ++ ⟨⟨b⟩⟩ with
      | mk d => rw [h] at this; simp at this; subst this; rfl
    simp only [binOp, Op.stringOp]
    rw [if_neg hsz, happ]; rfl
  · cases hr

end Go.Dr
