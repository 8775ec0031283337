/-
  The abstract run against the model: how the two are held together; blocks, cells and values.
-/
import Derived.Test.YthkoheaklmgonaaDoorDrEv
import Derived.WalkKit
namespace Go.Dr
open Go.RowKit

/-! ### trees -/
namespace PT
variable {α : Type}
theorem beqF {a b : Nat} (h : a ≠ b) : Nat.beq a b = false := by
  cases e : Nat.beq a b with
  | false => rfl
  | true => exact absurd (Nat.eq_of_beq_eq_true e) h
theorem beqT {a b : Nat} (h : a = b) : Nat.beq a b = true := by subst h; exact Nat.beq_refl a
theorem get_leaf (n : Nat) : (PT.leaf : PT α).get n = none := rfl

theorem get_node (l : PT α) (v : Option α) (r : PT α) (n : Nat) :
    (PT.node l v r).get n = if n = 0 then v else if n % 2 = 1 then l.get (n / 2) else r.get (n / 2 - 1) := by
  show (bif Nat.beq n 0 then v else bif Nat.beq (n % 2) 1 then l.get (n / 2) else r.get (n / 2 - 1)) = _
  by_cases h : n = 0
  · subst h; rfl
  · have h0 : Nat.beq n 0 = false := beqF h
    rw [h0, if_neg h]
    by_cases h1 : n % 2 = 1
    · have : Nat.beq (n % 2) 1 = true := beqT h1
      rw [this, if_pos h1]; rfl
    · have : Nat.beq (n % 2) 1 = false := beqF h1
      rw [this, if_neg h1]; rfl

theorem one_succ (v : Option α) (f n : Nat) : one v (f + 1) n =
    if n = 0 then .node .leaf v .leaf else if n % 2 = 1 then .node (one v f (n / 2)) none .leaf else .node .leaf none (one v f (n / 2 - 1)) := by
  show (bif Nat.beq n 0 then _ else bif Nat.beq (n % 2) 1 then _ else _) = _
  by_cases h : n = 0
  · subst h; rfl
  · have h0 : Nat.beq n 0 = false := beqF h
    rw [h0, if_neg h]
    by_cases h1 : n % 2 = 1
    · have : Nat.beq (n % 2) 1 = true := beqT h1
      rw [this, if_pos h1]; rfl
    · have : Nat.beq (n % 2) 1 = false := beqF h1
      rw [this, if_neg h1]; rfl

theorem set_node (v : Option α) (l : PT α) (w : Option α) (r : PT α) (n : Nat) : (PT.node l w r).set v n =
    if n = 0 then .node l v r else if n % 2 = 1 then .node (l.set v (n / 2)) w r else .node l w (r.set v (n / 2 - 1)) := by
  show (bif Nat.beq n 0 then _ else bif Nat.beq (n % 2) 1 then _ else _) = _
  by_cases h : n = 0
  · subst h; rfl
  · have h0 : Nat.beq n 0 = false := beqF h
    rw [h0, if_neg h]
    by_cases h1 : n % 2 = 1
    · have : Nat.beq (n % 2) 1 = true := beqT h1
      rw [this, if_pos h1]; rfl
    · have : Nat.beq (n % 2) 1 = false := beqF h1
      rw [this, if_neg h1]; rfl

theorem get_one (v : Option α) : ∀ (f n m : Nat), n < f → (one v f n).get m = if m = n then v else none := by
  intro f
  induction f with
  | zero => intro n m h; omega
  | succ f ih =>
    intro n m h
    rw [one_succ]
    by_cases h0 : n = 0
    · subst h0; rw [if_pos rfl, get_node]; by_cases hm : m = 0
      · simp [hm]
      · simp [hm, get_leaf]
    · rw [if_neg h0]
      by_cases h1 : n % 2 = 1
      · rw [if_pos h1, get_node, ih _ _ (by omega), get_leaf]
        by_cases hm : m = 0
        · rw [if_pos hm, if_neg (by omega)]
        · rw [if_neg hm]
          by_cases hm1 : m % 2 = 1
          · rw [if_pos hm1]; by_cases e : m = n
            · rw [if_pos (by omega), if_pos e]
            · rw [if_neg (by omega), if_neg e]
          · rw [if_neg hm1, if_neg (by omega)]
      · rw [if_neg h1, get_node, ih _ _ (by omega), get_leaf]
        by_cases hm : m = 0
        · rw [if_pos hm, if_neg (by omega)]
        · rw [if_neg hm]
          by_cases hm1 : m % 2 = 1
          · rw [if_pos hm1, if_neg (by omega)]
          · rw [if_neg hm1]; by_cases e : m = n
            · rw [if_pos (by omega), if_pos e]
            · rw [if_neg (by omega), if_neg e]

theorem get_set (v : Option α) : ∀ (t : PT α) (n m : Nat), (t.set v n).get m = if m = n then v else t.get m := by
  intro t
  induction t with
  | leaf => intro n m; show (one v (n + 1) n).get m = _; rw [get_one _ _ _ _ (by omega), get_leaf]
  | node l w r ihl ihr =>
    intro n m
    rw [set_node]
    by_cases h0 : n = 0
    · rw [if_pos h0, get_node, get_node]
      by_cases hm : m = 0
      · rw [if_pos hm, if_pos (by omega)]
      · have e : ¬ m = n := by omega
        rw [if_neg hm, if_neg e, if_neg hm]
    · rw [if_neg h0]
      by_cases h1 : n % 2 = 1
      · rw [if_pos h1, get_node, get_node, ihl]
        by_cases hm : m = 0
        · rw [if_pos hm, if_neg (by omega), if_pos hm]
        · rw [if_neg hm, if_neg hm]
          by_cases hm1 : m % 2 = 1
          · rw [if_pos hm1, if_pos hm1]; by_cases e : m = n
            · rw [if_pos (by omega), if_pos e]
            · rw [if_neg (by omega), if_neg e]
          · rw [if_neg hm1, if_neg hm1, if_neg (by omega)]
      · rw [if_neg h1, get_node, get_node, ihr]
        by_cases hm : m = 0
        · rw [if_pos hm, if_neg (by omega), if_pos hm]
        · rw [if_neg hm, if_neg hm]
          by_cases hm1 : m % 2 = 1
          · rw [if_pos hm1, if_pos hm1, if_neg (by omega)]
          · rw [if_neg hm1, if_neg hm1]; by_cases e : m = n
            · rw [if_pos (by omega), if_pos e]
            · rw [if_neg (by omega), if_neg e]
end PT

theorem AH.get_set (h : AH) (i j : Nat) (o : AObj) : (h.set i o).get j = if j = i then some o else h.get j := PT.get_set _ _ _ _
theorem AH.get_kill (h : AH) (i j : Nat) : (h.kill i).get j = if j = i then none else h.get j := PT.get_set _ _ _ _
theorem AH.get_push (h : AH) (o : AObj) (j : Nat) : (h.push o).get j = if j = h.next then some o else h.get j := PT.get_set _ _ _ _
@[simp] theorem AH.next_set (h : AH) (i : Nat) (o : AObj) : (h.set i o).next = h.next := rfl
@[simp] theorem AH.next_kill (h : AH) (i : Nat) : (h.kill i).next = h.next := rfl
@[simp] theorem AH.next_push (h : AH) (o : AObj) : (h.push o).next = h.next + 1 := rfl

/-! ### values held together -/

/-- where a block of ours lies -/
structure Pl where
  blk : Nat
  off : Nat
  room : Nat

structure Phi where
  at' : Nat → Option Pl
  raw : Nat → Value

instance : CoeFun Phi (fun _ => Nat → Option Pl) := ⟨Phi.at'⟩

structure Phi.le (φ ψ : Phi) : Prop where
  le' : ∀ i p, φ i = some p → ψ i = some p
  raw : ψ.raw = φ.raw

instance {φ ψ : Phi} : CoeFun (φ.le ψ) (fun _ => ∀ i p, φ i = some p → ψ i = some p) := ⟨Phi.le.le'⟩
theorem Phi.le.refl (φ : Phi) : φ.le φ := ⟨fun _ _ h => h, rfl⟩
theorem Phi.le.trans {φ ψ χ : Phi} (h : φ.le ψ) (k : ψ.le χ) : φ.le χ := ⟨fun i p e => k i p (h i p e), k.raw.trans h.raw⟩

def scalarV : Value → Bool
  | .agg _ | .tuple _ => false
  | _ => true

mutual
inductive Con (φ : Phi) : AV → Value → Prop
  | bool (b : Bool) : Con φ (.bool b) (.bool b)
  | int (k : IntKind) (n : Int) : Con φ (.int k n) (.int k n)
  | str (s : List UInt8) : Con φ (.str s) (.string ⟨⟨s⟩⟩)
  | nilp : Con φ .nilp (.pointer none)
  | ptr {id off : Nat} {p : Pl} (h : φ id = some p) : Con φ (.ptr id off) (.pointer (some ⟨p.blk, p.off + off, none⟩))
  | nils : Con φ .nils (.slice none 0 0)
  | slice {id off len cap c es : Nat} {x : Bool} {p : Pl} {ad : Addr} (h : φ id = some p) (hx : x = true → c = cap) (hc : cap ≤ c) (hl : len ≤ c)
      (hr : c = 0 ∨ (off + c * es ≤ p.room ∧ ad = ⟨p.blk, p.off + off, none⟩)) : Con φ (.slice id off len cap x es) (.slice (some ad) len c)
  | nilm : Con φ .nilm (.map none)
  | map {id : Nat} {p : Pl} (h : φ id = some p) : Con φ (.map id) (.map (some p.blk))
  | nilf : Con φ .nilf .nilFunc
  | func {f : FuncId} {a b : List AV} {a' b' : List Value} (ha : ConL φ a a') (hb : ConL φ b b') : Con φ (.func (.func f) a b) (.func (.func f) ⟨a'⟩ ⟨b'⟩)
  | yield {l : Nat} {p : Pl} (h : φ l = some p) : Con φ (.func (.yield l) [] []) (.func (.yield p.blk) #[] #[])
  | nili : Con φ .nili .nilIface
  | iface {t : TypeId} {v : AV} {v' : Value} (h : Con φ v v') : Con φ (.iface t v) (.iface t v')
  | agg {l : List AV} {l' : List Value} (h : ConL φ l l') : Con φ (.agg l) (.agg ⟨l'⟩)
  | tuple {l : List AV} {l' : List Value} (h : ConL φ l l') : Con φ (.tuple l) (.tuple ⟨l'⟩)
  | raw {t : Nat} {v : Value} (h : scalarV v = true) (e : φ.raw t = v) : Con φ (.raw t) v
inductive ConL (φ : Phi) : List AV → List Value → Prop
  | nil : ConL φ [] []
  | cons {a : AV} {v : Value} {l : List AV} {l' : List Value} (h : Con φ a v) (t : ConL φ l l') : ConL φ (a :: l) (v :: l')
end

mutual
theorem Con.mono {φ ψ : Phi} (hle : φ.le ψ) : ∀ {a : AV} {v : Value}, Con φ a v → Con ψ a v
  | _, _, .bool b => .bool b
  | _, _, .int k n => .int k n
  | _, _, .str s => .str s
  | _, _, .nilp => .nilp
  | _, _, .ptr h => .ptr (hle _ _ h)
  | _, _, .nils => .nils
  | _, _, .slice h hx hc hl hr => .slice (hle _ _ h) hx hc hl hr
  | _, _, .nilm => .nilm
  | _, _, .map h => .map (hle _ _ h)
  | _, _, .nilf => .nilf
  | _, _, .func ha hb => .func (ha.mono hle) (hb.mono hle)
  | _, _, .yield h => .yield (hle _ _ h)
  | _, _, .nili => .nili
  | _, _, .iface h => .iface (h.mono hle)
  | _, _, .agg h => .agg (h.mono hle)
  | _, _, .tuple h => .tuple (h.mono hle)
  | _, _, .raw h e => .raw h (by rw [hle.raw]; exact e)
theorem ConL.mono {φ ψ : Phi} (hle : φ.le ψ) : ∀ {a : List AV} {v : List Value}, ConL φ a v → ConL ψ a v
  | _, _, .nil => .nil
  | _, _, .cons h t => .cons (h.mono hle) (t.mono hle)
end

theorem ConL.length {φ : Phi} : ∀ {a : List AV} {v : List Value}, ConL φ a v → a.length = v.length
  | _, _, .nil => rfl
  | _, _, .cons _ t => by simp [t.length]

theorem ConL.get {φ : Phi} : ∀ {a : List AV} {v : List Value}, ConL φ a v → ∀ (i : Nat) (x : AV), a[i]? = some x → ∃ y, v[i]? = some y ∧ Con φ x y
  | _, _, .nil, i, x, h => by simp at h
  | _, _, .cons h t, 0, x, e => by simp at e; subst e; exact ⟨_, rfl, h⟩
  | _, _, .cons h t, i + 1, x, e => by simpa using t.get i x (by simpa using e)

theorem ConL.of_get {φ : Phi} : ∀ {a : List AV} {v : List Value}, a.length = v.length → (∀ (i : Nat) (x : AV), a[i]? = some x → ∃ y, v[i]? = some y ∧ Con φ x y) → ConL φ a v
  | [], [], _, _ => .nil
  | [], _ :: _, h, _ => by simp at h
  | _ :: _, [], h, _ => by simp at h
  | x :: a, y :: v, h, g => by
    obtain ⟨y', hy, hc⟩ := g 0 x rfl
    simp at hy; subst hy
    exact .cons hc (ConL.of_get (by simpa using h) fun i x hx => by simpa using g (i + 1) x (by simpa using hx))

theorem ConL.append {φ : Phi} : ∀ {a b : List AV} {v u : List Value}, ConL φ a v → ConL φ b u → ConL φ (a ++ b) (v ++ u)
  | _, _, _, _, .nil, h => h
  | _, _, _, _, .cons h t, k => .cons h (t.append k)

theorem ConL.take {φ : Phi} : ∀ {a : List AV} {v : List Value} (n : Nat), ConL φ a v → ConL φ (a.take n) (v.take n)
  | _, _, 0, _ => by simpa using ConL.nil
  | _, _, _ + 1, .nil => by simpa using ConL.nil
  | _, _, n + 1, .cons h t => by simpa using ConL.cons h (t.take n)

theorem ConL.drop {φ : Phi} : ∀ {a : List AV} {v : List Value} (n : Nat), ConL φ a v → ConL φ (a.drop n) (v.drop n)
  | _, _, 0, h => by simpa using h
  | _, _, _ + 1, .nil => by simpa using ConL.nil
  | _, _, n + 1, .cons h t => by simpa using t.drop n

/-- the cells of values that are held together -/
theorem Con.cells {φ : Phi} {a : AV} {v : Value} (h : Con φ a v) : ConL φ a.cells v.cells.toList := by
  cases h with
  | agg h => exact h
  | tuple h => exact .cons (.tuple h) .nil
  | raw h e => cases v <;> simp_all [scalarV, AV.cells, Value.cells] <;> exact .cons (.raw rfl e) .nil
  | _ => exact .cons (by constructor <;> assumption) .nil

theorem Con.scalar {φ : Phi} {a : AV} {v : Value} (h : Con φ a v) (hs : a.scalar = true) : v.oneCell' = true := by
  cases h <;> simp_all [AV.scalar, Value.oneCell']

end Go.Dr
