/-
  Lists of numbers, rising, each once: plain laws.
-/
import Derived.Test.YthkoheaklmgonaaDoorDrSort
namespace Go.Dr

/-- neighbours that are the same, once -/
def compact : List Int → List Int
  | [] => []
  | [x] => [x]
  | x :: y :: l => if x = y then compact (y :: l) else x :: compact (y :: l)

theorem mem_compact : ∀ (l : List Int) (x : Int), x ∈ compact l ↔ x ∈ l
  | [], x => Iff.rfl
  | [y], x => Iff.rfl
  | a :: b :: l, x => by
    unfold compact
    have ih := mem_compact (b :: l) x
    split
    · rename_i e
      subst e
      rw [ih]
      simp
    · rw [List.mem_cons, ih, List.mem_cons (a := x) (b := a)]

theorem compact_ne_nil : ∀ (x : Int) (l : List Int), compact (x :: l) ≠ []
  | x, [] => by simp [compact]
  | x, y :: l => by
    unfold compact
    split
    · exact compact_ne_nil y l
    · simp

theorem compact_last : ∀ (x : Int) (l : List Int), (compact (x :: l)).getLast? = (x :: l).getLast?
  | x, [] => rfl
  | x, y :: l => by
    unfold compact
    have ih := compact_last y l
    split
    · rw [ih]; simp [List.getLast?_cons_cons]
    · have hne := compact_ne_nil y l
      rw [List.getLast?_cons_cons, ← ih]
      cases hc : compact (y :: l) with
      | nil => exact absurd hc hne
      | cons a m => rw [List.getLast?_cons_cons]

/-- one more at the end -/
theorem compact_snoc : ∀ (l : List Int) (x : Int), compact (l ++ [x]) = if l.getLast? = some x then compact l else compact l ++ [x]
  | [], x => by simp [compact]
  | [a], x => by
    simp only [List.cons_append, List.nil_append, compact, List.getLast?_singleton, Option.some.injEq]
    split
    · rename_i e; subst e; rfl
    · rfl
  | a :: b :: l, x => by
    have ih := compact_snoc (b :: l) x
    rw [List.cons_append] at ih
    simp only [List.cons_append, compact, List.getLast?_cons_cons]
    rw [ih]
    by_cases hx : (b :: l).getLast? = some x
    · simp only [hx, if_true]
    · simp only [hx, if_false]
      split
      · rfl
      · rfl

def rise (l : List Int) : List Int := compact (sorted l)

theorem mem_rise (l : List Int) (x : Int) : x ∈ rise l ↔ x ∈ l := by
  unfold rise sorted
  rw [mem_compact, List.mem_mergeSort]

def Rising (l : List Int) : Prop := l.Pairwise (· < ·)

theorem compact_rising : ∀ (l : List Int), l.Pairwise (· ≤ ·) → Rising (compact l)
  | [], _ => .nil
  | [x], _ => by simp [compact, Rising]
  | a :: b :: l, h => by
    unfold compact
    have h2 := (List.pairwise_cons.1 h)
    have ih := compact_rising (b :: l) h2.2
    split
    · exact ih
    · rename_i hne
      refine List.pairwise_cons.2 ⟨fun y hy => ?_, ih⟩
      rw [mem_compact] at hy
      have hb := h2.1 b (by simp)
      rcases List.mem_cons.1 hy with rfl | hy
      · omega
      · have := (List.pairwise_cons.1 h2.2).1 y hy
        omega

theorem rise_rising (l : List Int) : Rising (rise l) := by
  refine compact_rising _ ?_
  have := List.pairwise_mergeSort (le := fun x y : Int => decide (x ≤ y)) (fun a b c h1 h2 => by simp at *; omega) (fun a b => by simp; omega) l
  exact this.imp fun h => by simpa using h

theorem rising_ext : ∀ {a b : List Int}, Rising a → Rising b → (∀ x, x ∈ a ↔ x ∈ b) → a = b
  | [], [], _, _, _ => rfl
  | [], y :: b, _, _, h => by have := (h y).2 (by simp); simp at this
  | x :: a, [], _, _, h => by have := (h x).1 (by simp); simp at this
  | x :: a, y :: b, ha, hb, h => by
    have ha := List.pairwise_cons.1 ha
    have hb := List.pairwise_cons.1 hb
    have hxy : x = y := by
      have h1 := (h x).1 (by simp)
      have h2 := (h y).2 (by simp)
      rcases List.mem_cons.1 h1 with e | h1
      · exact e
      · rcases List.mem_cons.1 h2 with e | h2
        · exact e.symm
        · have := ha.1 y h2; have := hb.1 x h1; omega
    subst hxy
    rw [rising_ext ha.2 hb.2 fun z => ?_]
    constructor
    · intro hz
      have := (h z).1 (by simp [hz])
      rcases List.mem_cons.1 this with e | h3
      · subst e; have := ha.1 z hz; omega
      · exact h3
    · intro hz
      have := (h z).2 (by simp [hz])
      rcases List.mem_cons.1 this with e | h3
      · subst e; have := hb.1 z hz; omega
      · exact h3

theorem rise_ext {a b : List Int} (h : ∀ x, x ∈ a ↔ x ∈ b) : rise a = rise b :=
  rising_ext (rise_rising a) (rise_rising b) fun x => by rw [mem_rise, mem_rise, h]

/-- what is in a and in b; what is in a alone -/
def meet (a b : List Int) : List Int := (rise a).filter fun n => decide (n ∈ b)
def minus (a b : List Int) : List Int := (rise a).filter fun n => !decide (n ∈ b)

theorem mem_meet (a b : List Int) (x : Int) : x ∈ meet a b ↔ x ∈ a ∧ x ∈ b := by simp [meet, mem_rise]
theorem mem_minus (a b : List Int) (x : Int) : x ∈ minus a b ↔ x ∈ a ∧ ¬ x ∈ b := by simp [minus, mem_rise]

theorem filter_rising {l : List Int} {p : Int → Bool} (h : Rising l) : Rising (l.filter p) := h.filter p

theorem parts1 (a b : List Int) : rise (minus a b ++ meet a b) = rise (a ++ []) := rise_ext fun x => by
  simp only [List.mem_append, mem_meet, mem_minus, List.append_nil]
  by_cases hx : x ∈ b <;> simp [hx]

theorem parts2 (a b : List Int) : rise (rise (minus a b ++ meet a b) ++ minus b a) = rise (a ++ b) := rise_ext fun x => by
  simp only [List.mem_append, mem_rise, mem_meet, mem_minus]
  by_cases hx : x ∈ b <;> by_cases hy : x ∈ a <;> simp [hx, hy]

theorem parts3 (a b : List Int) : meet (minus a b) (minus b a) = [] := by
  rw [List.eq_nil_iff_forall_not_mem]
  intro x hx
  simp only [mem_meet, mem_minus] at hx
  exact hx.2.2 hx.1.1

theorem parts4 (a b : List Int) : meet b a = meet a b :=
  rising_ext (filter_rising (rise_rising b)) (filter_rising (rise_rising a)) fun x => by simp only [mem_meet]; exact And.comm

end Go.Dr
