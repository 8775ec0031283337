/-
  Regions whose order is drawn: what a plan tells.
-/
import Derived.Test.YthkoheaklmgonaaDoorDrDraw2
namespace Go.Dr
open Go.RowKit

variable {P : Program} {call : CallF} {ops : Array Oper} {W : Nat}

/-! ### masks -/

theorem hasN_eq (m i : Nat) : hasN m i = m.testBit i := by
  unfold hasN Nat.testBit
  have e : Nat.land (Nat.shiftRight m i) 1 = (m >>> i) % 2 := Nat.and_one_is_mod _
  have e2 : (1 &&& m >>> i) = (m >>> i) % 2 := by rw [Nat.and_comm]; exact Nat.and_one_is_mod _
  rw [e, e2]
  rcases Nat.mod_two_eq_zero_or_one (m >>> i) with h | h <;> rw [h] <;> rfl

theorem hasN_zero (i : Nat) : hasN 0 i = false := by rw [hasN_eq]; simp

theorem hasN_lor (a b i : Nat) : hasN (Nat.lor a b) i = (hasN a i || hasN b i) := by
  rw [hasN_eq, hasN_eq, hasN_eq]; exact Nat.testBit_or a b i

theorem hasN_bit (i j : Nat) : hasN (bitN i) j = true ↔ i = j := by
  rw [hasN_eq]
  have : bitN i = 2 ^ i := by show 1 <<< i = _; rw [Nat.one_shiftLeft]
  rw [this, Nat.testBit_two_pow]; simp

theorem subN_has {a b i : Nat} (hs : subN a b = true) (hi : hasN a i = true) : hasN b i = true := by
  have := Nat.eq_of_beq_eq_true hs
  rw [← this, hasN_lor, hi]; rfl

theorem hasN_bitO {d : Option Tmp} {t : Nat} : hasN (bitO d) t = true ↔ d = some t := by
  cases d with
  | none => simp [bitO, hasN_zero]
  | some d => simp only [bitO, hasN_bit, Option.some.injEq]

/-! ### what comes before -/

inductive Anc (ops : Array Oper) : Nat → Nat → Prop
  | one {i : Nat} {o : Oper} {e : Edge} (ho : ops[i]? = some o) (he : e ∈ o.after.toList) (hb : bindsE e = true) : Anc ops i e.on
  | more {i k : Nat} {o : Oper} {e : Edge} (ho : ops[i]? = some o) (he : e ∈ o.after.toList) (hb : bindsE e = true) (h : Anc ops e.on k) : Anc ops i k

def dstOf (ops : Array Oper) (j : Nat) : Option Tmp := (ops[j]?).bind (·.dst)

structure RowOk (P : Program) (ops : Array Oper) (r : DRow) : Prop where
  get : ops[r.i]? = some r.o
  comp : comp P r.o = .ok r.c
  kind : r.k = rowKind r.o r.c
  af : r.af = afterMask r.o.after.toList
  rd : r.rd = guardReads ops r.o ++ r.c.reads

theorem RowOk.dst {r : DRow} (h : RowOk P ops r) : dstOf ops r.i = r.o.dst := by simp [dstOf, h.get]

theorem afterMask_ok : ∀ {l : List Edge} {e : Edge}, e ∈ l → bindsE e = true → hasN (afterMask l) e.on = true
  | x :: l, e, he, hb => by
    simp only [afterMask]
    rcases List.mem_cons.1 he with rfl | he
    · rw [hb, cond_true, hasN_lor, (hasN_bit _ _).2 rfl]; rfl
    · have := afterMask_ok he hb
      cases bindsE x
      · exact this
      · rw [cond_true, hasN_lor, this, Bool.or_true]

/-- a cell of a trace: an operation, and what it was run from -/
structure Cel where
  r : DRow
  a : AAct
  h : AH

structure InvSt (ops : Array Oper) (W : Nat) (pre : List Cel) (st : DSt) : Prop where
  done : ∀ i, hasN st.done i = true → ∃ c ∈ pre, c.r.i = i
  hv : ∀ c ∈ pre, c.r.k.isHeavy = true → hasN st.hv c.r.i = true
  wr : ∀ c ∈ pre, ∀ d, c.r.o.dst = some d → hasN st.wr d = true
  tbl : ∀ i x y, st.tbl.get i = some (x, y) → (∀ j, hasN x j = true → j = i ∨ Anc ops i j) ∧ (∀ t, hasN y t = true → ∃ j, (j = i ∨ Anc ops i j) ∧ dstOf ops j = some t)
  rs : ∀ c ∈ pre, c.r.k.isRead = true → c.r ∈ st.rs ∨ ∃ c2 ∈ pre, c2.r.k.isHeavy = true ∧ (c.r.i = c2.r.i ∨ Anc ops c2.r.i c.r.i)
  old : ∀ c ∈ pre, ∀ t ∈ c.r.rd, hasN W t = true → (∃ j, Anc ops c.r.i j ∧ dstOf ops j = some t) ∨ (t, c.r.i) ∈ st.old

theorem ancOf_ok {t : PT (Nat × Nat)} (ht : ∀ i x y, t.get i = some (x, y) → (∀ j, hasN x j = true → j = i ∨ Anc ops i j) ∧ (∀ s, hasN y s = true → ∃ j, (j = i ∨ Anc ops i j) ∧ dstOf ops j = some s))
    {i : Nat} {o : Oper} (ho : ops[i]? = some o) : ∀ {l : List Edge}, (∀ e ∈ l, e ∈ o.after.toList) →
      (∀ j, hasN (ancOf t l).1 j = true → Anc ops i j) ∧ (∀ s, hasN (ancOf t l).2 s = true → ∃ j, Anc ops i j ∧ dstOf ops j = some s)
  | [], _ => by simp [ancOf, hasN_zero]
  | e :: l, hl => by
    obtain ⟨i1, i2⟩ := ancOf_ok ht ho (l := l) fun x hx => hl x (List.mem_cons_of_mem _ hx)
    simp only [ancOf]
    cases hb : bindsE e with
    | false => exact ⟨i1, i2⟩
    | true =>
      simp only [cond_true]
      split
      · rename_i x' y' hg
        obtain ⟨t1, t2⟩ := ht _ _ _ hg
        have hmem := hl e (List.mem_cons_self)
        have up : ∀ {j}, j = e.on ∨ Anc ops e.on j → Anc ops i j := by
          rintro j (rfl | hj)
          · exact .one ho hmem hb
          · exact .more ho hmem hb hj
        refine ⟨fun j hj => ?_, fun s hs => ?_⟩
        · simp only [hasN_lor, Bool.or_eq_true] at hj
          rcases hj with hj | hj
          · exact i1 _ hj
          · exact up (t1 _ hj)
        · simp only [hasN_lor, Bool.or_eq_true] at hs
          rcases hs with hs | hs
          · exact i2 _ hs
          · obtain ⟨j, hj, hd⟩ := t2 _ hs
            exact ⟨j, up hj, hd⟩
      · exact ⟨i1, i2⟩

theorem readsOk_ok {D wr : Nat} : ∀ {l : List Nat}, readsOk W D wr l = true → ∀ t ∈ l, hasN W t = true → hasN D t = true ∨ hasN wr t = false
  | x :: l, h, t, ht, hw => by
    simp only [readsOk] at h
    rcases List.mem_cons.1 ht with rfl | ht
    · rw [hw] at h
      simp only [cond_true, Bool.and_eq_true, Bool.or_eq_true, Bool.not_eq_true'] at h
      exact h.1
    · refine readsOk_ok (l := l) ?_ t ht hw
      cases hx : hasN W x
      · rw [hx] at h; exact h
      · rw [hx] at h
        simp only [cond_true, Bool.and_eq_true] at h
        exact h.2

theorem oldOf_ok {D i : Nat} : ∀ {l : List Nat}, ∀ t ∈ l, hasN W t = true → hasN D t = true ∨ (t, i) ∈ oldOf W D i l
  | x :: l, t, ht, hw => by
    simp only [oldOf]
    rcases List.mem_cons.1 ht with rfl | ht
    · cases hd : hasN D t
      · right; rw [hw]; exact List.mem_cons_self
      · exact .inl rfl
    · rcases oldOf_ok (D := D) (i := i) t ht hw with h | h
      · exact .inl h
      · right
        cases (Bool.and (hasN W x) (Bool.not (hasN D x)))
        · exact h
        · exact List.mem_cons_of_mem _ h

theorem oldOk_ok {d x i : Nat} (l : List (Nat × Nat)) : oldOk d x i l = true → ∀ j, (d, j) ∈ l → j = i ∨ hasN x j = true := by
  induction l with
  | nil => intro _ j hj; cases hj
  | cons q l ih =>
    intro h j hj
    obtain ⟨t, k⟩ := q
    simp only [oldOk] at h
    rcases List.mem_cons.1 hj with e | hj
    · cases e
      rw [Nat.beq_refl] at h
      simp only [cond_true, Bool.and_eq_true, Bool.or_eq_true] at h
      rcases h.1 with h | h
      · exact .inl (Nat.eq_of_beq_eq_true h)
      · exact .inr h
    · refine ih ?_ j hj
      cases hx : Nat.beq t d
      · rw [hx] at h; exact h
      · rw [hx] at h
        simp only [cond_true, Bool.and_eq_true] at h
        exact h.2

theorem again1_ok {x : Nat} (l : List DRow) : ∀ r ∈ l, hasN x r.i = true ∨ r ∈ again1 x l := by
  induction l with
  | nil => intro r hr; cases hr
  | cons y l ih =>
    intro r hr
    simp only [again1]
    rcases List.mem_cons.1 hr with rfl | hr
    · cases hasN x r.i
      · right; exact List.mem_cons_self
      · exact .inl rfl
    · rcases ih r hr with h | h
      · exact .inl h
      · right
        cases hasN x y.i
        · exact List.mem_cons_of_mem _ h
        · exact h

/-- what is known of an operation in its place -/
structure Fact (P : Program) (ops : Array Oper) (W : Nat) (pre : List Cel) (r : DRow) : Prop where
  row : RowOk P ops r
  hv : ∀ c ∈ pre, c.r.k.isHeavy = true → Anc ops r.i c.r.i
  rd : ∀ t ∈ r.rd, hasN W t = true → (∃ j, Anc ops r.i j ∧ dstOf ops j = some t) ∨ (r.k.isRead = false ∧ ∀ c ∈ pre, c.r.o.dst ≠ some t)
  old : ∀ d, r.o.dst = some d → hasN W d = true → ∀ c ∈ pre, d ∈ c.r.rd → (∃ j, Anc ops c.r.i j ∧ dstOf ops j = some d) ∨ c.r.i = r.i ∨ Anc ops r.i c.r.i

theorem put_ok {pre : List Cel} {st st' : DSt} {r : DRow} (I : InvSt ops W pre st) (hr : RowOk P ops r) (hp : st.put W r = .ok st') (a : AAct) (h : AH) :
    Fact P ops W pre r ∧ InvSt ops W (pre ++ [⟨r, a, h⟩]) st' := by
  unfold DSt.put at hp
  simp only [forceN_eq] at hp
  obtain ⟨A1, A2⟩ := ancOf_ok I.tbl hr.get (l := r.o.after.toList) fun e he => he
  generalize (ancOf st.tbl r.o.after.toList).1 = x at *
  generalize (ancOf st.tbl r.o.after.toList).2 = y at *
  cases hc : (subN st.hv x && (readsOk W y st.wr r.rd && (oldOkO r.o.dst x r.i (oldOf W y r.i r.rd ++ st.old) && (!r.k.isRead || emptyL (oldOf W y r.i r.rd))))) with
  | false => rw [hc] at hp; cases hp
  | true =>
    rw [hc] at hp
    cases hp
    simp only [Bool.and_eq_true] at hc
    obtain ⟨c1, c2, c3, c4⟩ := hc
    have X : ∀ j, hasN (x.lor (bitN r.i)) j = true → j = r.i ∨ Anc ops r.i j := by
      intro j hj
      rw [hasN_lor, Bool.or_eq_true, hasN_bit] at hj
      rcases hj with hj | hj
      · exact .inr (A1 _ hj)
      · exact .inl hj.symm
    have rdd : ∀ t ∈ r.rd, hasN W t = true → (∃ j, Anc ops r.i j ∧ dstOf ops j = some t) ∨ (t, r.i) ∈ oldOf W y r.i r.rd := fun t ht hw => by
      rcases oldOf_ok (D := y) (i := r.i) t ht hw with h1 | h1
      · exact .inl (A2 _ h1)
      · exact .inr h1
    refine ⟨⟨hr, fun c hc hh => A1 _ (subN_has c1 (I.hv c hc hh)), fun t ht hw => ?_, fun d hd hw c hc ht => ?_⟩, ⟨fun i hi => ?_, fun c hc hh => ?_, fun c hc d hd => ?_, fun i x' y' hg => ?_, fun c hc hh => ?_, fun c hc t ht hw => ?_⟩⟩
    · rcases rdd t ht hw with h1 | h1
      · exact .inl h1
      · rcases readsOk_ok c2 t ht hw with h2 | h2
        · exact .inl (A2 _ h2)
        · refine .inr ⟨?_, fun c hc e => ?_⟩
          · cases hk : r.k.isRead with
            | false => rfl
            | true =>
              rw [hk] at c4
              simp only [Bool.not_true, Bool.false_or] at c4
              generalize oldOf W y r.i r.rd = ol at h1 c4
              cases ol with
              | nil => cases h1
              | cons _ _ => cases c4
          · rw [I.wr c hc t e] at h2; cases h2
    · rcases I.old c hc d ht hw with h1 | h1
      · exact .inl h1
      · rw [hd] at c3
        rcases oldOk_ok _ c3 _ (List.mem_append_right _ h1) with h2 | h2
        · exact .inr (.inl h2)
        · exact .inr (.inr (A1 _ h2))
    · simp only [hasN_lor, Bool.or_eq_true, hasN_bit] at hi
      rcases hi with hi | hi
      · obtain ⟨c, h1, h2⟩ := I.done i hi
        exact ⟨c, List.mem_append_left _ h1, h2⟩
      · exact ⟨_, List.mem_append_right _ (List.mem_singleton.2 rfl), hi⟩
    · rcases List.mem_append.1 hc with hc | hc
      · have := I.hv c hc hh
        simp only
        cases r.k.isHeavy
        · exact this
        · rw [cond_true, hasN_lor, this]; rfl
      · obtain rfl := List.mem_singleton.1 hc
        simp only at hh ⊢
        rw [hh, cond_true, hasN_lor, (hasN_bit _ _).2 rfl, Bool.or_true]
    · rcases List.mem_append.1 hc with hc | hc
      · simp only [hasN_lor]; rw [I.wr c hc d hd]; rfl
      · obtain rfl := List.mem_singleton.1 hc
        simp only [hasN_lor]; rw [(hasN_bitO).2 hd, Bool.or_true]
    · rw [PT.get_set] at hg
      by_cases hi : i = r.i
      · subst hi
        rw [if_pos rfl] at hg
        cases hg
        refine ⟨X, fun t ht => ?_⟩
        rw [hasN_lor, Bool.or_eq_true] at ht
        rcases ht with ht | ht
        · obtain ⟨j, hj, hd⟩ := A2 _ ht
          exact ⟨j, .inr hj, hd⟩
        · exact ⟨r.i, .inl rfl, by rw [hr.dst]; exact hasN_bitO.1 ht⟩
      · rw [if_neg hi] at hg
        exact I.tbl _ _ _ hg
    · rcases List.mem_append.1 hc with hc | hc
      · have lift : (∃ c2 ∈ pre, c2.r.k.isHeavy = true ∧ (c.r.i = c2.r.i ∨ Anc ops c2.r.i c.r.i)) → ∃ c2 ∈ pre ++ [(⟨r, a, h⟩ : Cel)], c2.r.k.isHeavy = true ∧ (c.r.i = c2.r.i ∨ Anc ops c2.r.i c.r.i) :=
          fun ⟨c2, h1, h2⟩ => ⟨c2, List.mem_append_left _ h1, h2⟩
        rcases I.rs c hc hh with h1 | h1
        · simp only
          cases hrd : r.k.isRead with
          | true => exact .inl (List.mem_cons_of_mem _ h1)
          | false =>
            cases hhv : r.k.isHeavy with
            | false => exact .inl h1
            | true =>
              simp only [cond_false, cond_true]
              rcases again1_ok (x := x.lor (bitN r.i)) _ c.r h1 with h2 | h2
              · exact .inr ⟨_, List.mem_append_right _ (List.mem_singleton.2 rfl), hhv, X _ h2⟩
              · exact .inl h2
        · exact .inr (lift h1)
      · obtain rfl := List.mem_singleton.1 hc
        simp only at hh ⊢
        rw [hh]
        exact .inl List.mem_cons_self
    · rcases List.mem_append.1 hc with hc | hc
      · rcases I.old c hc t ht hw with h1 | h1
        · exact .inl h1
        · exact .inr (List.mem_append_right _ h1)
      · obtain rfl := List.mem_singleton.1 hc
        rcases rdd t ht hw with h1 | h1
        · exact .inl h1
        · exact .inr (List.mem_append_left _ h1)

end Go.Dr
