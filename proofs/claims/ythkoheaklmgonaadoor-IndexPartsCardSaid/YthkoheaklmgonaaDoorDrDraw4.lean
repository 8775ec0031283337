/-
  Regions whose order is drawn: the canonical run, as a trace.
-/
import Derived.Test.YthkoheaklmgonaaDoorDrDraw3
namespace Go.Dr
open Go.RowKit

variable {P : Program} {call : CallF} {ops : Array Oper} {W : Nat}

theorem eqL_ok {f : AV → AV → Bool} (hf : ∀ x y, f x y = true → x = y) : ∀ (l m : List AV), eqL f l m = true → l = m
  | [], [], _ => rfl
  | [], _ :: _, h => by cases h
  | _ :: _, [], h => by cases h
  | x :: l, y :: m, h => by
    simp only [eqL, Bool.and_eq_true] at h
    rw [hf _ _ h.1, eqL_ok hf l m h.2]

theorem eqAV_ok : ∀ (d : Nat) (x y : AV), eqAV d x y = true → x = y
  | 0, _, _, h => by cases h
  | d + 1, x, y, h => by
    have ih := fun x y => eqAV_ok d x y
    have ihl := fun l m => eqL_ok ih l m
    unfold eqAV at h
    split at h <;> try (simp only [Bool.and_eq_true, beq_iff_eq, decide_eq_true_eq] at h)
    · rw [h]
    · rw [h.1, h.2]
    · rw [h]
    · rfl
    · rw [Nat.eq_of_beq_eq_true h.1, Nat.eq_of_beq_eq_true h.2]
    · rfl
    · obtain ⟨h1, h2, h3, h4, h5, h6⟩ := h
      rw [Nat.eq_of_beq_eq_true h1, Nat.eq_of_beq_eq_true h2, Nat.eq_of_beq_eq_true h3, Nat.eq_of_beq_eq_true h4, h5, Nat.eq_of_beq_eq_true h6]
    · rfl
    · rw [Nat.eq_of_beq_eq_true h]
    · rfl
    · split at h
      · simp only [Bool.and_eq_true] at h
        rw [Nat.eq_of_beq_eq_true h.1, ihl _ _ h.2.1, ihl _ _ h.2.2]
      · simp only [Bool.and_eq_true] at h
        rw [Nat.eq_of_beq_eq_true h.1, ihl _ _ h.2.1, ihl _ _ h.2.2]
      · cases h
    · rfl
    · rw [Nat.eq_of_beq_eq_true h.1, ih _ _ h.2]
    · rw [ihl _ _ h]
    · rw [ihl _ _ h]
    · rw [Nat.eq_of_beq_eq_true h]
    · cases h

/-- a read that comes out the same -/
def AgainOk (P : Program) (ops : Array Oper) (r : DRow) (a : AAct) (h : AH) : Prop :=
  wantedA ops r.o a = .ok false ∨ ∃ v h2, wantedA ops r.o a = .ok true ∧ evC P r.c a h = .ok (.value v, h2) ∧ ∀ d, r.o.dst = some d → v = a.val d

theorem again_ok {a : AAct} {h : AH} : ∀ (l : List DRow), again P ops l a h = true → ∀ r ∈ l, AgainOk P ops r a h
  | [], _, r, hr => by cases hr
  | x :: l, hh, r, hr => by
    unfold again at hh
    split at hh
    · rename_i hw
      split at hh
      · rename_i v h2 he
        simp only [Bool.and_eq_true] at hh
        rcases List.mem_cons.1 hr with rfl | hr
        · refine .inr ⟨v, h2, hw, he, fun d hd => ?_⟩
          have := hh.1
          rw [hd] at this
          exact eqAV_ok _ _ _ this
        · exact again_ok l hh.2 r hr
      · cases hh
    · rename_i hw
      rcases List.mem_cons.1 hr with rfl | hr
      · exact .inl hw
      · exact again_ok l hh r hr
    · cases hh

theorem findReady_ok {hv : Bool} {done : Nat} : ∀ {l l' : List DRow} {r : DRow}, findReady hv done l = some (r, l') → r.k.isHeavy = hv ∧ subN r.af done = true ∧ l.Perm (r :: l')
  | [], _, _, h => by cases h
  | x :: l, l', r, h => by
    simp only [findReady] at h
    cases hc : (Bool.and (x.k.isHeavy == hv) (subN x.af done)) with
    | true =>
      rw [hc] at h; cases h
      simp only [Bool.and_eq_true, beq_iff_eq] at hc
      exact ⟨hc.1, hc.2, .refl _⟩
    | false =>
      rw [hc] at h
      simp only [cond_false] at h
      split at h
      · rename_i y l2 hy
        cases h
        obtain ⟨h1, h2, h3⟩ := findReady_ok hy
        exact ⟨h1, h2, (h3.cons x).trans (.swap _ _ _)⟩
      · cases h

/-- one operation of the canonical run -/
def StepOf (P : Program) (call : CallF) (ops : Array Oper) (r : DRow) (a : AAct) (h : AH) (a1 : AAct) (h1 : AH) : Prop :=
  (wantedA ops r.o a = .ok true ∧ evOper P call r.o a h = .ok (a1, h1)) ∨ (wantedA ops r.o a = .ok false ∧ a1 = a.put r.o.dst aundef ∧ h1 = h)

inductive Trace (P : Program) (call : CallF) (ops : Array Oper) (W : Nat) : DSt → List DRow → AAct → AH → List Cel → AAct → AH → Prop
  | nil {st : DSt} {a : AAct} {h : AH} (ha : again P ops st.rs a h = true) : Trace P call ops W st [] a h [] a h
  | cons {st st' : DSt} {rem rem' : List DRow} {r : DRow} {a a1 aN : AAct} {h h1 hN : AH} {cs : List Cel} {hv : Bool} (hf : findReady hv st.done rem = some (r, rem')) (ha : hv = true → again P ops st.rs a h = true)
      (hp : st.put W r = .ok st') (hs : StepOf P call ops r a h a1 h1) (t : Trace P call ops W st' rem' a1 h1 cs aN hN) : Trace P call ops W st rem a h (⟨r, a, h⟩ :: cs) aN hN

theorem evEnts_op {o : Oper} {l : List DEnt} {a aN : AAct} {h hN : AH} (he : evEnts P call ops (.op o :: l) a h = .ok (aN, hN)) :
    ∃ a1 h1, ((wantedA ops o a = .ok true ∧ evOper P call o a h = .ok (a1, h1)) ∨ (wantedA ops o a = .ok false ∧ a1 = a.put o.dst aundef ∧ h1 = h)) ∧ evEnts P call ops l a1 h1 = .ok (aN, hN) := by
  simp only [evEnts] at he
  split at he
  · rename_i hw
    split at he
    · rename_i a1 h1 h2
      exact ⟨a1, h1, .inl ⟨hw, h2⟩, he⟩
    · cases he
  · rename_i hw
    exact ⟨_, _, .inr ⟨hw, rfl, rfl⟩, he⟩
  · cases he

theorem evEnts_stage {re : List DRow} {l : List DEnt} {a aN : AAct} {h hN : AH} (he : evEnts P call ops (.stage re :: l) a h = .ok (aN, hN)) :
    again P ops re a h = true ∧ evEnts P call ops l a h = .ok (aN, hN) := by
  simp only [evEnts] at he
  cases hb : again P ops re a h with
  | true => rw [hb] at he; exact ⟨rfl, he⟩
  | false => rw [hb] at he; cases he

theorem trace_of : ∀ (n : Nat) (st : DSt) (rem : List DRow) (ents : List DEnt) (a : AAct) (h : AH) (aN : AAct) (hN : AH), sched W n st rem = .ok ents → evEnts P call ops ents a h = .ok (aN, hN) →
    ∃ cs, Trace P call ops W st rem a h cs aN hN
  | n, st, [], ents, a, h, aN, hN, hs, he => by
    have : ents = [.stage st.rs] := by cases n <;> (simp only [sched] at hs; cases hs; rfl)
    subst this
    obtain ⟨h1, h2⟩ := evEnts_stage he
    cases h2
    exact ⟨[], .nil h1⟩
  | 0, st, _ :: _, ents, a, h, aN, hN, hs, he => by cases hs
  | n + 1, st, x :: rem, ents, a, h, aN, hN, hs, he => by
    simp only [sched] at hs
    split at hs
    · rename_i r rem' hf
      split at hs
      · rename_i st' hp
        split at hs
        · rename_i l hl; cases hs
          obtain ⟨a1, h1, hst, he⟩ := evEnts_op he
          obtain ⟨cs, t⟩ := trace_of n _ _ _ _ _ _ _ hl he
          exact ⟨_, .cons hf (fun e => by cases e) hp hst t⟩
        · cases hs
      · cases hs
    · split at hs
      · rename_i r rem' hf
        split at hs
        · rename_i st' hp
          split at hs
          · rename_i l hl; cases hs
            obtain ⟨ha, he⟩ := evEnts_stage he
            obtain ⟨a1, h1, hst, he⟩ := evEnts_op he
            obtain ⟨cs, t⟩ := trace_of n _ _ _ _ _ _ _ hl he
            exact ⟨_, .cons hf (fun _ => ha) hp hst t⟩
          · cases hs
        · cases hs
      · cases hs

theorem rowsOf_ok : ∀ (l : List Oper) (i : Nat) (rows : List DRow), rowsOf P ops l i = .ok rows → (∀ j o, l[j]? = some o → ops[i + j]? = some o) → (∀ r ∈ rows, RowOk P ops r) ∧ rows.map (·.i) = List.range' i l.length
  | [], i, rows, h, _ => by cases h; exact ⟨fun r hr => (by cases hr), rfl⟩
  | o :: l, i, rows, h, ho => by
    simp only [rowsOf] at h
    split at h
    · rename_i c hc
      split at h
      · rename_i r hr; cases h
        obtain ⟨i1, i2⟩ := rowsOf_ok l (i + 1) r hr fun j o' hj => by
          have := ho (j + 1) o' (by simpa using hj)
          rw [show i + 1 + j = i + (j + 1) from by omega]; exact this
        have h0 : ops[i]? = some o := ho 0 o rfl
        refine ⟨fun x hx => ?_, by simp only [List.map_cons, i2, List.length_cons, List.range'_succ]⟩
        rcases List.mem_cons.1 hx with rfl | hx
        · exact ⟨h0, hc, rfl, rfl, rfl⟩
        · exact i1 x hx
      · cases h
    · cases h

theorem writesOf_ok : ∀ (l : List Oper) (W : Nat), writesOf l = .ok W → (∀ (i : Nat) o d, l[i]? = some o → o.dst = some d → hasN W d = true) ∧
    (∀ (i j : Nat) o o' d, l[i]? = some o → l[j]? = some o' → o.dst = some d → o'.dst = some d → i = j) ∧ (∀ d, hasN W d = true → ∃ (i : Nat) (o : Oper), l[i]? = some o ∧ o.dst = some d)
  | [], W, h => by cases h; exact ⟨fun i o d e => (by simp at e), fun i j o o' d e => (by simp at e), fun d h => (by rw [hasN_zero] at h; cases h)⟩
  | o :: l, W, h => by
    simp only [writesOf] at h
    split at h
    · rename_i W' hW
      obtain ⟨i1, i2, i3⟩ := writesOf_ok l W' hW
      split at h
      · rename_i d hd
        cases hb : hasN W' d with
        | true => rw [hb] at h; cases h
        | false =>
          rw [hb] at h; cases h
          refine ⟨fun i o1 d1 h1 h2 => ?_, fun i j o1 o2 d1 h1 h2 h3 h4 => ?_, fun d1 h1 => ?_⟩
          · rw [hasN_lor]
            cases i with
            | zero => cases h1; rw [hd] at h2; cases h2; rw [(hasN_bit _ _).2 rfl, Bool.or_true]
            | succ i => rw [i1 i o1 d1 (by simpa using h1) h2]; rfl
          · cases i with
            | zero =>
              cases h1; rw [hd] at h3; cases h3
              cases j with
              | zero => rfl
              | succ j => rw [i1 j o2 d (by simpa using h2) h4] at hb; cases hb
            | succ i =>
              cases j with
              | zero => cases h2; rw [hd] at h4; cases h4; rw [i1 i o1 d (by simpa using h1) h3] at hb; cases hb
              | succ j => rw [i2 i j o1 o2 d1 (by simpa using h1) (by simpa using h2) h3 h4]
          · rw [hasN_lor, Bool.or_eq_true, hasN_bit] at h1
            rcases h1 with h1 | h1
            · obtain ⟨i, o1, h2, h3⟩ := i3 d1 h1
              exact ⟨i + 1, o1, by simpa using h2, h3⟩
            · subst h1; exact ⟨0, o, rfl, hd⟩
      · rename_i hd; cases h
        refine ⟨fun i o1 d1 h1 h2 => ?_, fun i j o1 o2 d1 h1 h2 h3 h4 => ?_, fun d1 h1 => ?_⟩
        · cases i with
          | zero => cases h1; rw [hd] at h2; cases h2
          | succ i => exact i1 i o1 d1 (by simpa using h1) h2
        · cases i with
          | zero => cases h1; rw [hd] at h3; cases h3
          | succ i =>
            cases j with
            | zero => cases h2; rw [hd] at h4; cases h4
            | succ j => rw [i2 i j o1 o2 d1 (by simpa using h1) (by simpa using h2) h3 h4]
        · obtain ⟨i, o1, h2, h3⟩ := i3 d1 h1
          exact ⟨i + 1, o1, by simpa using h2, h3⟩
    · cases h

def stA (cs : List Cel) (aN : AAct) : AAct := match cs with | [] => aN | c :: _ => c.a
def stH (cs : List Cel) (hN : AH) : AH := match cs with | [] => hN | c :: _ => c.h

theorem Trace.start {st : DSt} {rem : List DRow} {a aN : AAct} {h hN : AH} {cs : List Cel} (t : Trace P call ops W st rem a h cs aN hN) : stA cs aN = a ∧ stH cs hN = h := by
  cases t <;> exact ⟨rfl, rfl⟩

/-- reads that come out the same, or were surely made -/
def Reads (P : Program) (ops : Array Oper) (pre : List Cel) (a : AAct) (h : AH) : Prop :=
  ∀ c ∈ pre, c.r.k.isRead = true → AgainOk P ops c.r a h ∨ ∃ c2 ∈ pre, c2.r.k.isHeavy = true ∧ (c.r.i = c2.r.i ∨ Anc ops c2.r.i c.r.i)

structure Place (P : Program) (call : CallF) (ops : Array Oper) (W : Nat) (pre : List Cel) (c : Cel) (a1 : AAct) (h1 : AH) : Prop where
  fact : Fact P ops W pre c.r
  lin : ∀ e ∈ c.r.o.after.toList, bindsE e = true → ∃ c' ∈ pre, c'.r.i = e.on
  step : StepOf P call ops c.r c.a c.h a1 h1
  again : c.r.k.isHeavy = true → Reads P ops pre c.a c.h

theorem Trace.places {st : DSt} {rem : List DRow} {a aN : AAct} {h hN : AH} {cs : List Cel} (t : Trace P call ops W st rem a h cs aN hN) :
    ∀ pre, InvSt ops W pre st → (∀ r ∈ rem, RowOk P ops r) →
      (∀ c1 c c2, cs = c1 ++ c :: c2 → Place P call ops W (pre ++ c1) c (stA c2 aN) (stH c2 hN)) ∧ Reads P ops (pre ++ cs) aN hN ∧ (cs.map (·.r)).Perm rem := by
  induction t with
  | nil ha =>
    intro pre I hr
    refine ⟨fun c1 c c2 e => (by cases c1 <;> cases e), fun c hc hh => ?_, .refl _⟩
    rw [List.append_nil] at hc ⊢
    rcases I.rs c hc hh with h1 | h1
    · exact .inl (again_ok _ ha _ h1)
    · exact .inr h1
  | @cons st st' rem rem' r a a1 aN h h1 hN cs hv hf ha hp hs t ih =>
    intro pre I hr
    obtain ⟨f1, f2, f3⟩ := findReady_ok hf
    have hrow := hr r (f3.mem_iff.2 List.mem_cons_self)
    obtain ⟨F, I'⟩ := put_ok I hrow hp a h
    obtain ⟨i1, i2, i3⟩ := ih (pre ++ [⟨r, a, h⟩]) I' fun x hx => hr x (f3.mem_iff.2 (List.mem_cons_of_mem _ hx))
    refine ⟨fun c1 c c2 e => ?_, by simpa using i2, (i3.cons r).trans f3.symm⟩
    cases c1 with
    | nil =>
      cases e
      rw [List.append_nil]
      refine ⟨F, fun e he hb => I.done _ ?_, ?_, fun hh c hc hrd => ?_⟩
      · refine subN_has f2 ?_
        rw [hrow.af]
        exact afterMask_ok he hb
      · rw [t.start.1, t.start.2]; exact hs
      · rcases I.rs c hc hrd with h1 | h1
        · exact .inl (again_ok _ (ha (f1.symm.trans hh)) _ h1)
        · exact .inr h1
    | cons x c1 =>
      cases e
      have := i1 c1 c c2 rfl
      simpa using this

theorem inv0 : InvSt ops W [] ⟨0, 0, 0, 0, .leaf, [], []⟩ :=
  ⟨fun i h => (by rw [hasN_zero] at h; cases h), fun c hc => (by cases hc), fun c hc => (by cases hc), fun i x y h => (by cases h), fun c hc => (by cases hc), fun c hc => (by cases hc)⟩

/-- the canonical run of a region whose order is drawn -/
structure Canon (P : Program) (call : CallF) (ops : Array Oper) (a0 : AAct) (h0 : AH) (aN : AAct) (hN : AH) (W : Nat) (cs : List Cel) : Prop where
  first : stA cs aN = a0 ∧ stH cs hN = h0
  place : ∀ c1 c c2, cs = c1 ++ c :: c2 → Place P call ops W c1 c (stA c2 aN) (stH c2 hN)
  reads : Reads P ops cs aN hN
  all : (cs.map (·.r.i)).Perm (List.range ops.size)
  w1 : ∀ (i : Nat) o d, ops[i]? = some o → o.dst = some d → hasN W d = true
  w2 : ∀ (i j : Nat) o o' d, ops[i]? = some o → ops[j]? = some o' → o.dst = some d → o'.dst = some d → i = j

theorem canon_of {a0 aN : AAct} {h0 hN : AH} (he : evDraw P call ops a0 h0 = .ok (aN, hN)) : ∃ W cs, Canon P call ops a0 h0 aN hN W cs := by
  unfold evDraw at he
  split at he
  · rename_i l hl
    unfold plan at hl
    split at hl
    · rename_i W rows hW hrows
      obtain ⟨r1, r2⟩ := rowsOf_ok _ _ _ hrows fun j o hj => by rw [Nat.zero_add, ← Array.getElem?_toList]; exact hj
      obtain ⟨cs, t⟩ := trace_of _ _ _ _ _ _ _ _ hl he
      obtain ⟨t1, t2, t3⟩ := t.places [] inv0 r1
      obtain ⟨w1, w2, _⟩ := writesOf_ok _ _ hW
      refine ⟨W, cs, t.start, fun c1 c c2 e => by simpa using t1 c1 c c2 e, by simpa using t2, ?_, fun i o d h1 => w1 i o d (by rw [Array.getElem?_toList]; exact h1), fun i j o o' d h1 h2 => w2 i j o o' d (by rw [Array.getElem?_toList]; exact h1) (by rw [Array.getElem?_toList]; exact h2)⟩
      have := t3.map (·.i)
      rw [List.map_map] at this
      refine this.trans ?_
      rw [r2, List.range_eq_range']
      exact .refl _
    · cases hl
    · cases hl
  · cases he

end Go.Dr
