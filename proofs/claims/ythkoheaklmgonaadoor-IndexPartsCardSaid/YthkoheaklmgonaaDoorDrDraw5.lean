/-
  Regions whose order is drawn: values along the canonical run.
-/
import Derived.Test.YthkoheaklmgonaaDoorDrDraw4
namespace Go.Dr
open Go.RowKit

variable {P : Program} {call : CallF} {ops : Array Oper} {W : Nat}

theorem wantedA_congr {o : Oper} {a a' : AAct} (hr : ∀ t ∈ guardReads ops o, a.val t = a'.val t) : wantedA ops o a = wantedA ops o a' := by
  unfold wantedA
  unfold guardReads at hr
  split
  · rfl
  · rename_i j want hg
    rw [hg] at hr
    simp only at hr
    split
    · rename_i d hd
      rw [hd] at hr
      rw [hr d (by simp)]
    · rfl

def withDs (a : AAct) (ds : List ADef) : AAct := ⟨a.n, a.ts, ds, a.rd⟩

theorem evOper_congr {o : Oper} {c : COp} {a a' a1 : AAct} {h h1 : AH} (hc : comp P o = .ok c) (hv : evC P c a h = evC P c a' h) (hds : a.ds = a'.ds) (hrd : a.rd = a'.rd)
    (he : evOper P call o a h = .ok (a1, h1)) : ∃ v ds1, a1 = (withDs a ds1).put o.dst v ∧ evOper P call o a' h = .ok ((withDs a' ds1).put o.dst v, h1) := by
  unfold evOper at he ⊢
  rw [hc] at he ⊢
  simp only at he ⊢
  rw [← hv]
  split at he
  · rename_i n h2 hr
    split at he
    · rename_i v; rw [forceV_eq] at he ⊢; cases he
      exact ⟨v, a.ds, rfl, by rw [hds]; rfl⟩
    · cases he
      exact ⟨aundef, a.ds, rfl, by rw [hds]; rfl⟩
    · rename_i d
      cases hb : a.rd with
      | true => rw [hb] at he; cases he
      | false =>
        rw [hb] at he; cases he
        refine ⟨aundef, d :: a.ds, by rw [← hb]; rfl, ?_⟩
        rw [hds, ← hrd, hb, withDs, ← hrd, hb]; rfl
    · split at he
      · rename_i v h3 hcall; rw [forceV_eq] at he; cases he
        refine ⟨v, a.ds, rfl, ?_⟩
        simp only [forceV_eq]
        rw [hds]; rfl
      · cases he
    · split at he
      · rename_i v h3 hcall; rw [forceV_eq] at he; cases he
        refine ⟨v, a.ds, rfl, ?_⟩
        simp only [forceV_eq]
        rw [hds]; rfl
      · cases he
  · cases he

theorem put_val (a : AAct) (o : Option Tmp) (v : AV) (t : Nat) : (o = some t → t < a.n → (a.put o v).val t = v) ∧ ((o ≠ some t ∨ ¬ t < a.n) → (a.put o v).val t = a.val t) := by
  cases o with
  | none => exact ⟨fun e => (by cases e), fun _ => rfl⟩
  | some d =>
    unfold AAct.put
    simp only
    cases hb : Nat.blt d a.n with
    | false =>
      have hd : ¬ d < a.n := fun e => by
        have e2 : Nat.blt d a.n = true := Nat.blt_eq.symm ▸ e
        rw [e2] at hb; cases hb
      exact ⟨fun e h => by cases e; exact absurd h hd, fun _ => rfl⟩
    | true =>
      have hd : d < a.n := Nat.blt_eq ▸ hb
      refine ⟨fun e _ => by cases e; simp only [cond_true, AAct.val, PT.get_set, if_true], fun e => ?_⟩
      simp only [cond_true, AAct.val, PT.get_set]
      rw [if_neg]
      rintro rfl
      rcases e with e | e
      · exact e rfl
      · exact e hd

theorem StepOf.shape {r : DRow} {a a1 : AAct} {h h1 : AH} (hc : comp P r.o = .ok r.c) (s : StepOf P call ops r a h a1 h1) : ∃ v ds1, a1 = (withDs a ds1).put r.o.dst v := by
  rcases s with ⟨_, s⟩ | ⟨_, s, _⟩
  · obtain ⟨v, ds1, h1, _⟩ := evOper_congr hc rfl rfl rfl s
    exact ⟨v, ds1, h1⟩
  · exact ⟨aundef, a.ds, s⟩

section
variable {a0 aN : AAct} {h0 hN : AH} {cs : List Cel}

theorem Canon.row (C : Canon P call ops a0 h0 aN hN W cs) {c : Cel} (hc : c ∈ cs) : RowOk P ops c.r := by
  obtain ⟨c1, c2, e⟩ := List.append_of_mem hc
  exact (C.place c1 c c2 e).fact.row

theorem Canon.uniq (C : Canon P call ops a0 h0 aN hN W cs) {c1 c2 : List Cel} {c : Cel} (e : cs = c1 ++ c :: c2) : (∀ c' ∈ c1, c'.r.i ≠ c.r.i) ∧ (∀ c' ∈ c2, c'.r.i ≠ c.r.i) := by
  have hn : (cs.map (·.r.i)).Nodup := C.all.nodup_iff.2 List.nodup_range
  rw [e, List.map_append, List.map_cons, List.nodup_append, List.nodup_cons] at hn
  obtain ⟨_, ⟨h2, _⟩, h3⟩ := hn
  exact ⟨fun c' hc' ee => h3 _ (List.mem_map.2 ⟨c', hc', rfl⟩) _ List.mem_cons_self ee, fun c' hc' ee => h2 (List.mem_map.2 ⟨c', hc', ee⟩)⟩

theorem Canon.skip (C : Canon P call ops a0 h0 aN hN W cs) {t : Nat} : ∀ (c1 : List Cel) (c0 c2 : List Cel), cs = c0 ++ (c1 ++ c2) → (∀ c ∈ c1, c.r.o.dst ≠ some t) → (stA (c1 ++ c2) aN).val t = (stA c2 aN).val t
  | [], c0, c2, _, _ => rfl
  | c :: c1, c0, c2, e, hw => by
    have hp := C.place c0 c (c1 ++ c2) (by rw [e]; rfl)
    obtain ⟨v, ds1, hs⟩ := hp.step.shape hp.fact.row.comp
    rw [← C.skip c1 (c0 ++ [c]) c2 (by rw [e]; simp) fun x hx => hw x (List.mem_cons_of_mem _ hx), hs, (put_val _ _ _ _).2 (.inl (hw c List.mem_cons_self))]
    rfl

theorem Canon.same (C : Canon P call ops a0 h0 aN hN W cs) : ∀ (c1 : List Cel) (c0 c2 : List Cel), cs = c0 ++ (c1 ++ c2) → (stA (c1 ++ c2) aN).n = (stA c2 aN).n ∧ (stA (c1 ++ c2) aN).rd = (stA c2 aN).rd
  | [], c0, c2, _ => ⟨rfl, rfl⟩
  | c :: c1, c0, c2, e => by
    have hp := C.place c0 c (c1 ++ c2) (by rw [e]; rfl)
    obtain ⟨v, ds1, hs⟩ := hp.step.shape hp.fact.row.comp
    obtain ⟨i1, i2⟩ := C.same c1 (c0 ++ [c]) c2 (by rw [e]; simp)
    obtain ⟨_, j2, j3⟩ := AAct.put_ds (withDs c.a ds1) c.r.o.dst v
    rw [hs] at i1 i2
    exact ⟨i1.symm.trans j3 |>.symm, i2.symm.trans j2 |>.symm⟩

theorem Canon.anc (C : Canon P call ops a0 h0 aN hN W cs) {i j : Nat} (ha : Anc ops i j) : ∀ {c1 c2 : List Cel} {c : Cel}, cs = c1 ++ c :: c2 → c.r.i = i → ∃ c' ∈ c1, c'.r.i = j := by
  induction ha with
  | one ho he hb =>
    intro c1 c2 c e hi
    have hp := C.place c1 c c2 e
    have hg := hp.fact.row.get
    rw [hi, ho] at hg; cases hg
    exact hp.lin _ he hb
  | more ho he hb _ ih =>
    intro c1 c2 c e hi
    have hp := C.place c1 c c2 e
    have hg := hp.fact.row.get
    rw [hi, ho] at hg; cases hg
    obtain ⟨c', h1, h2⟩ := hp.lin _ he hb
    obtain ⟨d1, d2, rfl⟩ := List.append_of_mem h1
    obtain ⟨c'', h3, h4⟩ := ih (c1 := d1) (c2 := d2 ++ c :: c2) (c := c') (by rw [e]; simp) h2
    exact ⟨c'', List.mem_append_left _ h3, h4⟩

theorem Canon.dst (C : Canon P call ops a0 h0 aN hN W cs) {c c' : Cel} {t : Nat} (h1 : c ∈ cs) (h2 : c' ∈ cs) (d1 : c.r.o.dst = some t) (d2 : c'.r.o.dst = some t) : c.r.i = c'.r.i :=
  C.w2 _ _ _ _ _ (C.row h1).get (C.row h2).get d1 d2

theorem Canon.cover (C : Canon P call ops a0 h0 aN hN W cs) {i : Nat} (hi : i < ops.size) : ∃ c ∈ cs, c.r.i = i := by
  have := (C.all.mem_iff (a := i)).2 (List.mem_range.2 hi)
  obtain ⟨c, h1, h2⟩ := List.mem_map.1 this
  exact ⟨c, h1, h2⟩

/-- the value that an operation leaves -/
theorem Canon.left (C : Canon P call ops a0 h0 aN hN W cs) {c1 c2 : List Cel} {c : Cel} (e : cs = c1 ++ c :: c2) {t : Nat} (hd : c.r.o.dst = some t) : aN.val t = (stA c2 aN).val t := by
  have := C.skip (t := t) c2 (c1 ++ [c]) [] (by rw [e]; simp) fun x hx hx2 =>
    (C.uniq e).2 x hx (C.dst (by rw [e]; simp [hx]) (by rw [e]; simp) hx2 hd)
  rw [List.append_nil] at this
  exact this.symm

end

end Go.Dr
