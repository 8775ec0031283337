/-
  One operation of the abstract run is the model's: append, copy.
-/
import Derived.Test.YthkoheaklmgonaaDoorDrOps7
import Derived.Laws.AppendOwn
namespace Go.Dr
open Go.RowKit

variable {P : Program} {B : Nat} {w0 w : World} {φ : Phi} {h h' : AH}

/-- what is appended or copied: as many elements, their cells, in every world that is held against our heap -/
structure Src (P : Program) (B : Nat) (w0 : World) (φ : Phi) (h : AH) (es n : Nat) (l : List AV) (len : Sem Nat) (cells : Sem (Array Value)) : Prop where
  len : ∀ w, len.run P w = .ok n w
  size : l.length = n * es
  cells : ∀ w, Rel B w0 φ h w → ∃ vs : List Value, ConL φ l vs ∧ cells.run P w = .ok ⟨vs⟩ w

theorem srcCells_ok {es n : Nat} {x : AV} {x' : Value} {l : List AV} (hr : srcCells h es x = .ok (n, l)) (hx : Con φ x x') : Src P B w0 φ h es n l (Builtin.lenOf x') (Builtin.firstCells es n x') := by
  unfold srcCells at hr
  split at hr
  · cases hr; cases hx
    exact ⟨fun w => rfl, by simp, fun w _ => ⟨[], .nil, rfl⟩⟩
  · rename_i id off len cap xx es'
    split at hr
    · rename_i hes; subst hes
      split at hr
      · rename_i l0 hl
        cases hr
        cases hx with
        | @slice _ _ _ _ c _ _ p ad hp hxx hc hlc hrm =>
          refine ⟨fun w => rfl, ?_, fun w hR => ?_⟩
          · unfold loadN at hl
            split at hl
            · rename_i vs ro hg
              cases hb : Nat.ble (off + n * es) vs.length with
              | false => rw [hb] at hl; cases hl
              | true => rw [hb] at hl; cases hl; have := Nat.le_of_ble_eq_true hb; simp; omega
            · cases hl
          · obtain ⟨vs, hlen, hcells, hcon⟩ := loadN_ok hl hR hp
            refine ⟨vs, hcon, ?_⟩
            by_cases h0 : n * es = 0
            · have : vs = [] := List.length_eq_zero_iff.1 (by omega)
              subst this
              simp [Builtin.firstCells, h0, loadCells, loadCellsFrom]
            · rcases hrm with hz | ⟨_, had⟩
              · subst hz
                have : n = 0 := by omega
                subst this; simp at h0
              · subst had; exact run_loadCells_at hlen hcells
      · cases hr
    · cases hr
  · rename_i s
    split at hr
    · rename_i hes; subst hes
      cases hr; cases hx
      refine ⟨fun w => rfl, ?_, fun w _ => ⟨s.map fun b => Value.int .u8 b.toNat, bytesAV_con s, ?_⟩⟩
      · have := (bytesAV_con (φ := φ) s).length; simp at this; simp [this]
      · have e : (⟨⟨s⟩⟩ : ByteArray).extract 0 s.length = ⟨⟨s⟩⟩ := by
          have := Lib.extract_data ⟨⟨s⟩⟩ 0 s.length
          cases e : (⟨⟨s⟩⟩ : ByteArray).extract 0 s.length with
          | mk d => rw [e] at this; rcases d with ⟨d⟩; simp at this; subst this; rfl
        show Result.ok _ w = _
        rw [e]; simp
    · cases hr
  · cases hr

theorem Rel.unlaid {i : Nat} (r : Rel B w0 φ h w) (hi : h.next ≤ i) : φ i = none := by
  cases e : φ i with
  | none => rfl
  | some p => exact absurd (r.lt _ _ e) (by omega)

/-- the model's append, its source at hand -/
def appendRun (_P : Program) (e : TypeId) (zeros : Prop) [Decidable zeros] (size : Nat) (s : Value) (n : Nat) (appended : Sem (Array Value)) (base : Option Addr) (sLen sCap : Nat) (x : Value) : Sem Value :=
  let need := sLen + n
  if need ≤ sCap then do
    let new ← appended
    if let some a := base then storeCells (a.add (sLen * size)) new.toList
    pure (.slice base need sCap)
  else do
    if (need : Int) > IntKind.i64.max ∧ (zeros ∨ (← typeInfo e).bytes = 0) then runtimePanic (.error "growslice: len out of range")
    if Builtin.nextslicecap need sCap * (← typeInfo e).bytes > 2 ^ 48 then (if zeros then runtimePanic (.error "growslice: len out of range") else do
      if !(← Builtin.mayShare size sLen n base x) then mark .noRoom
      unsupported (.resourceLimit "append: a slice or a string whose bytes no memory bears"))
    let newCap ← choose (.appendCap need sCap e)
    askRoom (newCap * (← typeInfo e).bytes)
    let old ← Builtin.firstCells size sLen s
    let new ← appended
    let rest := Builtin.zeroCells (← zeroValue e).cells (newCap - need)
    pure (.slice (some (← newRow e (old ++ new ++ rest))) need newCap)

theorem grow_run {e : TypeId} {zeros : Prop} [Decidable zeros] {es bytes n sLen sCap : Nat} {s x : Value} {appended : Sem (Array Value)} {base : Option Addr} {i : TypeInfo} {z' : Value} {oldv newv : List Value}
    (hi : P.info? e = some i) (hiz : i.zero = some z') (hby : i.bytes = bytes)
    (hgt : sCap < sLen + n) (hb : (sLen + n) * bytes ≤ 2 ^ 40) (hm : sLen + n ≤ 2 ^ 40)
    (hold : (Builtin.firstCells es sLen s).run P w.drew = .ok ⟨oldv⟩ w.drew) (hnew : appended.run P w.drew = .ok ⟨newv⟩ w.drew) :
    ∃ c, sLen + n ≤ c ∧ (appendRun P e zeros es s n appended base sLen sCap x).run P w = .ok (.slice (some ⟨w.heap.size, 0, none⟩) (sLen + n) c)
      (w.drew.alloc (.cells ⟨(oldv ++ newv) ++ (Builtin.zeroCells z'.cells (c - (sLen + n))).toList⟩ e)) := by
  subst hby
  refine ⟨grownCap w (sLen + n) sCap e, grownCap_ge w _ _ _, ?_⟩
  have hn : Builtin.nextslicecap (sLen + n) sCap * i.bytes ≤ 2 * ((sLen + n) * i.bytes) := by
    have := nextslicecap_le hgt
    calc _ ≤ (2 * (sLen + n)) * i.bytes := Nat.mul_le_mul_right _ this
      _ = _ := by rw [Nat.mul_assoc]
  have hn2 : ¬ (Builtin.nextslicecap (sLen + n) sCap * i.bytes > 2 ^ 48) := by omega
  have hm2 : ¬ (((sLen + n : Nat) : Int) > IntKind.i64.max) := by simp [IntKind.max, IntKind.signed, IntKind.bits]; omega
  simp only [appendRun]
  rw [if_neg (by omega)]
  simp only [Sem.run_bind, run_info hi, Result.andThen_ok, hm2, false_and, if_false, Sem.run_pure, hn2, run_choose, Question.forced, Bool.false_eq_true, World.drew_eq, run_askRoom, hold, hnew, zeroValue, hiz, newRow, run_newObj]
  have ez : ∀ Z : Array Value, ((⟨oldv⟩ : Array Value) ++ ⟨newv⟩ ++ Z) = ⟨oldv ++ newv ++ Z.toList⟩ := fun Z => by apply Array.ext'; simp
  rw [ez]; rfl

theorem place_run {e : TypeId} {zeros : Prop} [Decidable zeros] {es n sLen sCap : Nat} {s x : Value} {appended : Sem (Array Value)} {base : Option Addr} {newv : List Value} {w' : World}
    (hle : sLen + n ≤ sCap) (hnew : appended.run P w = .ok ⟨newv⟩ w) (hst : ∀ a, base = some a → (storeCells (a.add (sLen * es)) newv).run P w = .ok () w') (hno : base = none → w' = w) :
    (appendRun P e zeros es s n appended base sLen sCap x).run P w = .ok (.slice base (sLen + n) sCap) w' := by
  simp only [appendRun]
  rw [if_pos hle]
  cases base with
  | none => simp only [Sem.run_bind, hnew, Result.andThen_ok, Sem.run_pure, hno rfl]
  | some a => simp only [Sem.run_bind, hnew, Result.andThen_ok, Sem.run_pure, hst a rfl]

theorem zeroCells_len (z : Array Value) (n : Nat) : (Builtin.zeroCells z n).toList.length = n * z.size := by simp [Builtin.zeroCells]

theorem loadN_len {id off n : Nat} {l : List AV} (hl : loadN h id off n = .ok l) : l.length = n := by
  unfold loadN at hl
  split at hl
  · rename_i vs ro hg
    cases hb : Nat.ble (off + n) vs.length with
    | false => rw [hb] at hl; cases hl
    | true => rw [hb] at hl; cases hl; have := Nat.le_of_ble_eq_true hb; simp; omega
  · cases hl

theorem grown_ok {e : TypeId} {es m c : Nat} {oldl new : List AV} {oldv newv : List Value} {z' : Value} (hR : Rel B w0 φ h w) (hco : ConL φ oldl oldv) (hcn : ConL φ new newv) (hm : oldl.length + new.length = m * es) (hc : m ≤ c)
    (hzsz : z'.cells.size = es) : ∃ φ', Con φ' (.slice h.next 0 m m false es) (.slice (some ⟨w.heap.size, 0, none⟩) m c) ∧
      Rel B w0 φ' (h.push (.cells (oldl ++ new) false)) (w.drew.alloc (.cells ⟨(oldv ++ newv) ++ (Builtin.zeroCells z'.cells (c - m)).toList⟩ e)) ∧ Ext φ h φ' (h.push (.cells (oldl ++ new) false)) := by
  have hp := push_cells (e := e) (rest := (Builtin.zeroCells z'.cells (c - m)).toList) hR.drew (hco.append hcn) 0 0 (fun i _ => by omega)
  refine ⟨_, ?_, hp, Ext.push hR _ _⟩
  refine .slice (Phi.set_same _ _ _) (fun e => by cases e) hc hc (.inr ⟨?_, by simp⟩)
  show 0 + c * es ≤ (oldv ++ newv).length + _
  rw [zeroCells_len, hzsz, List.length_append, ← hco.length, ← hcn.length, hm, ← Nat.add_mul]
  have : m + (c - m) = c := by omega
  rw [this]; omega

theorem appTo_ok {e : TypeId} {zeros : Prop} [Decidable zeros] {es bytes n : Nat} {s : AV} {s' x' : Value} {new : List AV} {len : Sem Nat} {appended : Sem (Array Value)} {z : AV} {r : AN}
    (hby : byOf P e = .ok bytes) (hz : zeroAV P e = .ok z) (hes : es ≠ 0) (hzl : z.cells.length = es)
    (hsrc : Src P B w0 φ h es n new len appended) (hR : Rel B w0 φ h w) (hs : Con φ s s') (hr : appTo es bytes s n new h = .ok (r, h')) :
    ∃ v base sLen sCap, s' = .slice base sLen sCap ∧ r = .value v ∧ ValOf P B w0 φ h (appendRun P e zeros es s' n appended base sLen sCap x') w v h' := by
  obtain ⟨i, z', hi, hiz, hzc⟩ := zero_info hz
  obtain ⟨i2, hi2, hb2⟩ := byOf_info hby
  rw [hi] at hi2; cases hi2
  have hzsz : z'.cells.size = es := by have := (hzc φ).cells.length; simp at this; omega
  unfold appTo at hr
  split at hr
  · -- nil
    cases hs
    · split at hr
      · rename_i h0; subst h0; cases hr
        obtain ⟨vs, hc, hrun⟩ := hsrc.cells w hR
        refine ⟨_, none, 0, 0, rfl, rfl, .pure hR (place_run (w' := w) (Nat.le_refl _) hrun (fun a e => by cases e) (fun _ => rfl)) .nils⟩
      · rename_i h0
        split at hr
        · rename_i hb; cases hr
          obtain ⟨vs, hc, hrun⟩ := hsrc.cells _ hR.drew
          obtain ⟨c, hge, hrun2⟩ := grow_run (zeros := zeros) (es := es) (bytes := bytes) (n := n) (sLen := 0) (sCap := 0) (s := .slice none 0 0) (x := x') (base := none) (oldv := []) hi hiz hb2 (by omega) (by simpa using hb.1) (by simpa using hb.2) rfl hrun
          simp only [Nat.zero_add] at hge hrun2
          obtain ⟨φ', g1, g2, g3⟩ := grown_ok (e := e) (es := es) (m := n) (c := c) (oldl := []) (oldv := []) hR .nil hc (by simpa using hsrc.size) hge hzsz
          exact ⟨_, none, 0, 0, rfl, rfl, _, _, φ', hrun2, g1, g2, g3⟩
        · cases hr
  · rename_i id off ln cap xx es'
    split at hr
    · cases hr
    · rename_i hee
      have hee : es' = es := by simpa using hee
      subst hee
      rw [forceN_eq] at hr
      cases hs with
      | @slice _ _ _ _ c _ _ p ad hp hxx hcc hlc hrm =>
        cases hbm : Nat.ble (ln + n) cap with
        | true =>
          -- there is room
          rw [hbm] at hr
          have hle : ln + n ≤ cap := Nat.le_of_ble_eq_true hbm
          simp only [cond_true] at hr
          split at hr
          · rename_i h2 hst
            cases hr
            obtain ⟨vs, hc, hrun⟩ := hsrc.cells w hR
            obtain ⟨w', hs1, hs2, hs3⟩ := storeN_ok (P := P) hst hR hp hc
            refine ⟨_, some ad, ln, c, rfl, rfl, .slice (some ad) (ln + n) c, w', φ, ?_, .slice hp hxx hcc (by omega) hrm, hs2, hs3⟩
            refine place_run (by omega) hrun (fun a ha => ?_) (fun e => by cases e)
            cases ha
            rcases hrm with hz0 | ⟨_, had⟩
            · have hn0 : n = 0 := by omega
              have : new = [] := List.length_eq_zero_iff.1 (by rw [hsrc.size, hn0]; simp)
              subst this
              cases hc
              cases hst
              simp only [storeCells, Sem.run_pure] at hs1 ⊢
              exact hs1
            · subst had; rw [Addr.add_none, Nat.add_assoc]; exact hs1
          · cases hr
        | false =>
          rw [hbm] at hr
          have hgt : cap < ln + n := by
            rcases Nat.lt_or_ge cap (ln + n) with h | h
            · exact h
            · rw [Nat.ble_eq_true_of_le h] at hbm; cases hbm
          simp only [cond_false] at hr
          split at hr
          · rename_i hb
            split at hr
            · rename_i old hold
              split at hr
              · rename_i hsc
                have hlold := loadN_len hold
                have hm : old.length + new.length = (ln + n) * es' := by rw [hlold, hsrc.size, Nat.add_mul]
                -- what stands in the old cells, in a world
                have hfirst : ∀ w1 : World, Rel B w0 φ h w1 → ∃ ov, ConL φ old ov ∧ (Builtin.firstCells es' ln (.slice (some ad) ln c)).run P w1 = .ok ⟨ov⟩ w1 := by
                  intro w1 hR1
                  obtain ⟨ov, h1, h2, h3⟩ := loadN_ok hold hR1 hp
                  refine ⟨ov, h3, ?_⟩
                  by_cases h0 : ln * es' = 0
                  · have : ov = [] := List.length_eq_zero_iff.1 (by omega)
                    subst this
                    simp [Builtin.firstCells, h0, loadCells, loadCellsFrom]
                  · rcases hrm with hz0 | ⟨_, had⟩
                    · have : ln = 0 := by omega
                      subst this; simp at h0
                    · subst had; exact run_loadCells_at h1 h2
                have hrealloc : c < ln + n → ∀ h1 : AH, Rel B w0 φ h1 w → h1.next = h.next → ∃ c' φ' w2, (appendRun P e zeros es' (.slice (some ad) ln c) n appended (some ad) ln c x').run P w = .ok (.slice (some ⟨w.heap.size, 0, none⟩) (ln + n) c') w2 ∧
                    Con φ' (.slice h.next 0 (ln + n) (ln + n) false es') (.slice (some ⟨w.heap.size, 0, none⟩) (ln + n) c') ∧ Rel B w0 φ' (h1.push (.cells (old ++ new) false)) w2 ∧ Ext φ h1 φ' (h1.push (.cells (old ++ new) false)) := by
                  intro hlt h1 hR1 hn1
                  obtain ⟨vs, hc, hrun⟩ := hsrc.cells _ hR.drew
                  obtain ⟨ov, ho1, ho2⟩ := hfirst _ hR.drew
                  obtain ⟨c', hge, hrun2⟩ := grow_run (zeros := zeros) (es := es') (bytes := bytes) (n := n) (sLen := ln) (sCap := c) (s := .slice (some ad) ln c) (x := x') (base := some ad) hi hiz hb2 hlt hb.1 hb.2 ho2 hrun
                  obtain ⟨φ', g1, g2, g3⟩ := grown_ok (e := e) (es := es') (m := ln + n) (c := c') hR1 ho1 hc hm hge hzsz
                  rw [hn1] at g1
                  exact ⟨c', φ', _, hrun2, g1, g2, g3⟩
                split at hr
                · -- the capacity is known
                  cases hr
                  have hc0 := hxx rfl
                  obtain ⟨c', φ', w2, g1, g2, g3, g4⟩ := hrealloc (by omega) h hR rfl
                  exact ⟨_, some ad, ln, c, rfl, rfl, _, w2, φ', g1, g2, g3, g4⟩
                · split at hr
                  · rename_i ovs hg
                    cases hr
                    by_cases hin : ln + n ≤ c
                    · -- in place
                      rcases hrm with hz0 | ⟨hroom, had⟩
                      · omega
                      · subst had
                        obtain ⟨vs, hc, hrun⟩ := hsrc.cells w hR
                        obtain ⟨ca, ce, lo, hi', k1, k2, k3, k4, k5⟩ := hR.obj _ _ _ hp hg
                        have hlv := hc.length
                        have hnv : vs.length = n * es' := by rw [← hlv]; exact hsrc.size
                        have hmul : (ln + n) * es' ≤ c * es' := Nat.mul_le_mul_right _ hin
                        have hsum : (ln + n) * es' = ln * es' + n * es' := Nat.add_mul _ _ _
                        have hst := run_storeCells_at (P := P) vs (p.off + off + ln * es') 0 w ca k1 (by omega) (fun j ja jb => k5 rfl j (by omega) (by omega)) (allScalar_con hsc hc)
                        obtain ⟨ca', q1, q2, q3⟩ := putCells_heap vs (p.off + off + ln * es') w ca k1
                        have hw' : Rel B w0 φ (h.kill id) (putCells w p.blk (p.off + off + ln * es') vs) := by
                          refine (hR.kill id).world (putCells_below (hR.own _ _ _ hp hg rfl) _ _ _) fun j q oj e1 e2 => putCells_other _ _ _ _ ?_
                          rw [AH.get_kill] at e2
                          split at e2
                          · cases e2
                          · rename_i hj; exact hR.inj _ _ _ _ _ _ hj e1 hp e2 hg (.inr rfl)
                        have hfr : φ h.next = none := hR.fresh
                        have hlay := (hw'.promise (.cells (old ++ new) false)).lay (i := h.next) (p := ⟨p.blk, p.off + off, p.room - off⟩) (o := .cells (old ++ new) false) (Nat.lt_succ_self _) hfr (by rw [AH.get_push, if_pos (show h.next = (h.kill id).next from rfl)]) ?_ ?_ ?_
                        · refine ⟨_, some _, ln, c, rfl, rfl, .slice (some ⟨p.blk, p.off + off, none⟩) (ln + n) c, _, _, ?_, ?_, hlay, ?_⟩
                          · refine place_run hin hrun (fun a ha => ?_) (fun e => by cases e)
                            cases ha
                            rw [Addr.add_none]; exact hst
                          · refine .slice (Phi.set_same _ _ _) (fun e => by cases e) hin hin (.inr ⟨?_, by simp⟩)
                            show 0 + c * es' ≤ p.room - off; omega
                          · exact (Ext.kill hp).trans (Ext.push (hR.kill id) _ _)
                        · refine ⟨ca', ce, lo, hi', q1, ?_, ?_, fun i x hx => ?_, fun _ i ia ib => k5 rfl i ?_ ?_⟩
                          · show (old ++ new).length ≤ p.room - off
                            rw [List.length_append, hm]; omega
                          · show p.off + off + (p.room - off) ≤ ca'.size; omega
                          · show ∃ y, ca'[p.off + off + i]? = some y ∧ _
                            rw [q3]
                            by_cases hi2 : i < ln * es'
                            · rw [List.getElem?_append_left (by omega)] at hx
                              rw [if_neg (by omega)]
                              unfold loadN at hold
                              rw [hg] at hold
                              simp only at hold
                              cases hbb : Nat.ble (off + ln * es') ovs.length with
                              | false => rw [hbb] at hold; cases hold
                              | true =>
                                rw [hbb] at hold; cases hold
                                rw [List.getElem?_take, if_pos hi2, List.getElem?_drop] at hx
                                obtain ⟨y, hy, hcy⟩ := k4 _ _ hx
                                exact ⟨y, by rw [Nat.add_assoc]; exact hy, hcy.mono (Phi.le_set _ hfr)⟩
                            · rw [List.getElem?_append_right (by omega)] at hx
                              obtain ⟨y, hy, hcy⟩ := hc.get _ _ hx
                              have hlt := (List.getElem?_eq_some_iff.1 hy).1
                              refine ⟨y, ?_, hcy.mono (Phi.le_set _ hfr)⟩
                              rw [if_pos (by omega), ← hy]; congr 1; omega
                          · show p.off ≤ i; have : p.off + off ≤ i := ia; omega
                          · have h1 : i < p.off + off + (p.room - off) := ib
                            have h2 : p.off + off ≤ i := ia
                            omega
                        · exact fun _ => (show B ≤ p.blk from hR.own _ p _ hp hg rfl)
                        · intro j q oj e1 e2 _
                          have hne : j ≠ h.next := fun e' => by subst e'; rw [hfr] at e1; cases e1
                          rw [AH.get_push, if_neg (show ¬ j = (h.kill id).next from hne), AH.get_kill] at e2
                          split at e2
                          · cases e2
                          · rename_i hj; exact (show q.blk ≠ p.blk from hR.inj _ _ _ _ _ _ hj e1 hp e2 hg (.inr rfl))
                    · obtain ⟨c', φ', w2, g1, g2, g3, g4⟩ := hrealloc (by omega) (h.kill id) (hR.kill id) rfl
                      exact ⟨_, some ad, ln, c, rfl, rfl, _, w2, φ', g1, g2, g3, (Ext.kill hp).trans g4⟩
                  · cases hr
              · cases hr
            · cases hr
          · cases hr
  · cases hr

end Go.Dr
