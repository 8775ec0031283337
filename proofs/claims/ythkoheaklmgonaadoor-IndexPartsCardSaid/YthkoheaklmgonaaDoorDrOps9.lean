/-
  One operation of the abstract run is the model's: append, copy, joined.
-/
import Derived.Test.YthkoheaklmgonaaDoorDrOps8
namespace Go.Dr
open Go.RowKit

variable {P : Program} {B : Nat} {w0 w : World} {φ : Phi} {h h' : AH}

def isIntD : TypeDesc → Bool
  | .int _ => true
  | _ => false

theorem append_run {t xt ty e : TypeId} {xd : TypeDesc} {es n sLen sCap : Nat} {base : Option Addr} {x' : Value} (ht : und P t = .ok (.slice e)) (hxt : und P xt = .ok xd) (hi : isIntD xd = false) (hs : szOf P e = .ok es) (hn : (Builtin.lenOf x').run P w = .ok n w) :
    (Builtin.append_ #[t, xt] ty #[.slice base sLen sCap, x']).run P w = (appendRun P e (false = true) es (.slice base sLen sCap) n (Builtin.firstCells es n x') base sLen sCap x').run P w := by
  unfold Builtin.append_
  simp only [List.getElem?_toArray, List.getElem?_cons_zero, List.getElem?_cons_succ, Sem.run_bind, run_und ht, Result.andThen_ok, run_szOf hs, run_und hxt, Sem.run_pure]
  cases xd <;> first | (cases hi; done) | (rw [if_neg (by simp), Sem.run_bind, hn]; rfl)

theorem append_runZ {t xt ty e : TypeId} {k k' : IntKind} {i : TypeInfo} {es sLen sCap : Nat} {n : Int} {base : Option Addr} (ht : und P t = .ok (.slice e)) (hxt : und P xt = .ok (.int k)) (hs : szOf P e = .ok es) (hi : P.info? e = some i)
    (h0 : 0 ≤ n) (h1 : n ≤ 2 ^ 40) (h2 : n * i.bytes ≤ 2 ^ 40) :
    (Builtin.append_ #[t, xt] ty #[.slice base sLen sCap, .int k' n]).run P w =
      (appendRun P e True es (.slice base sLen sCap) n.toNat (if n.toNat * es = 0 then pure #[] else do pure (Builtin.zeroCells (← zeroValue e).cells n.toNat)) base sLen sCap (.int k' n)).run P w := by
  have hw : IntKind.i64.wrap n = n := by rw [IntKind.wrap_i64]; omega
  unfold Builtin.append_
  simp only [List.getElem?_toArray, List.getElem?_cons_zero, List.getElem?_cons_succ, Sem.run_bind, run_und ht, Result.andThen_ok, run_szOf hs, run_und hxt, Sem.run_pure]
  have ha : (asInt (.int k' n)).run P w = .ok n w := rfl
  rw [if_pos trivial, Sem.run_bind, ha, Result.andThen_ok, hw]
  rw [if_neg (by omega), Sem.run_bind, run_info hi, Result.andThen_ok]
  rw [if_neg (by omega)]
  rfl

theorem opApp_ok {t xt ty e : TypeId} {xd : TypeDesc} {es bytes : Nat} {s x z : AV} {s' x' : Value} {r : AN} (ht : und P t = .ok (.slice e)) (hxt : und P xt = .ok xd) (hi : isIntD xd = false) (hs : szOf P e = .ok es)
    (hby : byOf P e = .ok bytes) (hz : zeroAV P e = .ok z) (hes : es ≠ 0) (hzl : z.cells.length = es) (hR : Rel B w0 φ h w) (hcs : Con φ s s') (hcx : Con φ x x') (hr : opApp es bytes s x h = .ok (r, h')) :
    ∃ v, r = .value v ∧ ValOf P B w0 φ h (Builtin.append_ #[t, xt] ty #[s', x']) w v h' := by
  unfold opApp at hr
  split at hr
  · rename_i n new hsrc
    have src := srcCells_ok (P := P) (B := B) (w0 := w0) hsrc hcx
    obtain ⟨v, base, sLen, sCap, rfl, rfl, v', w', φ', g1, g2, g3, g4⟩ := appTo_ok (zeros := false = true) (x' := x') hby hz hes hzl src hR hcs hr
    exact ⟨v, rfl, v', w', φ', by rw [append_run ht hxt hi hs (src.len w)]; exact g1, g2, g3, g4⟩
  · cases hr

theorem opAppZ_ok {t xt ty e : TypeId} {k : IntKind} {es bytes : Nat} {s x z : AV} {s' x' : Value} {r : AN} (ht : und P t = .ok (.slice e)) (hxt : und P xt = .ok (.int k)) (hs : szOf P e = .ok es)
    (hby : byOf P e = .ok bytes) (hz : zeroAV P e = .ok z) (hes : es ≠ 0) (hzl : z.cells.length = es) (hR : Rel B w0 φ h w) (hcs : Con φ s s') (hcx : Con φ x x') (hr : opAppZ es bytes z.cells s x h = .ok (r, h')) :
    ∃ v, r = .value v ∧ ValOf P B w0 φ h (Builtin.append_ #[t, xt] ty #[s', x']) w v h' := by
  unfold opAppZ at hr
  split at hr
  · rename_i k' n
    split at hr
    · rename_i hb
      cases hcx
      obtain ⟨i, z', hi, hiz, hzc⟩ := zero_info hz
      obtain ⟨i2, hi2, hb2⟩ := byOf_info hby
      rw [hi] at hi2; cases hi2
      have src : Src P B w0 φ h es n.toNat (repl z.cells n.toNat) (pure n.toNat) (if n.toNat * es = 0 then pure #[] else do pure (Builtin.zeroCells (← zeroValue e).cells n.toNat)) := by
        refine ⟨fun w => rfl, by rw [repl_length, hzl], fun w _ => ?_⟩
        have hc := repl_con (φ := φ) (hzc φ).cells hzl (by omega) n.toNat
        refine ⟨_, hc, ?_⟩
        have hzsz : z'.cells.size = es := by have := (hzc φ).cells.length; simp at this; omega
        split
        · rename_i h0
          have : (Array.range (n.toNat * es)).map (fun x => z'.cells[x % z'.cells.size]!) = #[] := by
            apply Array.ext'; simp [h0]
          rw [this]; rfl
        · simp only [zeroValue, Sem.run_bind, run_info hi, hiz, Result.andThen_ok, Sem.run_pure]
          congr 1
          unfold Builtin.zeroCells
          rw [hzsz]
      obtain ⟨v, base, sLen, sCap, rfl, rfl, v', w', φ', g1, g2, g3, g4⟩ := appTo_ok (zeros := True) (x' := .int k' n) hby hz hes hzl src hR hcs hr
      exact ⟨v, rfl, v', w', φ', by rw [append_runZ ht hxt hs hi hb.1 hb.2.1 (by rw [hb2]; exact hb.2.2)]; exact g1, g2, g3, g4⟩
    · cases hr
  · cases hr

theorem srcTake_ok {es n k : Nat} {x : AV} {x' : Value} {l : List AV} (hr : srcCells h es x = .ok (n, l)) (hx : Con φ x x') (hk : k ≤ n) (hR : Rel B w0 φ h w) :
    ∃ vs : List Value, ConL φ (l.take (k * es)) vs ∧ (Builtin.firstCells es k x').run P w = .ok ⟨vs⟩ w := by
  unfold srcCells at hr
  split at hr
  · cases hr; cases hx
    exact ⟨[], by simpa using ConL.nil, rfl⟩
  · rename_i id off len cap xx es'
    split at hr
    · rename_i hes; subst hes
      split at hr
      · rename_i l0 hl
        cases hr
        cases hx with
        | @slice _ _ _ _ c _ _ p ad hp hxx hc hlc hrm =>
          obtain ⟨vs, hlen, hcells, hcon⟩ := loadN_ok hl hR hp
          refine ⟨vs.take (k * es), hcon.take _, ?_⟩
          have hle : k * es ≤ n * es := Nat.mul_le_mul_right _ hk
          by_cases h0 : k * es = 0
          · simp [Builtin.firstCells, h0, loadCells, loadCellsFrom]
          · rcases hrm with hz | ⟨_, had⟩
            · have : k = 0 := by omega
              subst this; simp at h0
            · subst had
              refine run_loadCells_at (by simp; omega) fun j v hj => ?_
              rw [List.getElem?_take] at hj
              split at hj
              · exact hcells j v hj
              · cases hj
      · cases hr
    · cases hr
  · rename_i s
    split at hr
    · rename_i hes; subst hes
      cases hr; cases hx
      have hc := (bytesAV_con (φ := φ) s).take (k * 1)
      rw [Nat.mul_one] at hc ⊢
      refine ⟨_, hc, ?_⟩
      have := Lib.extract_data ⟨⟨s⟩⟩ 0 k
      show Result.ok _ w = _
      cases e : (⟨⟨s⟩⟩ : ByteArray).extract 0 k with
      | mk d => rw [e] at this; rcases d with ⟨d⟩; simp at this; subst this; simp
    · cases hr
  · cases hr

theorem opCopy_ok {t xt ty e : TypeId} {es : Nat} {d s : AV} {d' s' : Value} {r : AN} (ht : und P t = .ok (.slice e)) (hs : szOf P e = .ok es) (hR : Rel B w0 φ h w) (hcd : Con φ d d') (hcs : Con φ s s') (hr : opCopy es d s h = .ok (r, h')) :
    ∃ v, r = .value v ∧ ValOf P B w0 φ h (Builtin.copy_ #[t, xt] ty #[d', s']) w v h' := by
  unfold opCopy at hr
  split at hr
  · rename_i n l hsrc
    split at hr
    · cases hr
      cases hcd
      have src := srcCells_ok (P := P) (B := B) (w0 := w0) hsrc hcs
      refine ⟨_, rfl, .pure hR (v' := .int .i64 0) ?_ (.int _ _)⟩
      have hf : (Builtin.firstCells es 0 s').run P w = .ok #[] w := by
        obtain ⟨vs, hc, hrun⟩ := srcTake_ok (P := P) hsrc hcs (Nat.zero_le _) hR
        simp only [Nat.zero_mul, List.take_zero] at hc
        cases hc
        exact hrun
      unfold Builtin.copy_
      simp only [List.getElem?_toArray, List.getElem?_cons_zero, List.getElem?_cons_succ, Sem.run_bind, run_und ht, Result.andThen_ok, src.len w, Sem.run_pure, run_szOf hs, Nat.min_zero]
      rw [hf]
      rfl
    · rename_i id off len cap xx es'
      split at hr
      · rename_i hee; subst hee
        split at hr
        · rename_i h2 hst
          cases hr
          cases hcd with
          | @slice _ _ _ _ c _ _ p ad hp hxx hcc hlc hrm =>
            -- the first cells of the source
            have hfirst : ∃ vs, ConL φ (l.take (min n len * es)) vs ∧ (Builtin.lenOf s').run P w = .ok n w ∧ (Builtin.firstCells es (Nat.min n len) s').run P w = .ok ⟨vs⟩ w := by
              have src := srcCells_ok (P := P) (B := B) (w0 := w0) hsrc hcs
              obtain ⟨vs, hc, hrun⟩ := srcTake_ok (P := P) (k := min n len) hsrc hcs (Nat.min_le_left _ _) hR
              exact ⟨vs, hc, src.len w, hrun⟩
            obtain ⟨vs, hc, hl1, hrun⟩ := hfirst
            obtain ⟨w', hs1, hs2, hs3⟩ := storeN_ok (P := P) hst hR hp hc
            refine ⟨_, rfl, .int .i64 (Nat.min n len : Nat), w', φ, ?_, .int _ _, hs2, hs3⟩
            unfold Builtin.copy_
            simp only [List.getElem?_toArray, List.getElem?_cons_zero, List.getElem?_cons_succ, Sem.run_bind, run_und ht, Result.andThen_ok, hl1, Sem.run_pure, run_szOf hs, hrun]
            have hst2 : (storeCells ad vs).run P w = .ok () w' := by
              rcases hrm with hz0 | ⟨_, had⟩
              · have : len = 0 := by omega
                subst this
                have h0 : l.take (min n 0 * es) = [] := by simp
                rw [h0] at hc hst
                cases hc; cases hst
                exact hs1
              · subst had; exact hs1
            rw [hst2]; rfl
        · cases hr
      · cases hr
    · cases hr
  · cases hr

end Go.Dr
