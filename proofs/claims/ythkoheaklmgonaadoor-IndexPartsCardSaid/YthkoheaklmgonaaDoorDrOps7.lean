/-
  One operation of the abstract run is the model's: what is made, append, copy.
-/
import Derived.Test.YthkoheaklmgonaaDoorDrOps6
namespace Go.Dr
open Go.RowKit

variable {P : Program} {B : Nat} {w0 w : World} {φ : Phi} {h h' : AH}

/-! #### zeros -/

theorem repl_length (z : List AV) : ∀ n, (repl z n).length = n * z.length
  | 0 => by simp [repl]
  | n + 1 => by simp [repl, repl_length z n, Nat.add_mul, Nat.add_comm]

theorem repl_get (z : List AV) (k : Nat) (hk : z.length = k) : ∀ n i, i < n * k → (repl z n)[i]? = z[i % k]?
  | 0, i, hi => by omega
  | n + 1, i, hi => by
    unfold repl
    by_cases h1 : i < k
    · rw [List.getElem?_append_left (by omega), Nat.mod_eq_of_lt h1]
    · rw [List.getElem?_append_right (by omega), hk, repl_get z k hk n _ (by rw [Nat.add_mul] at hi; omega)]
      congr 1
      rw [show i % k = ((i - k) + k) % k from by congr 1; omega, Nat.add_mod_right]

theorem repl_con {z : List AV} {z' : Array Value} {k : Nat} (hz : ConL φ z z'.toList) (hk : z.length = k) (hk0 : 0 < k) (n : Nat) :
    ConL φ (repl z n) ((Array.range (n * k)).map (z'[· % z'.size]!)).toList := by
  have hzl : z'.size = k := by have := hz.length; simp at this; omega
  refine ConL.of_get (by rw [repl_length]; simp [hk]) fun i x hx => ?_
  have hlt : i < n * k := by
    have := (List.getElem?_eq_some_iff.1 hx).1
    rw [repl_length, hk] at this; exact this
  rw [repl_get z k hk n i hlt] at hx
  obtain ⟨y, hy, hc⟩ := hz.get _ _ hx
  refine ⟨y, ?_, hc⟩
  have hm : i % k < z'.size := by rw [hzl]; exact Nat.mod_lt _ hk0
  rw [Array.getElem?_toList] at hy
  simp only [Array.toList_map, Array.toList_range, List.getElem?_map, List.getElem?_range hlt, Option.map_some]
  rw [hzl, getElem!_pos z' (i % k) hm, Option.some.injEq]
  rw [Array.getElem?_eq_getElem hm] at hy
  exact Option.some.inj hy

theorem opMkS_ok {t e : TypeId} {es bytes : Nat} {z l c : AV} {l' c' : Value} {n : AN} (ht : und P t = .ok (.slice e)) (hs : szOf P e = .ok es) (hby : byOf P e = .ok bytes) (hz : zeroAV P e = .ok z) (hes : es ≠ 0) (hzl : z.cells.length = es)
    (hr : opMkS es bytes z.cells l c h = .ok (n, h')) (hl : Con φ l l') (hc : Con φ c c') (hR : Rel B w0 φ h w) : ∃ v, n = .value v ∧ ValOf P B w0 φ h (Instr.makeSlice t l' c') w v h' := by
  unfold opMkS at hr
  split at hr
  · rename_i kl l kc c
    split at hr
    · rename_i hb; cases hr
      cases hl; cases hc
      obtain ⟨i, z', hi, hiz, hzc⟩ := zero_info hz
      obtain ⟨i2, hi2, rfl⟩ := szOf_info hs
      rw [hi] at hi2; cases hi2
      obtain ⟨i3, hi3, rfl⟩ := byOf_info hby
      rw [hi] at hi3; cases hi3
      obtain ⟨b1, b2, b3, b4⟩ := hb
      have hrun := run_make (P := P) w t e i z' (und_eq ht) hi hiz kl kc l c b1 b2 (by omega) (by omega)
      have hcon := repl_con (φ := φ) (hzc φ).cells hzl (by omega) c.toNat
      have hp := push_cells0 (e := e) hR hcon
      refine ⟨_, rfl, _, _, _, hrun, ?_, hp, Ext.push hR _ _⟩
      refine .slice (Phi.set_same _ _ _) (fun _ => rfl) (Nat.le_refl _) (by omega) (.inr ⟨?_, by simp⟩)
      simp
    · cases hr
  · cases hr

/-! #### parts -/

theorem zipIdx_set : ∀ (vs : List Value) (off j : Nat) (cs : Array Value), off + j + vs.length ≤ cs.size →
    (vs.zipIdx j).foldl (fun cs (p : Value × Nat) => cs.setIfInBounds (off + p.2) p.1) cs = ⟨cs.toList.take (off + j) ++ (vs ++ cs.toList.drop (off + j + vs.length))⟩
  | [], off, j, cs, _ => by apply Array.ext'; simp
  | v :: vs, off, j, cs, hle => by
    rw [List.zipIdx_cons, List.foldl_cons, show off + j + (v :: vs).length = off + (j + 1) + vs.length from by simp; omega]
    rw [zipIdx_set vs off (j + 1) _ (by simp at hle ⊢; omega)]
    apply Array.ext'
    simp only [Array.toList_setIfInBounds]
    simp only [List.length_cons] at hle
    have hlt : off + j < cs.toList.length := by simp; omega
    rw [← Nat.add_assoc, List.take_set, List.drop_set_of_lt (by omega)]
    rw [List.take_succ_eq_append_getElem (by omega)]
    rw [List.set_append, if_neg (by simp; omega)]
    have e1 : off + j - (cs.toList.take (off + j)).length = 0 := by simp; omega
    rw [e1]
    simp [List.append_assoc]

theorem fillA_ok {place : Nat → Option (Nat × Nat)} {a : AAct} {tm : Array Value} {ds : List Deferred} (hG : GlobRel P φ) (hA : ActRel φ a tm) : ∀ {parts : List (Nat × Operand)} {pl : List (Nat × Nat × CO)} {cells l : List AV} {cells' : List Value},
    placed P place parts = .ok pl → fillA a cells pl = .ok l → ConL φ cells cells' → ∃ l', Instr.fill place ⟨cells'⟩ (parts.map fun (i, x) => (i, Act.eval ⟨tm, ds⟩ x)) = some ⟨l'⟩ ∧ ConL φ l l'
  | [], pl, cells, l, cells', hp, hf, hc => by cases hp; cases hf; exact ⟨cells', rfl, hc⟩
  | (i, x) :: parts, pl, cells, l, cells', hp, hf, hc => by
    unfold placed at hp
    split at hp
    · rename_i off size hpl
      split at hp
      · rename_i c hcx
        split at hp
        · rename_i r hr
          cases hp
          have hcv := cO_con (ds := ds) hcx hG hA
          unfold fillA at hf
          simp only at hf
          cases hb : (Nat.beq (c.ev a).cells.length size && Nat.ble (off + (c.ev a).cells.length) cells.length) with
          | false => rw [hb] at hf; cases hf
          | true =>
            rw [hb] at hf
            rw [Bool.and_eq_true] at hb
            have h1 := Nat.eq_of_beq_eq_true hb.1
            have h2 := Nat.le_of_ble_eq_true hb.2
            have hlen := hcv.cells.length
            have hlc := hc.length
            simp only [Array.length_toList] at hlen
            have hcon : ConL φ (splice cells off (c.ev a).cells) (cells'.take off ++ ((Act.eval ⟨tm, ds⟩ x).cells.toList ++ cells'.drop (off + (Act.eval ⟨tm, ds⟩ x).cells.toList.length))) := by
              unfold splice
              refine (hc.take off).append (hcv.cells.append ?_)
              rw [hcv.cells.length]; exact hc.drop _
            obtain ⟨l', g1, g2⟩ := fillA_ok hG hA hr hf hcon
            refine ⟨l', ?_, g2⟩
            simp only [List.map_cons, Instr.fill, hpl]
            rw [if_neg (by simp; constructor <;> omega)]
            have hz := zipIdx_set (Act.eval ⟨tm, ds⟩ x).cells.toList off 0 ⟨cells'⟩ (by simp; omega)
            simp only [Nat.add_zero] at hz
            rw [← g1]
            congr 1
            rw [← hz, ← Array.foldl_toList]
            simp [Array.toList_zipIdx]
        · cases hp
      · cases hp
    · cases hp

theorem fieldPlaces_ok : ∀ {l : List Field} {pl : List (Nat × Nat)}, fieldPlaces P l = .ok pl → (l.mapM fun (f : Field) => do pure (f.offset, ← sizeOf f.type)).run P w = .ok pl w
  | [], pl, hp => by cases hp; simp
  | f :: l, pl, hp => by
    unfold fieldPlaces at hp
    split at hp
    · rename_i n hn
      split at hp
      · rename_i r hr; cases hp
        simp only [List.mapM_cons, Sem.run_bind, run_szOf hn, Result.andThen_ok, Sem.run_pure, fieldPlaces_ok hr]
      · cases hp
    · cases hp

theorem build_ok {t : TypeId} {fields : Array Field} {z v : AV} {pl : List (Nat × Nat)} {parts : Array (Nat × Operand)} {q : List (Nat × Nat × CO)} {a : AAct} {tm : Array Value} {ds : List Deferred} (hG : GlobRel P φ) (hA : ActRel φ a tm)
    (ht : und P t = .ok (.struct fields)) (hz : zeroAV P t = .ok z) (hpl : fieldPlaces P fields.toList = .ok pl) (hq : placed P (pl[·]?) parts.toList = .ok q) (hr : opBuild z.cells q a = .ok v) :
    ∃ v', (Instr.build t (parts.map fun (i, x) => (i, Act.eval ⟨tm, ds⟩ x))).run P w = .ok v' w ∧ Con φ v v' := by
  unfold opBuild at hr
  split at hr
  · rename_i l hl; cases hr
    obtain ⟨z', hz1, hz2⟩ := run_zero (P := P) (w := w) hz
    have hcz := (hz2 φ).cells
    obtain ⟨l', g1, g2⟩ := fillA_ok (ds := ds) hG hA hq hl hcz
    refine ⟨.agg ⟨l'⟩, ?_, .agg g2⟩
    have hm := fieldPlaces_ok (w := w) hpl
    have hmm : (fields.mapM fun (f : Field) => do pure (f.offset, ← sizeOf f.type)).run P w = .ok ⟨pl⟩ w := by
      rw [Array.mapM_eq_mapM_toList, Sem.run_map, hm]; rfl
    have e : (fun (i : Nat) => (⟨pl⟩ : Array (Nat × Nat))[i]?) = fun (i : Nat) => pl[i]? := by funext i; simp
    simp only [Instr.build, Sem.run_bind, hz1, Result.andThen_ok, run_und ht, hmm, e, Array.toList_map]
    simp only [g1, Sem.run_pure]
  · cases hr

theorem buildA_ok {t e : TypeId} {n size : Nat} {z v : AV} {parts : Array (Nat × Operand)} {q : List (Nat × Nat × CO)} {a : AAct} {tm : Array Value} {ds : List Deferred} (hG : GlobRel P φ) (hA : ActRel φ a tm)
    (ht : und P t = .ok (.array n e)) (hz : zeroAV P t = .ok z) (hs : szOf P e = .ok size) (hq : placed P (fun i => some (i * size, size)) parts.toList = .ok q) (hr : opBuild z.cells q a = .ok v) :
    ∃ v', (Instr.build t (parts.map fun (i, x) => (i, Act.eval ⟨tm, ds⟩ x))).run P w = .ok v' w ∧ Con φ v v' := by
  unfold opBuild at hr
  split at hr
  · rename_i l hl; cases hr
    obtain ⟨z', hz1, hz2⟩ := run_zero (P := P) (w := w) hz
    have hcz := (hz2 φ).cells
    obtain ⟨l', g1, g2⟩ := fillA_ok (ds := ds) hG hA hq hl hcz
    refine ⟨.agg ⟨l'⟩, ?_, .agg g2⟩
    simp only [Instr.build, Sem.run_bind, hz1, Result.andThen_ok, run_und ht, run_szOf hs, Array.toList_map]
    simp only [g1, Sem.run_pure]
  · cases hr

theorem buildSlice_ok {t e : TypeId} {len es : Nat} {z : AV} {n : AN} {parts : Array (Nat × Operand)} {q : List (Nat × Nat × CO)} {a : AAct} {tm : Array Value} {ds : List Deferred} (hG : GlobRel P φ) (hA : ActRel φ a tm) (hR : Rel B w0 φ h w)
    (ht : und P t = .ok (.slice e)) (hz : zeroAV P e = .ok z) (hs : szOf P e = .ok es) (hle : ¬ len * es > 2 ^ 24) (hes : es ≠ 0) (hzl : z.cells.length = es) (hq : placed P (fun i => some (i * es, es)) parts.toList = .ok q)
    (hr : opBuildSlice len es (repl z.cells len) q a h = .ok (n, h')) :
    ∃ v, n = .value v ∧ ValOf P B w0 φ h (Instr.buildSlice t len (parts.map fun (i, x) => (i, Act.eval ⟨tm, ds⟩ x))) w v h' := by
  unfold opBuildSlice at hr
  split at hr
  · rename_i l hl; cases hr
    obtain ⟨z', hz1, hz2⟩ := run_zero (P := P) (w := w) hz
    have hcz := repl_con (φ := φ) (hz2 φ).cells hzl (by omega) len
    have hcz' : ConL φ (repl z.cells len) ((Array.range (len * es)).map (z'.cells[· % z'.cells.size]!)).toList := hcz
    obtain ⟨l', g1, g2⟩ := fillA_ok (ds := ds) hG hA hq hl hcz'
    have hp := push_cells0 (e := e) hR g2
    have hlen : l'.length = len * es := by
      have := g2.length
      have h2 : l.length = (repl z.cells len).length := by
        clear hp g1 g2 hcz hcz' this
        have key : ∀ {q : List (Nat × Nat × CO)} {c l : List AV}, fillA a c q = .ok l → l.length = c.length := by
          intro q
          induction q with
          | nil => intro c l h; cases h; rfl
          | cons x q ih =>
            intro c l h
            rcases x with ⟨off, size, x⟩
            unfold fillA at h
            simp only at h
            cases hb : (Nat.beq (x.ev a).cells.length size && Nat.ble (off + (x.ev a).cells.length) c.length) with
            | false => rw [hb] at h; cases h
            | true =>
              rw [hb] at h
              rw [Bool.and_eq_true] at hb
              rw [ih h, splice_length _ _ _ (Nat.le_of_ble_eq_true hb.2)]
        exact key hl
      rw [repl_length, hzl] at h2; omega
    refine ⟨_, rfl, .slice (some ⟨w.heap.size, 0, none⟩) len len, _, _, ?_, ?_, hp, Ext.push hR _ _⟩
    · simp only [Instr.buildSlice, Sem.run_bind, run_und ht, Result.andThen_ok, run_szOf hs]
      rw [if_neg hle]
      by_cases h0 : len * es = 0
      · rw [if_pos h0]
        have hl0 : len = 0 := by
          rcases Nat.mul_eq_zero.1 h0 with h | h
          · exact h
          · exact absurd h hes
        subst hl0
        simp only [Sem.run_bind, Sem.run_pure, Result.andThen_ok, Array.toList_map]
        have e1 : (Array.range (0 * es)).map (fun x => (#[] : Array Value)[x % (#[] : Array Value).size]!) = (⟨((Array.range (0 * es)).map (z'.cells[· % z'.cells.size]!)).toList⟩ : Array Value) := by
          apply Array.ext'; simp
        rw [e1]
        simp only [g1]
        simp [newRow]
      · rw [if_neg h0]
        simp only [Sem.run_bind, hz1, Result.andThen_ok, Sem.run_pure, Array.toList_map]
        have e1 : (Array.range (len * es)).map (fun x => z'.cells[x % z'.cells.size]!) = (⟨((Array.range (len * es)).map (z'.cells[· % z'.cells.size]!)).toList⟩ : Array Value) := by
          apply Array.ext'; simp
        rw [e1]
        simp only [g1]
        simp [newRow]
    · refine .slice (Phi.set_same _ _ _) (fun _ => rfl) (Nat.le_refl _) (Nat.le_refl _) (.inr ⟨?_, by simp⟩)
      show 0 + len * es ≤ l'.length; omega
  · cases hr

end Go.Dr
