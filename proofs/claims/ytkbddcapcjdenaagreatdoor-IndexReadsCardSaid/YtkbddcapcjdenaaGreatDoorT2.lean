/-
  Texts joined: DrOps11, DrOps12, DrOps13, DrOps14, DrCode, DrCode2, DrCode3, DrCode4, DrDraw1, DrDraw2, DrDraw3, DrDraw4, DrDraw5, DrDraw6, DrDraw7, DrDraw8, DrJoin, DrMono.
-/
import Derived.Test.YtkbddcapcjdenaaGreatDoorT1
import Derived.RangeFuncIn
import Derived.Orders
import Derived.ProofKit

/-
  One operation of the abstract run is the model's: entries, ranges, interfaces.
-/
namespace Go.Dr
open Go.RowKit

variable {P : Program} {B : Nat} {w0 w : World} {φ : Phi} {h h' : AH}

theorem findBorn_ok {b : Int} : ∀ {l : List AEntry} {es : List MapEntry} {i k : Nat}, ConE φ l es → findBorn b l k = some i → es.findIdx? (fun e => (e.born : Int) == b) = some (i - k) ∧ k ≤ i
  | _, _, i, k, .nil, h => by cases h
  | e :: l, e' :: es, i, k, .cons _ _ hb t, h => by
    unfold findBorn at h
    rw [List.findIdx?_cons, hb]
    cases hc : ((e.born : Int) == b) with
    | true => rw [hc] at h; cases h; simp
    | false =>
      rw [hc] at h
      obtain ⟨h1, h2⟩ := findBorn_ok t h
      simp only [Bool.false_eq_true, if_false, h1, Option.map_some]
      exact ⟨by congr 1; omega, by omega⟩

theorem opEntryStore_ok {t : TypeId} {m s v : AV} {m' s' v' : Value} (hR : Rel B w0 φ h w) (hm : Con φ m m') (hs : Con φ s s') (hv : Con φ v v') (hr : opEntryStore h m s v = .ok h') :
    ∃ w', (Instr.entryStore t m' s' v').run P w = .ok () w' ∧ Rel B w0 φ h' w' ∧ Ext φ h φ h' := by
  unfold opEntryStore at hr
  split at hr
  · rename_i id _ b
    split at hr
    · rename_i l clock hg
      split at hr
      · rename_i i hi
        cases hr
        cases hs
        cases hm with
        | map hp =>
          obtain ⟨es, g1, g2⟩ := hR.obj _ _ _ hp hg
          obtain ⟨h1, h2⟩ := findBorn_ok g2 hi
          have h1' : (⟨es⟩ : Array MapEntry).findIdx? (fun e => (e.born : Int) == b) = some i := by
            rw [← List.findIdx?_toArray] at h1; simpa using h1
          refine ⟨_, ?_, setMap_ok hR hp hg g1 (g2.setVal hv), .write hp _⟩
          have ha : ∀ k, (asInt (.int k b)).run P w = .ok b w := fun _ => rfl
          simp only [Instr.entryStore, Sem.run_bind, run_getMap g1, Result.andThen_ok, ha, h1', modify_eq]
          exact run_setMap _ g1
      · cases hr
    · cases hr
  · cases hr

theorem opClear_ok {t e ty : TypeId} {es : Nat} {z x : AV} {x' : Value} {r : AN} (ht : und P t = .ok (.slice e)) (hz : zeroAV P e = .ok z) (hzl : z.cells.length = es) (hes : es ≠ 0) (hR : Rel B w0 φ h w) (hx : Con φ x x')
    (hr : opClear es z.cells x h = .ok (r, h')) : ∃ v, r = .value v ∧ ValOf P B w0 φ h (Builtin.clear_ #[t] ty #[x']) w v h' := by
  unfold opClear at hr
  split at hr
  · cases hr; cases hx
    refine ⟨_, rfl, .pure hR (v' := .tuple #[]) ?_ (.tuple .nil)⟩
    unfold Builtin.clear_
    simp only [List.getElem?_toArray, List.getElem?_cons_zero, Sem.run_bind, run_und ht, Result.andThen_ok, Sem.run_pure]
  · rename_i id off len cap xx es'
    split at hr
    · rename_i he
      subst he
      cases hx with
      | @slice _ _ _ _ c _ _ p ad hp hxx hc hlc hrm =>
        split at hr
        · rename_i h0
          subst h0
          cases hr
          refine ⟨_, rfl, .pure hR (v' := .tuple #[]) ?_ (.tuple .nil)⟩
          unfold Builtin.clear_
          simp only [List.getElem?_toArray, List.getElem?_cons_zero, Sem.run_bind, run_und ht, Result.andThen_ok, Sem.run_pure]
        · rename_i h0
          split at hr
          · rename_i h1 hst
            cases hr
            rcases hrm with hz0 | ⟨_, rfl⟩
            · omega
            obtain ⟨i, z', hi, hiz, hzc⟩ := zero_info hz
            have hcz := repl_con (φ := φ) (hzc φ).cells hzl (by omega) len
            have hzsz : z'.cells.size = es' := by have := (hzc φ).cells.length; simp at this; omega
            rw [← hzsz] at hcz
            obtain ⟨w', g1, g2, g3⟩ := storeN_ok (P := P) hst hR hp hcz
            refine ⟨_, rfl, .tuple #[], w', φ, ?_, .tuple .nil, g2, g3⟩
            unfold Builtin.clear_
            obtain ⟨n, rfl⟩ : ∃ n, len = n + 1 := ⟨len - 1, by omega⟩
            simp only [List.getElem?_toArray, List.getElem?_cons_zero, Sem.run_bind, run_und ht, Result.andThen_ok, zeroValue, run_info hi, hiz, Sem.run_pure, Builtin.zeroCells]
            rw [hzsz] at g1 ⊢
            rw [g1]
            rfl
          · cases hr
    · cases hr
  · cases hr

theorem opDelete_ok {t kt et xt ty : TypeId} {m k : AV} {m' k' : Value} {r : AN} (ht : und P t = .ok (.map kt et)) (hR : Rel B w0 φ h w) (hm : Con φ m m') (hk : Con φ k k') (hr : opDelete P kt m k h = .ok (r, h')) :
    ∃ v, r = .value v ∧ ValOf P B w0 φ h (Builtin.delete_ #[t, xt] ty #[m', k']) w v h' := by
  unfold opDelete at hr
  split at hr
  · split at hr
    · rename_i hko
      cases hr; cases hm
      have hck := keyOk_ok (P := P) (w := w) (empty := true) (show 10 ≤ 10000 from by decide) hko hk
      refine ⟨_, rfl, .pure hR (v' := .tuple #[]) ?_ (.tuple .nil)⟩
      unfold Builtin.delete_
      simp only [List.getElem?_toArray, List.getElem?_cons_zero, List.getElem?_cons_succ, Sem.run_bind, run_und ht, Result.andThen_ok, hck, Sem.run_pure]
    · cases hr
  · split at hr
    · rename_i l clock hg
      split at hr
      · rename_i hko
        obtain ⟨kind, hkind⟩ := keyOk_und hko
        cases hm with
        | @map _ p hp =>
          obtain ⟨es, g1, g2⟩ := hR.obj _ _ _ hp hg
          have hck := keyOk_ok (P := P) (w := w) (empty := (⟨es⟩ : Array MapEntry).isEmpty) (show 10 ≤ 10000 from by decide) hko hk
          split at hr
          · rename_i i v0 hf
            obtain ⟨r', h1, h2⟩ := findKey_ok (w := w) hkind hk hf g2
            cases h2 with
            | some h2 =>
              cases hr
              refine ⟨_, rfl, .tuple #[], _, φ, ?_, .tuple .nil, setMap_ok hR hp hg g1 g2.erase, .write hp _⟩
              have he : (⟨es⟩ : Array MapEntry).eraseIdxIfInBounds i = ⟨es.eraseIdx i⟩ := by apply Array.ext'; simp
              unfold Builtin.delete_
              simp only [List.getElem?_toArray, List.getElem?_cons_zero, List.getElem?_cons_succ, Sem.run_bind, run_und ht, Result.andThen_ok, run_getMap g1, hck, h1, he]
              rw [run_setMap _ g1]
              simp
          · rename_i hf
            obtain ⟨r', h1, h2⟩ := findKey_ok (w := w) hkind hk hf g2
            cases h2
            cases hr
            have hsame : Rel B w0 φ h (w.putObj p.blk (.map ⟨es⟩ clock)) := hR.world (World.putObj_below (hR.own _ _ _ hp hg rfl) _) fun j q oj e1 e2 => by
              by_cases hq : q.blk = p.blk
              · rw [hq, World.putObj_heap_same (Array.getElem?_eq_some_iff.1 g1).1, g1]
              · exact World.putObj_heap_other hq
            refine ⟨_, rfl, .tuple #[], _, φ, ?_, .tuple .nil, hsame, .refl _ _⟩
            unfold Builtin.delete_
            simp only [List.getElem?_toArray, List.getElem?_cons_zero, List.getElem?_cons_succ, Sem.run_bind, run_und ht, Result.andThen_ok, run_getMap g1, hck, h1]
            rw [run_setMap _ g1]
            simp
          · cases hr
      · cases hr
    · cases hr
  · cases hr

theorem opLenM_ok {t kt et ty : TypeId} {x v : AV} {x' : Value} (ht : und P t = .ok (.map kt et)) (hR : Rel B w0 φ h w) (hx : Con φ x x') (hr : opLenM h x = .ok v) : ∃ v', (Builtin.len_ #[t] ty #[x']).run P w = .ok v' w ∧ Con φ v v' := by
  unfold opLenM at hr
  split at hr
  · cases hr; cases hx
    exact ⟨.int .i64 0, by simp only [Builtin.len_, List.getElem?_toArray, List.getElem?_cons_zero, Sem.run_bind, run_und ht, Result.andThen_ok]; rfl, .int _ _⟩
  · split at hr
    · rename_i l clock hg; cases hr
      cases hx with
      | map hp =>
        obtain ⟨es, g1, g2⟩ := hR.obj _ _ _ hp hg
        have hlen : es.length = l.length := by
          clear hg g1
          induction g2 with
          | nil => rfl
          | cons _ _ _ _ ih => simp [ih]
        refine ⟨.int .i64 l.length, ?_, .int _ _⟩
        simp only [Builtin.len_, List.getElem?_toArray, List.getElem?_cons_zero, Sem.run_bind, run_und ht, Result.andThen_ok, run_getMap g1]
        simp [goInt, hlen]
    · cases hr
  · cases hr

theorem opLenS_ok {t ty : TypeId} {x v : AV} {x' : Value} (ht : und P t = .ok .string) (hx : Con φ x x') (hr : opLenS x = .ok v) : ∃ v', (Builtin.len_ #[t] ty #[x']).run P w = .ok v' w ∧ Con φ v v' := by
  unfold opLenS at hr
  split at hr
  · cases hr; cases hx
    exact ⟨_, by simp only [Builtin.len_, List.getElem?_toArray, List.getElem?_cons_zero, Sem.run_bind, run_und ht, Result.andThen_ok]; rfl, .int _ _⟩
  · cases hr

theorem opLenV_ok {t e ty : TypeId} {x v : AV} {x' : Value} (ht : und P t = .ok (.slice e)) (hx : Con φ x x') (hr : opLenV x = .ok v) : ∃ v', (Builtin.len_ #[t] ty #[x']).run P w = .ok v' w ∧ Con φ v v' := by
  unfold opLenV at hr
  split at hr
  · cases hr; cases hx
    exact ⟨_, by simp only [Builtin.len_, List.getElem?_toArray, List.getElem?_cons_zero, Sem.run_bind, run_und ht, Result.andThen_ok]; rfl, .int _ _⟩
  · cases hr; cases hx
    exact ⟨_, by simp only [Builtin.len_, List.getElem?_toArray, List.getElem?_cons_zero, Sem.run_bind, run_und ht, Result.andThen_ok]; rfl, .int _ _⟩
  · cases hr

theorem opCapV_ok {t e ty : TypeId} {x v : AV} {x' : Value} (ht : und P t = .ok (.slice e)) (hx : Con φ x x') (hr : opCapV x = .ok v) : ∃ v', (Builtin.cap_ #[t] ty #[x']).run P w = .ok v' w ∧ Con φ v v' := by
  unfold opCapV at hr
  split at hr
  · cases hr; cases hx
    exact ⟨_, by simp only [Builtin.cap_, List.getElem?_toArray, List.getElem?_cons_zero, Sem.run_bind, run_und ht, Result.andThen_ok]; rfl, .int _ _⟩
  · cases hr
    cases hx with
    | slice hp hxx hc hl hr =>
      have := hxx rfl
      subst this
      exact ⟨_, by simp only [Builtin.cap_, List.getElem?_toArray, List.getElem?_cons_zero, Sem.run_bind, run_und ht, Result.andThen_ok]; rfl, .int _ _⟩
  · cases hr

/-! #### ranges -/

theorem push_obj {o : AObj} {O : Obj} (hR : Rel B w0 φ h w) (ho : ObjRel (φ.set h.next ⟨w.heap.size, 0, 0⟩) (w.alloc O) ⟨w.heap.size, 0, 0⟩ o) {s : Sem Value} (hs : s.run P w = .ok (.pointer (some ⟨w.heap.size, 0, none⟩)) (w.alloc O)) :
    ValOf P B w0 φ h s w (.ptr h.next 0) (h.push o) :=
  ⟨_, _, _, hs, Con.ptr (off := 0) (Phi.set_same _ _ _), hR.push ho, Ext.push hR _ _⟩

theorem alloc_new (w : World) (O : Obj) : (w.alloc O).heap[w.heap.size]? = some O := by show (w.heap.push _)[_]? = _; simp

theorem opRangeS_ok {t : TypeId} {x : AV} {x' : Value} {r : AN} (ht : und P t = .ok .string) (hR : Rel B w0 φ h w) (hx : Con φ x x') (hr : opRangeS h x = .ok (r, h')) : ∃ v, r = .value v ∧ ValOf P B w0 φ h (Instr.range t x') w v h' := by
  unfold opRangeS at hr
  split at hr
  · rename_i s; cases hr; cases hx
    refine ⟨_, rfl, push_obj (o := .siter s 0) (O := .stringIter ⟨⟨s⟩⟩ 0) hR ⟨rfl, alloc_new _ _⟩ ?_⟩
    simp only [Instr.range, Sem.run_bind, run_und ht, Result.andThen_ok, Sem.run_pure, run_newObj]
    rfl
  · cases hr

theorem opRangeM_ok {t kt et : TypeId} {x : AV} {x' : Value} {r : AN} (ht : und P t = .ok (.map kt et)) (hR : Rel B w0 φ h w) (hx : Con φ x x') (hr : opRangeM h x = .ok (r, h')) : ∃ v, r = .value v ∧ ValOf P B w0 φ h (Instr.range t x') w v h' := by
  unfold opRangeM at hr
  split at hr
  · cases hr; cases hx
    refine ⟨_, rfl, push_obj (o := .miter none 0 [] 0) (O := .mapIter none 0 #[] 0) hR ⟨rfl, none, alloc_new _ _, rfl⟩ ?_⟩
    simp only [Instr.range, Sem.run_bind, run_und ht, Result.andThen_ok, Sem.run_pure, run_newObj]
    rfl
  · rename_i m
    split at hr
    · rename_i l clock hg
      cases hr
      cases hx with
      | @map _ p hp =>
        obtain ⟨es, g1, g2⟩ := hR.obj _ _ _ hp hg
        refine ⟨_, rfl, push_obj (o := .miter (some m) clock [] clock) (O := .mapIter (some p.blk) clock #[] clock) hR ⟨rfl, some p.blk, alloc_new _ _, p, Phi.le_set _ hR.fresh _ _ hp, rfl⟩ ?_⟩
        simp only [Instr.range, Sem.run_bind, run_und ht, Result.andThen_ok, Sem.run_pure, run_newObj, run_getMap g1]
        rfl
    · cases hr
  · cases hr

theorem opNextS_ok {ty : TypeId} {id : Nat} {p : Pl} {r : AN} (hR : Rel B w0 φ h w) (hp : φ id = some p) (hr : nextS h id = .ok (r, h')) :
    ∃ v, r = .value v ∧ ValOf P B w0 φ h (Instr.next (.pointer (some ⟨p.blk, 0, none⟩)) true ty) w v h' := by
  unfold nextS at hr
  split at hr
  · rename_i s pos hg
    obtain ⟨g0, g1⟩ := hR.obj _ _ _ hp hg
    have hget : (getObj p.blk).run P w = .ok (.stringIter ⟨⟨s⟩⟩ pos) w := by simp [getObj, Sem.run, g1]
    have hsz : (⟨⟨s⟩⟩ : ByteArray).size = s.length := rfl
    cases hb : Nat.blt pos s.length with
    | true =>
      have hlt : pos < s.length := by simpa [Nat.blt_eq] using hb
      rw [hb] at hr
      simp only [cond_true] at hr
      rw [forceN_eq] at hr
      cases hr
      have hset : ∀ o, (setObj p.blk o).run P w = .ok () (w.putObj p.blk o) := fun o => by simp [setObj, Sem.run, g1, World.putObj]
      refine ⟨_, rfl, .tuple #[.bool true, goInt pos, .int .i32 (Utf8.decode ⟨⟨s⟩⟩ pos).1], w.putObj p.blk (.stringIter ⟨⟨s⟩⟩ (pos + (Utf8.decode ⟨⟨s⟩⟩ pos).2)), φ, ?_, .tuple (.cons (.bool _) (.cons (.int _ _) (.cons (.int _ _) .nil))), ?_, .write hp _⟩
      · simp only [Instr.next, Sem.run_bind, hget, Result.andThen_ok]
        rw [hsz, if_pos hlt]
        simp only [Sem.run_bind, hset, Result.andThen_ok, Sem.run_pure]
      · exact hR.write hp hg rfl rfl (World.putObj_below (hR.own _ _ _ hp hg rfl) _) (fun k hk => World.putObj_heap_other hk) ⟨g0, World.putObj_heap_same (Array.getElem?_eq_some_iff.1 g1).1⟩
    | false =>
      have hlt : ¬ pos < s.length := by
        intro h; rw [show Nat.blt pos s.length = true from by simpa [Nat.blt_eq] using h] at hb; cases hb
      rw [hb] at hr
      cases hr
      refine ⟨_, rfl, .pure hR (v' := .tuple #[.bool false]) ?_ (.tuple (.cons (.bool _) .nil))⟩
      simp only [Instr.next, Sem.run_bind, hget, Result.andThen_ok]
      rw [hsz, if_neg hlt]
      rfl
  · cases hr

theorem ConE.filter {f : Nat → Bool} : ∀ {l : List AEntry} {es : List MapEntry}, ConE φ l es → ConE φ (l.filter fun e => f e.born) (es.filter fun e => f e.born)
  | _, _, .nil => .nil
  | e :: l, e' :: es, .cons h1 h2 h3 t => by
    rw [List.filter_cons, List.filter_cons, h3]
    split
    · exact .cons h1 h2 h3 t.filter
    · exact t.filter

theorem ConE.all {f : Nat → Bool} : ∀ {l : List AEntry} {es : List MapEntry}, ConE φ l es → (es.all fun e => f e.born) = l.all fun e => f e.born
  | _, _, .nil => rfl
  | _ :: _, _ :: _, .cons h1 h2 h3 t => by simp [h3, t.all]

theorem ConE.isEmpty : ∀ {l : List AEntry} {es : List MapEntry}, ConE φ l es → es.isEmpty = l.isEmpty
  | _, _, .nil => rfl
  | _ :: _, _ :: _, .cons .. => rfl

theorem opNextM_ok {ty : TypeId} {id : Nat} {p : Pl} {r : AN} (hR : Rel B w0 φ h w) (hp : φ id = some p) (hr : nextM h id = .ok (r, h')) :
    ∃ v, r = .value v ∧ ValOf P B w0 φ h (Instr.next (.pointer (some ⟨p.blk, 0, none⟩)) false ty) w v h' := by
  unfold nextM at hr
  split at hr
  · rename_i m since seen last hg
    obtain ⟨g0, m', g1, g2⟩ := hR.obj _ _ _ hp hg
    have hget : (getObj p.blk).run P w = .ok (.mapIter m' since ⟨seen⟩ last) w := by simp [getObj, Sem.run, g1]
    split at hr
    · cases hr
      have : m' = none := g2
      subst this
      refine ⟨_, rfl, .pure hR (v' := .tuple #[.bool false]) ?_ (.tuple (.cons (.bool _) .nil))⟩
      simp only [Instr.next, Sem.run_bind, hget, Result.andThen_ok]
      rfl
    · rename_i m
      obtain ⟨q, hq, rfl⟩ := g2
      split at hr
      · rename_i l clock hgm
        obtain ⟨es, k1, k2⟩ := hR.obj _ _ _ hq hgm
        split at hr
        · cases hr
        · rename_i hall
          have hall' : ¬ ((!(⟨seen⟩ : Array Nat).isEmpty && !(⟨es⟩ : Array MapEntry).isEmpty && (⟨es⟩ : Array MapEntry).all (fun e => decide (e.born ≥ last))) = true) := by
            intro hh
            apply hall
            rw [← hh]
            have e1 : (⟨seen⟩ : Array Nat).isEmpty = seen.isEmpty := by cases seen <;> rfl
            have e2 : (⟨es⟩ : Array MapEntry).isEmpty = l.isEmpty := by rw [← k2.isEmpty]; cases es <;> rfl
            have e3 : ((⟨es⟩ : Array MapEntry).all fun e => decide (e.born ≥ last)) = l.all fun e => Nat.ble last e.born := by
              rw [← k2.all (f := fun b => Nat.ble last b)]
              simp only [List.all_toArray]
              congr 1; funext e
              rw [Bool.eq_iff_iff]; simp
            rw [e1, e2, e3]
          have hfil := k2.filter (f := fun b => !seen.contains b)
          have hleft : (⟨es⟩ : Array MapEntry).filter (fun e => !(⟨seen⟩ : Array Nat).contains e.born) = ⟨es.filter fun e => !seen.contains e.born⟩ := by
            apply Array.ext'; simp
          generalize hL : es.filter (fun e => !seen.contains e.born) = L at hleft hfil
          split at hr
          · rename_i hl
            rw [hl] at hfil
            cases hfil
            cases hr
            refine ⟨_, rfl, .pure hR (v' := .tuple #[.bool false]) ?_ (.tuple (.cons (.bool _) .nil))⟩
            simp only [Instr.next, Sem.run_bind, hget, Result.andThen_ok, run_getMap k1]
            rw [if_neg hall']
            simp only [hleft]
            simp [Question.forced]
          · rename_i e hl
            rw [hl] at hfil
            cases hfil with
            | @cons _ e' _ _ c1 c2 c3 t =>
              cases t
              split at hr
              · rename_i hsince
                cases hr
                have hset : ∀ o, (setObj p.blk o).run P w = .ok () (w.putObj p.blk o) := fun o => by simp [setObj, Sem.run, g1, World.putObj]
                have hso : e'.born < since := by rw [c3]; exact hsince
                refine ⟨_, rfl, .tuple #[.bool true, e'.key, e'.val], w.putObj p.blk (.mapIter (some q.blk) since ((⟨seen⟩ : Array Nat).push e'.born) clock), φ, ?_, .tuple (.cons (.bool _) (.cons c1 (.cons c2 .nil))), ?_, .write hp _⟩
                rotate_left
                · refine hR.write (w' := w.putObj p.blk (.mapIter (some q.blk) since ((⟨seen⟩ : Array Nat).push e'.born) clock)) hp hg rfl rfl (World.putObj_below (hR.own _ _ _ hp hg rfl) _) (fun k hk => World.putObj_heap_other hk) ?_
                  refine ⟨g0, some q.blk, ?_, q, hq, rfl⟩
                  rw [World.putObj_heap_same (Array.getElem?_eq_some_iff.1 g1).1, c3]
                  simp
                · simp only [Instr.next, Sem.run_bind, hget, Result.andThen_ok, run_getMap k1]
                  rw [if_neg hall']
                  simp only [hleft]
                  simp [Question.forced, hso, hset]
              · cases hr
          · cases hr
      · cases hr
  · cases hr

theorem opNext_ok {ty : TypeId} {it : AV} {it' : Value} {s : Bool} {r : AN} (hR : Rel B w0 φ h w) (hi : Con φ it it') (hr : opNext h it s = .ok (r, h')) : ∃ v, r = .value v ∧ ValOf P B w0 φ h (Instr.next it' s ty) w v h' := by
  unfold opNext at hr
  split at hr
  · rename_i id
    cases hi with
    | @ptr _ _ p hp =>
      have hoff : p.off = 0 := by
        split at hr
        · unfold nextS at hr; split at hr
          · rename_i hg; exact (hR.obj _ _ _ hp hg).1
          · cases hr
        · unfold nextM at hr; split at hr
          · rename_i hg; exact (hR.obj _ _ _ hp hg).1
          · cases hr
      rw [hoff]
      split at hr
      · exact opNextS_ok hR hp hr
      · exact opNextM_ok hR hp hr
  · cases hr

end Go.Dr

/-
  One operation of the abstract run is the model's: interfaces, calls; all of them.
-/
namespace Go.Dr
open Go.RowKit

variable {P : Program} {B : Nat} {w0 w : World} {φ : Phi} {h h' : AH}

theorem find_born {b : Nat} : ∀ {l : List AEntry} {es : List MapEntry} {e : AEntry}, ConE φ l es → l.find? (fun e => e.born == b) = some e → ∃ e', es.find? (·.born == b) = some e' ∧ Con φ e.key e'.key ∧ Con φ e.val e'.val
  | _, _, e, .nil, h => by cases h
  | x :: l, x' :: es, e, .cons h1 h2 h3 t, h => by
    rw [List.find?_cons] at h ⊢
    rw [h3]
    split at h
    · cases h; exact ⟨x', rfl, h1, h2⟩
    · exact find_born t h

theorem opEntry_ok {it v : AV} {it' : Value} (hR : Rel B w0 φ h w) (hi : Con φ it it') (hr : opEntry h it = .ok v) :
    ∃ v', (Instr.entry it').run P w = .ok v' w ∧ Con φ v v' := by
  unfold opEntry at hr
  split at hr
  · rename_i id
    split at hr
    · rename_i m since seen stepped hg
      cases hi with
      | @ptr _ _ p hp =>
        obtain ⟨hoff, m', g1, q, hq, rfl⟩ := hR.obj _ _ _ hp hg
        split at hr
        · rename_i b es clock hb hgm
          obtain ⟨es', k1, k2⟩ := hR.obj _ _ _ hq hgm
          split at hr
          · rename_i hcl
            split at hr
            · rename_i e he
              cases hr
              obtain ⟨e', he', c1, c2⟩ := find_born k2 he
              refine ⟨.tuple #[e'.key, e'.val], ?_, .tuple (.cons c1 (.cons c2 .nil))⟩
              have hget : (getObj p.blk).run P w = .ok (.mapIter (some q.blk) since ⟨seen⟩ stepped) w := by simp [getObj, Sem.run, g1]
              have hback : (⟨seen⟩ : Array Nat).back? = some b := by
                rw [← hb]; simp
              have hf : (⟨es'⟩ : Array MapEntry).find? (·.born == b) = some e' := by
                rw [← he']; simp
              rw [hoff]
              simp only [Nat.add_zero]
              simp only [Instr.entry, Sem.run_bind, hget, Result.andThen_ok, hback, run_getMap k1, hf]
              simp [hcl]
            · cases hr
          · cases hr
        · cases hr
    · cases hr
  · cases hr

theorem assertFails_ok {t : TypeId} {ok : Bool} {v : AV} (hr : assertFails P ok t = .ok v) : ok = true ∧ ∃ z z', zeroAV P t = .ok z ∧ (zeroValue t).run P w = .ok z' w ∧ v = .tuple [z, .bool false] ∧ Con φ v (.tuple #[z', .bool false]) := by
  unfold assertFails at hr
  split at hr
  · split at hr
    · rename_i z hz; cases hr
      obtain ⟨z', h1, h2⟩ := run_zero (P := P) (w := w) hz
      exact ⟨rfl, z, z', hz, h1, rfl, .tuple (.cons (h2 φ) (.cons (.bool _) .nil))⟩
    · cases hr
  · cases hr

theorem opTypeAssert_ok {xt t : TypeId} {ok : Bool} {x v : AV} {x' : Value} (hx : Con φ x x') (hr : opTypeAssert P x t ok = .ok v) : ∃ v', (Instr.typeAssert x' xt t ok).run P w = .ok v' w ∧ Con φ v v' := by
  unfold opTypeAssert at hr
  split at hr
  · rename_i want ht
    split at hr
    · split at hr
      · rename_i i hi
        split at hr
        · rename_i hm
          cases hr
          cases hx with
          | iface hx =>
            cases ok
            · exact ⟨_, by simp only [Instr.typeAssert, Sem.run_bind, run_und ht, Result.andThen_ok, run_info hi, hm]; rfl, .iface hx⟩
            · exact ⟨_, by simp only [Instr.typeAssert, Sem.run_bind, run_und ht, Result.andThen_ok, run_info hi, hm]; rfl, .tuple (.cons (.iface hx) (.cons (.bool _) .nil))⟩
        · rename_i s hm
          obtain ⟨rfl, z, z', h1, h2, h3, h4⟩ := assertFails_ok (φ := φ) (w := w) hr
          cases hx
          exact ⟨_, by simp only [Instr.typeAssert, Sem.run_bind, run_und ht, Result.andThen_ok, run_info hi, hm, if_true, h2]; rfl, h4⟩
      · cases hr
    · obtain ⟨rfl, z, z', h1, h2, h3, h4⟩ := assertFails_ok (φ := φ) (w := w) hr
      cases hx
      exact ⟨_, by simp only [Instr.typeAssert, Sem.run_bind, run_und ht, Result.andThen_ok, if_true, h2]; rfl, h4⟩
    · cases hr
  · rename_i td hne ht
    split at hr
    · obtain ⟨rfl, z, z', h1, h2, h3, h4⟩ := assertFails_ok (φ := φ) (w := w) hr
      cases hx
      exact ⟨_, by
        simp only [Instr.typeAssert, Sem.run_bind, run_und ht, Result.andThen_ok]
        cases td <;> first | (exact absurd rfl (hne _)) | (simp only [Sem.run_bind, if_true, h2, Result.andThen_ok]; rfl), h4⟩
    · split at hr
      · rename_i he; cases hr
        cases hx with
        | iface hx =>
          cases ok
          · exact ⟨_, by
              simp only [Instr.typeAssert, Sem.run_bind, run_und ht, Result.andThen_ok]
              cases td <;> first | (exact absurd rfl (hne _)) | (simp only [if_pos he]; rfl), hx⟩
          · exact ⟨_, by
              simp only [Instr.typeAssert, Sem.run_bind, run_und ht, Result.andThen_ok]
              cases td <;> first | (exact absurd rfl (hne _)) | (simp only [if_pos he]; rfl), .tuple (.cons hx (.cons (.bool _) .nil))⟩
      · rename_i he
        obtain ⟨rfl, z, z', h1, h2, h3, h4⟩ := assertFails_ok (φ := φ) (w := w) hr
        cases hx
        exact ⟨_, by
          simp only [Instr.typeAssert, Sem.run_bind, run_und ht, Result.andThen_ok]
          cases td <;> first | (exact absurd rfl (hne _)) | (simp only [if_neg he, Sem.run_bind, if_true, h2, Result.andThen_ok]; rfl), h4⟩
    · cases hr
  · cases hr

theorem min_ok : ∀ {l : List AV} {l' : List Value} {a v : AV} {a' : Value}, foldMM false a l = .ok v → Con φ a a' → ConL φ l l' → ∃ v', (l'.foldlM Builtin.min2 a').run P w = .ok v' w ∧ Con φ v v'
  | [], _, a, v, a', h, ha, .nil => by cases h; exact ⟨a', rfl, ha⟩
  | b :: l, b' :: l', a, v, a', h, ha, .cons hb t => by
    unfold foldMM at h
    split at h
    · rename_i c hc
      unfold mm2 at hc
      split at hc
      · split at hc
        · rename_i hh; cases hh
        · cases hc; cases ha; cases hb
          obtain ⟨v', h1, h2⟩ := min_ok h (.int _ _) t
          refine ⟨v', ?_, h2⟩
          rw [List.foldlM_cons, Sem.run_bind]
          exact h1
      · cases hc
    · cases h

theorem max_ok : ∀ {l : List AV} {l' : List Value} {a v : AV} {a' : Value}, foldMM true a l = .ok v → Con φ a a' → ConL φ l l' → ∃ v', (l'.foldlM Builtin.max2 a').run P w = .ok v' w ∧ Con φ v v'
  | [], _, a, v, a', h, ha, .nil => by cases h; exact ⟨a', rfl, ha⟩
  | b :: l, b' :: l', a, v, a', h, ha, .cons hb t => by
    unfold foldMM at h
    split at h
    · rename_i c hc
      unfold mm2 at hc
      split at hc
      · split at hc
        · cases hc; cases ha; cases hb
          obtain ⟨v', h1, h2⟩ := max_ok h (.int _ _) t
          refine ⟨v', ?_, h2⟩
          rw [List.foldlM_cons, Sem.run_bind]
          exact h1
        · rename_i hh; cases hh
      · cases hc
    · cases h

inductive DefR (φ : Phi) : ADef → Deferred → Prop
  | collected {id : Nat} {p : Pl} (h : φ id = some p) : DefR φ (.collected id) { target := .collected p.blk, args := #[] }
  | call {f : FuncId} {c a : List AV} {c' a' : List Value} (hc : ConL φ c c') (ha : ConL φ a a') : DefR φ (.call (.func f) c a) { target := .fn (.func f) ⟨c'⟩, args := ⟨a'⟩ }

theorem DefR.mono {φ ψ : Phi} (hle : φ.le ψ) {a : ADef} {d : Deferred} (h : DefR φ a d) : DefR ψ a d := by
  cases h with
  | collected h => exact .collected (hle _ _ h)
  | call hc ha => exact .call (hc.mono hle) (ha.mono hle)

/-- what an operation comes to, held against the model's -/
def OpSound (P : Program) (B : Nat) (w0 : World) (φ : Phi) (h : AH) (s : Sem Next) (w : World) (n : AN) (h' : AH) : Prop :=
  match n with
  | .value v => ∃ v' w' φ', s.run P w = .ok (.value v') w' ∧ Con φ' v v' ∧ Rel B w0 φ' h' w' ∧ Ext φ h φ' h'
  | .skip => ∃ w', s.run P w = .ok .skip w' ∧ Rel B w0 φ h' w' ∧ Ext φ h φ h'
  | .enter f args => h' = h ∧ ∃ args', ConL φ args args' ∧ s.run P w = (callFunc f ⟨args'⟩).run P w
  | .yield l args => h' = h ∧ ∃ p args', φ l = some p ∧ ConL φ args args' ∧ s.run P w = (Instr.yield p.blk ⟨args'⟩).run P w
  | .defer d => h' = h ∧ ∃ d', DefR φ d d' ∧ s.run P w = .ok (.defer d') w

theorem OpSound.val {s : Sem Value} {v : AV} (hv : ValOf P B w0 φ h s w v h') {t : Sem Next} (ht : t = (do pure (.value (← s)))) : OpSound P B w0 φ h t w (.value v) h' := by
  obtain ⟨v', w', φ', h1, h2, h3, h4⟩ := hv
  exact ⟨v', w', φ', by subst ht; simp only [Sem.run_bind, h1, Result.andThen_ok, Sem.run_pure], h2, h3, h4⟩

theorem OpSound.pure {s : Sem Value} {v : AV} (hR : Rel B w0 φ h w) (hv : ∃ v', s.run P w = .ok v' w ∧ Con φ v v') {t : Sem Next} (ht : t = (do pure (.value (← s)))) : OpSound P B w0 φ h t w (.value v) h := by
  obtain ⟨v', h1, h2⟩ := hv
  exact OpSound.val (.pure hR h1 h2) ht

theorem callFn_ok {fn : Fn} {first captured args : List AV} {v : Value} {args' : List Value} {n : AN} (hf : Con φ (.func fn first captured) v) (ha : ConL φ args args') (hr : callFn fn captured (first ++ args) h = .ok (n, h')) :
    OpSound P B w0 φ h (do let d ← Deferred.ofValue v ⟨args'⟩; invoke d.target d.args) w n h' := by
  unfold callFn at hr
  split at hr
  · cases hr
    cases hf with
    | func h1 h2 => 
      refine ⟨rfl, _, (h1.append ha).append h2, ?_⟩
      simp only [Deferred.ofValue, Sem.run_bind, Sem.run_pure, Result.andThen_ok, invoke]
      simp
  · cases hr
    cases hf with
    | yield hl =>
      refine ⟨rfl, _, args', hl, by simpa using ha, ?_⟩
      simp only [Deferred.ofValue, Sem.run_bind, Sem.run_pure, Result.andThen_ok, invoke]
      simp
  · cases hr

end Go.Dr

/-
  Every operation of the abstract run is the model's.
-/
namespace Go.Dr
open Go.RowKit

variable {P : Program} {B : Nat} {w0 w : World} {φ : Phi} {h h' : AH}

theorem skipH_ok {r : R AH} {n : AN} (hr : skipH r = .ok (n, h')) : r = .ok h' ∧ n = .skip := by
  unfold skipH at hr; split at hr
  · cases hr; exact ⟨rfl, rfl⟩
  · cases hr

theorem keep_sound {r : R AV} {n : AN} {s : Sem Value} {t : Sem Next} (hR : Rel B w0 φ h w) (hr : keepH h r = .ok (n, h')) (hv : ∀ v, r = .ok v → ∃ v', s.run P w = .ok v' w ∧ Con φ v v') (ht : t = (do pure (.value (← s)))) :
    OpSound P B w0 φ h t w n h' := by
  obtain ⟨v, h1, rfl, rfl⟩ := keepH_ok hr
  exact .pure hR (hv v h1) ht

theorem val_sound {n : AN} {s : Sem Value} {t : Sem Next} (hv : ∃ v, n = .value v ∧ ValOf P B w0 φ h s w v h') (ht : t = (do pure (.value (← s)))) : OpSound P B w0 φ h t w n h' := by
  obtain ⟨v, rfl, hv⟩ := hv
  exact .val hv ht

theorem skip_sound {n : AN} {r : R AH} {s : Sem Unit} {t : Sem Next} (hr : skipH r = .ok (n, h')) (hv : r = .ok h' → ∃ w', s.run P w = .ok () w' ∧ Rel B w0 φ h' w' ∧ Ext φ h φ h') (ht : t = (do s; pure .skip)) : OpSound P B w0 φ h t w n h' := by
  obtain ⟨h1, rfl⟩ := skipH_ok hr
  obtain ⟨w', g1, g2, g3⟩ := hv h1
  exact ⟨w', by subst ht; simp only [Sem.run_bind, g1, Result.andThen_ok, Sem.run_pure], g2, g3⟩

theorem evOO_con {a : AAct} {tm : Array Value} {ds : List Deferred} (hG : GlobRel P φ) (hA : ActRel φ a tm) {x : Option Operand} {c : Option CO} (hc : cOO P x = .ok c) : ConO φ (evOO a c) (x.map (Act.eval ⟨tm, ds⟩)) := by
  rcases cOO_con (ds := ds) hG hA hc with ⟨rfl, rfl⟩ | ⟨y, d, rfl, rfl, h⟩
  · exact .none
  · exact .some h

theorem run_loadVar1 {t : TypeId} {b o : Nat} {v : Value} (ha : aggT P t = .ok false) (hc : w.cell? ⟨b, o, none⟩ = some v) : (loadVar t ⟨b, o, none⟩).run P w = .ok v w := by
  simp only [loadVar, Sem.run_bind, run_aggT ha, Result.andThen_ok, Bool.false_eq_true, if_false]
  exact run_load_at hc

theorem run_loadVarN {t : TypeId} {b o n : Nat} {vs : List Value} (ha : aggT P t = .ok true) (hs : szOf P t = .ok n) (hl : vs.length = n) (hc : ∀ j v, vs[j]? = some v → w.cell? ⟨b, o + j, none⟩ = some v) : (loadVar t ⟨b, o, none⟩).run P w = .ok (.agg ⟨vs⟩) w := by
  simp only [loadVar, Sem.run_bind, run_aggT ha, Result.andThen_ok, if_true, run_szOf hs, run_loadCells_at hl hc, Sem.run_pure]

theorem opLoad1_ok {t : TypeId} {x : AV} {x' : Value} {n : AN} (ha : aggT P t = .ok false) (hR : Rel B w0 φ h w) (hx : Con φ x x') (hr : opLoad1 x h = .ok (n, h')) : ∃ v, n = .value v ∧ ValOf P B w0 φ h (Instr.loadAt t x') w v h' := by
  unfold opLoad1 at hr
  split at hr
  · obtain ⟨v, h1, rfl, rfl⟩ := keepH_ok hr
    cases hx with
    | ptr hp =>
      obtain ⟨v', g1, g2⟩ := load1_ok h1 hR hp
      exact ⟨v, rfl, .pure hR (by simp only [Instr.loadAt, Instr.sureAddr, Sem.run_bind, Sem.run_pure, Result.andThen_ok]; exact run_loadVar1 ha g1) g2⟩
  · cases hr

theorem opLoadN_ok {t : TypeId} {k : Nat} {x : AV} {x' : Value} {n : AN} (ha : aggT P t = .ok true) (hs : szOf P t = .ok k) (hR : Rel B w0 φ h w) (hx : Con φ x x') (hr : opLoadN k x h = .ok (n, h')) : ∃ v, n = .value v ∧ ValOf P B w0 φ h (Instr.loadAt t x') w v h' := by
  unfold opLoadN at hr
  split at hr
  · split at hr
    · rename_i l hl
      cases hr
      cases hx with
      | ptr hp =>
        obtain ⟨vs, g1, g2, g3⟩ := loadN_ok hl hR hp
        exact ⟨_, rfl, .pure hR (by simp only [Instr.loadAt, Instr.sureAddr, Sem.run_bind, Sem.run_pure, Result.andThen_ok]; exact run_loadVarN ha hs g1 g2) (.agg g3)⟩
    · cases hr
  · cases hr

theorem opStore_ok {t : TypeId} {k : Nat} {x y : AV} {x' y' : Value} {n : AN} (hs : szOf P t = .ok k) (hR : Rel B w0 φ h w) (hx : Con φ x x') (hy : Con φ y y') (hr : opStore k x y h = .ok (n, h')) :
    OpSound P B w0 φ h (do Instr.storeAt t x' y'; pure .skip) w n h' := by
  unfold opStore at hr
  split at hr
  · rename_i id off
    cases hb : Nat.beq y.cells.length k with
    | false => rw [hb] at hr; cases hr
    | true =>
      rw [hb] at hr
      have hlen := Nat.eq_of_beq_eq_true hb
      refine skip_sound (s := Instr.storeAt t x' y') hr (fun h1 => ?_) rfl
      cases hx with
      | ptr hp =>
        obtain ⟨w', g1, g2, g3⟩ := storeN_ok (P := P) h1 hR hp hy.cells
        refine ⟨w', ?_, g2, g3⟩
        have hsz : y'.cells.size = k := by have := hy.cells.length; simp at this; omega
        simp only [Instr.storeAt, Instr.sureAddr, storeVar, Sem.run_bind, Sem.run_pure, Result.andThen_ok, run_szOf hs]
        rw [if_neg (by simp [hsz])]
        exact g1
  · cases hr

def nilGood (v : Value) : Bool :=
  match v with
  | .pointer (some _) => true
  | .map (some _) => true
  | .iface _ _ => true
  | .func (.func _) _ _ => true
  | .func (.yield _) _ _ => true
  | _ => false

theorem nilCheck_run {x : Operand} {o : Oper} {ρ : Operand → Value} {v : Value} (ho : o.op = .nilCheck x) (hv : ρ x = v) (hg : nilGood v = true) : (execOp ρ o).run P w = .ok (.value v) w := by
  simp only [execOp, ho, hv]
  unfold nilGood at hg
  split at hg
  all_goals first
    | rfl
    | cases hg

theorem opNilCheck_ok {x : Operand} {o : Oper} {a : AV} {ρ : Operand → Value} {n : AN} (ho : o.op = .nilCheck x) (hR : Rel B w0 φ h w) (hx : Con φ a (ρ x)) (hr : opNilCheck a h = .ok (n, h')) : OpSound P B w0 φ h (execOp ρ o) w n h' := by
  generalize hv : ρ x = v at hx
  unfold opNilCheck at hr
  split at hr
  · cases hr
    cases hx with
    | ptr hp => exact ⟨_, w, φ, nilCheck_run ho hv rfl, .ptr hp, hR, .refl _ _⟩
  · cases hr
    cases hx with
    | map hp => exact ⟨_, w, φ, nilCheck_run ho hv rfl, .map hp, hR, .refl _ _⟩
  · cases hr
    cases hx with
    | iface hp => exact ⟨_, w, φ, nilCheck_run ho hv rfl, .iface hp, hR, .refl _ _⟩
  · split at hr
    · cases hr
      cases hx with
      | func h1 h2 => exact ⟨_, w, φ, nilCheck_run ho hv rfl, .func h1 h2, hR, .refl _ _⟩
    · cases hr
      cases hx with
      | yield h1 => exact ⟨_, w, φ, nilCheck_run ho hv rfl, .yield h1, hR, .refl _ _⟩
    · cases hr
  · cases hr

theorem callMeth_ok {x : AV} {x' : Value} {name : String} {args : List AV} {args' : List Value} {n : AN} (hx : Con φ x x') (ha : ConL φ args args') (hr : callMeth P x name args h = .ok (n, h')) :
    OpSound P B w0 φ h (callMethod x' name ⟨args'⟩) w n h' := by
  unfold callMeth at hr
  split at hr
  · rename_i t v
    split at hr
    · rename_i i hi
      split at hr
      · rename_i m hm
        split at hr
        · rename_i hpath
          split at hr
          · rename_i f pr hf
            cases hx with
            | @iface _ _ v' hx =>
              have hmd : 0 < Made.depth := by decide
              obtain ⟨k, hk⟩ : ∃ k, P.types.size + Made.depth = k + 1 := ⟨P.types.size + (Made.depth - 1), by omega⟩
              have hpl : m.path.toList = [] := by simpa using hpath
              have key : ∀ d, P.underlying t = some d → ((∃ e, d = .pointer e) ∧ pr = true ∨ (∀ e, d ≠ .pointer e) ∧ pr = false) → OpSound P B w0 φ h (callMethod (.iface t v') name ⟨args'⟩) w (.enter f (v :: args)) h := by
                intro d hd hcase
                have hu : (underlying t).run P w = .ok d w := by simp [underlying, hd]
                refine ⟨rfl, v' :: args', .cons hx ha, ?_⟩
                have hmeth : (method (P.types.size + Made.depth) t v' name).run P w = .ok (f, v') w := by
                  rw [hk]
                  unfold method
                  simp only [Sem.run_bind, run_info hi, Result.andThen_ok, hm, hpl, follow, Sem.run_pure, hf]
                  rcases hcase with ⟨⟨e, rfl⟩, rfl⟩ | ⟨hne, rfl⟩
                  · simp only [receiverAt, Sem.run_bind, hu, Result.andThen_ok, Place.get, Sem.run_pure]
                  · simp only [receiverAt, Sem.run_bind, hu, Result.andThen_ok]
                    cases d <;> first | (exact absurd rfl (hne _)) | rfl
                simp only [callMethod, Sem.run_bind, run_program, Result.andThen_ok, hmeth]
                congr 2
                apply Array.ext'; simp
              split at hr
              · rename_i e hd; cases hr
                have := key _ hd (.inl ⟨⟨e, rfl⟩, rfl⟩)
                simpa [callFn] using this
              · cases hr
              · rename_i d hne1 hd; cases hr
                have := key _ hd (.inr ⟨fun e he => hne1 _ he, rfl⟩)
                simpa using this
              · cases hr
          · cases hr
        · cases hr
      · cases hr
    · cases hr
  · cases hr

theorem len_arr {t e ty : TypeId} {k : Nat} {v : Value} (ht : und P t = .ok (.array k e)) : (Builtin.len_ #[t] ty #[v]).run P w = .ok (.int .i64 k) w := by
  simp only [Builtin.len_, List.getElem?_toArray, List.getElem?_cons_zero, Sem.run_bind, run_und ht, Result.andThen_ok]; rfl
theorem cap_arr {t e ty : TypeId} {k : Nat} {v : Value} (ht : und P t = .ok (.array k e)) : (Builtin.cap_ #[t] ty #[v]).run P w = .ok (.int .i64 k) w := by
  simp only [Builtin.cap_, List.getElem?_toArray, List.getElem?_cons_zero, Sem.run_bind, run_und ht, Result.andThen_ok]; rfl

theorem builtin_run {o : Oper} {c : Call} {b : Builtin} {ρ : Operand → Value} (ho : o.op = .call c) (hb : c.callee = .builtin b) :
    execOp ρ o = builtin b c.argTypes o.type (c.args.map fun | .const _ => true | _ => false) (c.args.map ρ) := by
  simp only [execOp, ho, resolve, hb]
  rfl

theorem cCall_sound {o : Oper} {call : Call} {c : COp} {a : AAct} {tm : Array Value} {ds : List Deferred} {n : AN} (ho : o.op = .call call) (hc : cCall P call = .ok c) (hr : evC P c a h = .ok (n, h')) (hG : GlobRel P φ) (hA : ActRel φ a tm) (hR : Rel B w0 φ h w) :
    OpSound P B w0 φ h (execOp (Act.eval ⟨tm, ds⟩) o) w n h' := by
  unfold cCall at hc
  split at hc
  · -- a value
    rename_i f hcal
    obtain ⟨g, hg, hc⟩ := with1_ok hc
    split at hc
    · rename_i l hl; cases hc
      have hf := cO_con (ds := ds) hg hG hA
      have ha := cOs_con (ds := ds) hG hA hl
      have hargs : call.args.map (Act.eval ⟨tm, ds⟩) = ⟨call.args.toList.map (Act.eval ⟨tm, ds⟩)⟩ := by apply Array.ext'; simp
      have he : execOp (Act.eval ⟨tm, ds⟩) o = (do let d ← Deferred.ofValue (Act.eval ⟨tm, ds⟩ f) ⟨call.args.toList.map (Act.eval ⟨tm, ds⟩)⟩; invoke d.target d.args) := by
        simp only [execOp, ho, resolve, hcal, hargs]
      rw [he]
      simp only [evC] at hr
      unfold callVal at hr
      split at hr
      · rename_i fn first captured hfv
        rw [hfv] at hf
        exact callFn_ok hf ha hr
      · cases hr
    · cases hc
  · -- a method
    rename_i r name hcal
    obtain ⟨g, hg, hc⟩ := with1_ok hc
    split at hc
    · rename_i l hl; cases hc
      have hf := cO_con (ds := ds) hg hG hA
      have ha := cOs_con (ds := ds) hG hA hl
      have he : (execOp (Act.eval ⟨tm, ds⟩) o) = callMethod (Act.eval ⟨tm, ds⟩ r) name ⟨call.args.toList.map (Act.eval ⟨tm, ds⟩)⟩ := by
        simp only [execOp, ho, resolve, hcal]
        show invoke (.fn (.method name) #[]) (#[Act.eval ⟨tm, ds⟩ r] ++ call.args.map (Act.eval ⟨tm, ds⟩)) = _
        have e0 : (#[Act.eval ⟨tm, ds⟩ r] ++ call.args.map (Act.eval ⟨tm, ds⟩))[0]? = some (Act.eval ⟨tm, ds⟩ r) := by
          rcases call with ⟨_, ⟨args⟩, _⟩; simp
        have e1 : (#[Act.eval ⟨tm, ds⟩ r] ++ call.args.map (Act.eval ⟨tm, ds⟩)).extract 1 (#[Act.eval ⟨tm, ds⟩ r] ++ call.args.map (Act.eval ⟨tm, ds⟩)).size = ⟨call.args.toList.map (Act.eval ⟨tm, ds⟩)⟩ := by
          rcases call with ⟨_, ⟨args⟩, _⟩; apply Array.ext'; simp [List.take_of_length_le]
        simp only [invoke, e0, e1]
      rw [he]
      simp only [evC] at hr
      exact callMeth_ok hf ha hr
    · cases hc
  · -- a builtin
    rename_i b hcal
    rw [builtin_run ho hcal]
    split at hc
    · -- two arguments
      rename_i x y t u hargs htys
      have hty : call.argTypes = #[t, u] := by rcases call with ⟨_, _, ⟨tys⟩⟩; simp at htys; subst htys; rfl
      have hmap : call.args.map (Act.eval ⟨tm, ds⟩) = #[Act.eval ⟨tm, ds⟩ x, Act.eval ⟨tm, ds⟩ y] := by
        rcases call with ⟨_, ⟨args⟩, _⟩; simp at hargs; subst hargs; simp
      rw [hmap, hty]
      split at hc
      · -- append
        obtain ⟨ca, cb, ha, hb, hc⟩ := with2_ok hc
        have hca := cO_con (ds := ds) ha hG hA
        have hcb := cO_con (ds := ds) hb hG hA
        split at hc
        · rename_i e ud ht hu
          split at hc
          · rename_i es bytes z hes hby hz
            split at hc
            · cases hc
            · rename_i hne
              have hne1 : es ≠ 0 := fun e => hne (.inl e)
              have hne2 : z.cells.length = es := Decidable.byContradiction fun e => hne (.inr e)
              split at hc
              · cases hc
                exact val_sound (opAppZ_ok ht hu hes hby hz hne1 hne2 hR hca hcb hr) rfl
              · rename_i hni; cases hc
                exact val_sound (opApp_ok ht hu (by cases ud <;> first | rfl | (exact absurd rfl (hni _))) hes hby hz hne1 hne2 hR hca hcb hr) rfl
          · cases hc
        · cases hc
      · -- copy
        obtain ⟨ca, cb, ha, hb, hc⟩ := with2_ok hc
        have hca := cO_con (ds := ds) ha hG hA
        have hcb := cO_con (ds := ds) hb hG hA
        split at hc
        · rename_i e ht
          split at hc
          · rename_i es hes; cases hc
            exact val_sound (opCopy_ok ht hes hR hca hcb hr) rfl
          · cases hc
        · cases hc
      · -- delete
        obtain ⟨ca, cb, ha, hb, hc⟩ := with2_ok hc
        have hca := cO_con (ds := ds) ha hG hA
        have hcb := cO_con (ds := ds) hb hG hA
        split at hc
        · rename_i k e ht; cases hc
          exact val_sound (opDelete_ok ht hR hca hcb hr) rfl
        · cases hc
      · obtain ⟨ca, cb, ha, hb, hc⟩ := with2_ok hc
        cases hc
        exact keep_sound hR hr (fun v hv => min_ok hv (cO_con ha hG hA) (.cons (cO_con hb hG hA) .nil)) rfl
      · obtain ⟨ca, cb, ha, hb, hc⟩ := with2_ok hc
        cases hc
        exact keep_sound hR hr (fun v hv => max_ok hv (cO_con ha hG hA) (.cons (cO_con hb hG hA) .nil)) rfl
      · cases hc
    · rename_i x t hargs htys
      have hty : call.argTypes = #[t] := by rcases call with ⟨_, _, ⟨tys⟩⟩; simp at htys; subst htys; rfl
      have hmap : call.args.map (Act.eval ⟨tm, ds⟩) = #[Act.eval ⟨tm, ds⟩ x] := by
        rcases call with ⟨_, ⟨args⟩, _⟩; simp at hargs; subst hargs; simp
      rw [hmap, hty]
      split at hc
      · obtain ⟨ca, ha, hc⟩ := with1_ok hc
        have hca := cO_con (ds := ds) ha hG hA
        split at hc
        · rename_i k e ht; cases hc; cases hr
          exact .pure hR ⟨_, len_arr ht, .int _ _⟩ rfl
        · rename_i ht; cases hc
          exact keep_sound hR hr (fun v hv => opLenS_ok ht hca hv) rfl
        · rename_i e ht; cases hc
          exact keep_sound hR hr (fun v hv => opLenV_ok ht hca hv) rfl
        · rename_i k e ht; cases hc
          exact keep_sound hR hr (fun v hv => opLenM_ok ht hR hca hv) rfl
        · cases hc
      · obtain ⟨ca, ha, hc⟩ := with1_ok hc
        have hca := cO_con (ds := ds) ha hG hA
        split at hc
        · rename_i k e ht; cases hc; cases hr
          exact .pure hR ⟨_, cap_arr ht, .int _ _⟩ rfl
        · rename_i e ht; cases hc
          exact keep_sound hR hr (fun v hv => opCapV_ok ht hca hv) rfl
        · cases hc
      · -- clear
        obtain ⟨ca, ha, hc⟩ := with1_ok hc
        have hca := cO_con (ds := ds) ha hG hA
        split at hc
        · rename_i e ht
          split at hc
          · rename_i es z hes hz
            split at hc
            · cases hc
            · rename_i hne
              have hne1 : es ≠ 0 := fun e => hne (.inl e)
              have hne2 : z.cells.length = es := Decidable.byContradiction fun e => hne (.inr e)
              cases hc
              exact val_sound (opClear_ok ht hz hne2 hne1 hR hca hr) rfl
          · cases hc
        · cases hc
      · cases hc
    · rename_i x l hargs _ _
      have hmap : call.args.map (Act.eval ⟨tm, ds⟩) = ⟨Act.eval ⟨tm, ds⟩ x :: l.map (Act.eval ⟨tm, ds⟩)⟩ := by
        rcases call with ⟨_, ⟨args⟩, _⟩; simp at hargs; subst hargs; simp
      rw [hmap]
      split at hc
      · obtain ⟨ca, ha, hc⟩ := with1_ok hc
        split at hc
        · rename_i ll hll; cases hc
          exact keep_sound hR hr (fun v hv => min_ok hv (cO_con ha hG hA) (cOs_con hG hA hll)) rfl
        · cases hc
      · obtain ⟨ca, ha, hc⟩ := with1_ok hc
        split at hc
        · rename_i ll hll; cases hc
          exact keep_sound hR hr (fun v hv => max_ok hv (cO_con ha hG hA) (cOs_con hG hA hll)) rfl
        · cases hc
      · cases hc
    · cases hc

end Go.Dr

/-
  Every operation of the abstract run is the model's: joined.
-/
namespace Go.Dr
open Go.RowKit

variable {P : Program} {B : Nat} {w0 w : World} {φ : Phi} {h h' : AH}

theorem evC_sound {o : Oper} {c : COp} {a : AAct} {tm : Array Value} {ds : List Deferred} {n : AN} (hc : comp P o = .ok c) (hr : evC P c a h = .ok (n, h')) (hG : GlobRel P φ) (hA : ActRel φ a tm) (hR : Rel B w0 φ h w) :
    OpSound P B w0 φ h (execOp (Act.eval ⟨tm, ds⟩) o) w n h' := by
  have con := fun {x : Operand} {c : CO} (hx : cO P x = .ok c) => cO_con (ds := ds) hx hG hA
  have conO := fun {x : Option Operand} {c : Option CO} (hx : cOO P x = .ok c) => evOO_con (ds := ds) hG hA hx
  unfold comp at hc
  split at hc
  · rename_i x ho
    obtain ⟨ca, ha, hc⟩ := with1_ok hc
    cases hc; cases hr
    exact ⟨_, w, φ, by simp only [execOp, ho]; rfl, con ha, hR, .refl _ _⟩
  · rename_i x ho
    obtain ⟨ca, ha, hc⟩ := with1_ok hc
    cases hc; cases hr
    exact ⟨_, w, φ, by simp only [execOp, ho]; rfl, con ha, hR, .refl _ _⟩
  · rename_i q x y ho
    obtain ⟨cq, cx, cy, hq, hx, hy, hc⟩ := with3_ok hc
    cases hc
    simp only [evC] at hr
    obtain ⟨v, h1, rfl, rfl⟩ := keepH_ok hr
    have hqc := con hq
    unfold opPick at h1
    split at h1
    · rename_i hb; cases h1
      rw [hb] at hqc
      generalize hv : Act.eval ⟨tm, ds⟩ q = qv at hqc
      cases hqc
      exact ⟨_, w, φ, by simp only [execOp, ho, hv]; rfl, con hx, hR, .refl _ _⟩
    · rename_i hb; cases h1
      rw [hb] at hqc
      generalize hv : Act.eval ⟨tm, ds⟩ q = qv at hqc
      cases hqc
      exact ⟨_, w, φ, by simp only [execOp, ho, hv]; rfl, con hy, hR, .refl _ _⟩
    · cases h1
  · rename_i e ho
    split at hc
    · rename_i z hz; cases hc; cases hr
      obtain ⟨z', hz1, hz2⟩ := run_zero (P := P) (w := w) hz
      refine .val (s := Instr.alloc e true (.tuple #[])) (new_ok (e := e) (v' := z') hR (hz2 φ).cells ?_) (by simp only [execOp, ho])
      simp only [Instr.alloc, Sem.run_bind, hz1, Result.andThen_ok, newVar, newRow, run_newObj, Sem.run_pure]
      rfl
    · cases hc
  · rename_i e x ho
    obtain ⟨ca, ha, hc⟩ := with1_ok hc
    cases hc; cases hr
    refine .val (s := Instr.box e (Act.eval ⟨tm, ds⟩ x)) (new_ok (e := e) (v' := Act.eval ⟨tm, ds⟩ x) hR (con ha).cells ?_) (by simp only [execOp, ho])
    simp only [Instr.box, Sem.run_bind, Result.andThen_ok, newVar, newRow, run_newObj, Sem.run_pure]
    rfl
  · rename_i t parts ho
    have hex : execOp (Act.eval ⟨tm, ds⟩) o = (do pure (.value (← Instr.build t (parts.map fun (i, x) => (i, Act.eval ⟨tm, ds⟩ x))))) := by simp only [execOp, ho]
    split at hc
    · rename_i fields z ht hz
      split at hc
      · rename_i pl hpl
        split at hc
        · rename_i l hl; cases hc
          exact keep_sound hR hr (fun v hv => build_ok hG hA ht hz hpl hl hv) hex
        · cases hc
      · cases hc
    · rename_i k e z ht hz
      split at hc
      · rename_i size hs
        split at hc
        · rename_i l hl; cases hc
          exact keep_sound hR hr (fun v hv => buildA_ok hG hA ht hz hs hl hv) hex
        · cases hc
      · cases hc
    · cases hc
  · rename_i t len parts ho
    split at hc
    · rename_i e ht
      split at hc
      · rename_i es z hs hz
        split at hc
        · cases hc
        · rename_i hne
          split at hc
          · rename_i l hl; cases hc
            exact val_sound (buildSlice_ok (ds := ds) hG hA hR ht hz hs (fun e => hne (.inl e)) (fun e => hne (.inr (.inl e))) (Decidable.byContradiction fun e => hne (.inr (.inr e))) hl hr) (by simp only [execOp, ho])
          · cases hc
      · cases hc
    · cases hc
  · rename_i t x ho
    obtain ⟨ca, ha, hc⟩ := with1_ok hc
    split at hc
    · rename_i hagg
      split at hc
      · rename_i k hk; cases hc
        exact val_sound (opLoadN_ok hagg hk hR (con ha) hr) (by simp only [execOp, ho])
      · cases hc
    · rename_i hagg; cases hc
      exact val_sound (opLoad1_ok hagg hR (con ha) hr) (by simp only [execOp, ho])
    · cases hc
  · rename_i t x y ho
    obtain ⟨ca, cb, ha, hb, hc⟩ := with2_ok hc
    split at hc
    · rename_i k hk; cases hc
      have := opStore_ok (B := B) (w0 := w0) hk hR (con ha) (con hb) hr
      simpa only [execOp, ho] using this
    · cases hc
  · rename_i x ho
    obtain ⟨ca, ha, hc⟩ := with1_ok hc
    cases hc
    exact opNilCheck_ok ho hR (con ha) hr
  · rename_i op t x y yt ho
    obtain ⟨ca, cb, ha, hb, hc⟩ := with2_ok hc
    cases hc
    exact keep_sound hR hr (fun v hv => opBin_ok hv (con ha) (con hb)) (by simp only [execOp, ho])
  · rename_i op t x ho
    obtain ⟨ca, ha, hc⟩ := with1_ok hc
    cases hc
    exact keep_sound hR hr (fun v hv => opUn_ok hv (con ha)) (by simp only [execOp, ho])
  · rename_i s d x ho
    obtain ⟨ca, ha, hc⟩ := with1_ok hc
    have hex : execOp (Act.eval ⟨tm, ds⟩) o = (do pure (.value (← convert s d (Act.eval ⟨tm, ds⟩ x)))) := by simp only [execOp, ho]
    split at hc
    · rename_i sd k hs hd; cases hc
      exact val_sound (conv_int_ok hs hd hr (con ha) hR) hex
    · rename_i sd hs hd
      split at hc
      · rename_i e hse
        split at hc
        · rename_i he; cases hc
          exact val_sound (conv_strB_ok hse he hd hr (con ha) hR) hex
        · cases hc
      · rename_i hss; cases hc
        exact val_sound (conv_str_ok hss hd (.inl rfl) hr (con ha) hR) hex
      · rename_i k hss; cases hc
        exact val_sound (conv_str_ok hss hd (.inr ⟨k, rfl⟩) hr (con ha) hR) hex
      · cases hc
    · rename_i e hs hd
      split at hc
      · rename_i he; cases hc
        exact val_sound (conv_bytes_ok hs hd he hr (con ha) hR) hex
      · rename_i he; cases hc
        exact val_sound (conv_runes_ok hs hd he hr (con ha) hR) hex
      · cases hc
    · cases hc
  · rename_i t x ho
    obtain ⟨ca, ha, hc⟩ := with1_ok hc
    split at hc
    · cases hc
    · rename_i td hne ht; cases hc; cases hr
      refine .pure hR (s := Instr.makeInterface t (Act.eval ⟨tm, ds⟩ x)) ⟨_, ?_, .iface (con ha)⟩ (by simp only [execOp, ho])
      simp only [Instr.makeInterface, Sem.run_bind, run_und ht, Result.andThen_ok]
      cases td <;> first | (exact absurd rfl (hne _)) | rfl
    · cases hc
  · rename_i fn first captured ho
    split at hc
    · rename_i f
      split at hc
      · rename_i l1 l2 h1 h2; cases hc; cases hr
        refine .pure hR (s := Instr.makeFunc (.func f) (first.map (Act.eval ⟨tm, ds⟩)) (captured.map (Act.eval ⟨tm, ds⟩))) ⟨.func (.func f) ⟨first.toList.map (Act.eval ⟨tm, ds⟩)⟩ ⟨captured.toList.map (Act.eval ⟨tm, ds⟩)⟩, ?_, .func (cOs_con hG hA h1) (cOs_con hG hA h2)⟩ (by simp only [execOp, ho])
        rcases first with ⟨first⟩; rcases captured with ⟨captured⟩
        simp [Instr.makeFunc]
      · cases hc
    · cases hc
  · rename_i t r ho
    split at hc
    · rename_i kt et r' ht hr'; cases hc
      have hrr := conO hr'
      simp only [evC] at hr
      generalize evOO a r' = ro at hr hrr
      have key : ∀ n, opMkM ro h = .ok (n, h') → n = .value (.map h.next) ∧ h' = h.push (.map [] 0) ∧ (Instr.makeMap t (r.map (Act.eval ⟨tm, ds⟩))).run P w = .ok (.map (some w.heap.size)) (w.alloc (.map #[] 0)) := by
        intro n hn
        generalize r.map (Act.eval ⟨tm, ds⟩) = rv at hrr
        unfold opMkM at hn
        cases hrr with
        | none =>
          cases hn
          exact ⟨rfl, rfl, by simp [Instr.makeMap]⟩
        | some hcv =>
          split at hn
          · rename_i e; cases e
          · rename_i e; cases hn; cases e
            cases hcv
            refine ⟨rfl, rfl, ?_⟩
            simp [Instr.makeMap, run_und ht, asInt, asIntOf]
          · cases hn
      obtain ⟨rfl, rfl, hrun⟩ := key _ hr
      refine .val (s := Instr.makeMap t (r.map (Act.eval ⟨tm, ds⟩))) ⟨_, _, _, hrun, ?_, hR.push (room := 0) (o := .map [] 0) (O := .map #[] 0) ⟨[], alloc_new _ _, .nil⟩, Ext.push hR _ _⟩ (by simp only [execOp, ho])
      exact .map (p := ⟨w.heap.size, 0, 0⟩) (Phi.set_same _ _ _)
    · cases hc
  · rename_i t l k ho
    obtain ⟨ca, cb, ha, hb, hc⟩ := with2_ok hc
    split at hc
    · rename_i e ht
      split at hc
      · rename_i es bytes z hs hby hz
        split at hc
        · cases hc
        · rename_i hne; cases hc
          exact val_sound (opMkS_ok ht hs hby hz (fun e => hne (.inl e)) (Decidable.byContradiction fun e => hne (.inr e)) hr (con ha) (con hb) hR) (by simp only [execOp, ho])
      · cases hc
    · cases hc
  · rename_i t x lo hi mx ho
    obtain ⟨ca, ha, hc⟩ := with1_ok hc
    have hex : execOp (Act.eval ⟨tm, ds⟩) o = (do pure (.value (← Instr.sliceAt t (Act.eval ⟨tm, ds⟩ x) (lo.map (Act.eval ⟨tm, ds⟩)) (hi.map (Act.eval ⟨tm, ds⟩)) (mx.map (Act.eval ⟨tm, ds⟩))))) := by simp only [execOp, ho]
    split at hc
    · rename_i lo' hi' mx' hlo hhi hmx
      split at hc
      · rename_i ht
        split at hc
        · cases hc
          have hm := conO hmx
          simp only [evOO] at hm
          generalize hmv : mx.map (Act.eval ⟨tm, ds⟩) = mv at hm
          cases hm
          rw [hmv] at hex
          exact keep_sound hR hr (fun v hv => opSliceS_ok ht hv (con ha) (conO hlo) (conO hhi)) hex
        · cases hc
      · rename_i e ht
        split at hc
        · rename_i es hs; cases hc
          exact keep_sound hR hr (fun v hv => opSliceV_ok ht hs hv (con ha) (conO hlo) (conO hhi) (conO hmx)) hex
        · cases hc
      · rename_i k e ht
        split at hc
        · rename_i es hs
          split at hc
          · cases hc
          · cases hc
            exact keep_sound hR hr (fun v hv => opSliceA_ok ht hs hv (con ha) hR (conO hlo) (conO hhi) (conO hmx)) hex
        · cases hc
      · cases hc
    · cases hc
  · rename_i s x f ho
    obtain ⟨ca, ha, hc⟩ := with1_ok hc
    split at hc
    · rename_i fields ht
      split at hc
      · rename_i fd hf
        split at hc
        · cases hc
        · rename_i k hk0 hk; cases hc
          exact keep_sound hR hr (fun v hv => opFieldAddr_ok ht hf hk (fun e => hk0 (by rw [e])) hv (con ha)) (by simp only [execOp, ho])
        · cases hc
      · cases hc
    · cases hc
  · rename_i t x f ho
    obtain ⟨ca, ha, hc⟩ := with1_ok hc
    split at hc
    · rename_i fields ht
      split at hc
      · rename_i fd hf
        split at hc
        · rename_i k hagg hk; cases hc
          exact keep_sound hR hr (fun v hv => fieldN_ok ht hf hagg hk hv (con ha)) (by simp only [execOp, ho])
        · rename_i hagg; cases hc
          exact keep_sound hR hr (fun v hv => field1_ok ht hf hagg hv (con ha)) (by simp only [execOp, ho])
        · cases hc
      · cases hc
    · cases hc
  · rename_i t x i ho
    obtain ⟨ca, cb, ha, hb, hc⟩ := with2_ok hc
    split at hc
    · rename_i k e ht
      split at hc
      · rename_i es hs; cases hc
        exact keep_sound hR hr (fun v hv => opIdxA_ok ht hs hv (con ha) (con hb)) (by simp only [execOp, ho])
      · cases hc
    · rename_i e ht
      split at hc
      · rename_i es hs; cases hc
        exact keep_sound hR hr (fun v hv => opIdxV_ok ht hs hv (con ha) (con hb)) (by simp only [execOp, ho])
      · cases hc
    · cases hc
  · rename_i t x i ho
    obtain ⟨ca, cb, ha, hb, hc⟩ := with2_ok hc
    split at hc
    · rename_i k e ht
      split at hc
      · rename_i es hagg hs; cases hc
        exact keep_sound hR hr (fun v hv => opIndexN_ok ht hagg hs hv (con ha) (con hb)) (by simp only [execOp, ho])
      · rename_i es hagg hs; cases hc
        exact keep_sound hR hr (fun v hv => opIndex1_ok ht hagg hs hv (con ha) (con hb)) (by simp only [execOp, ho])
      · cases hc
    · rename_i ht; cases hc
      exact keep_sound hR hr (fun v hv => opIndexS_ok ht hv (con ha) (con hb)) (by simp only [execOp, ho])
    · cases hc
  · rename_i t x k ok ho
    obtain ⟨ca, cb, ha, hb, hc⟩ := with2_ok hc
    split at hc
    · rename_i kt et ht
      split at hc
      · rename_i z hz; cases hc
        exact keep_sound hR hr (fun v hv => opLookup_ok ht hz hR (con ha) (con hb) hv) (by simp only [execOp, ho])
      · cases hc
    · cases hc
  · rename_i t m k v ho
    obtain ⟨cm, ck, cv, hm, hk, hv, hc⟩ := with3_ok hc
    split at hc
    · rename_i kt et ht; cases hc
      exact skip_sound hr (fun h1 => opUpd_ok ht hR (con hm) (con hk) (con hv) h1) (by simp only [execOp, ho])
    · cases hc
  · rename_i t m k v ho
    obtain ⟨cm, ck, cv, hm, hk, hv, hc⟩ := with3_ok hc
    split at hc
    · rename_i kt et ht; cases hc
      exact skip_sound hr (fun h1 => opUpd_ok ht hR (con hm) (con hk) (con hv) h1) (by simp only [execOp, ho])
    · cases hc
  · rename_i t m k ho
    obtain ⟨ca, cb, ha, hb, hc⟩ := with2_ok hc
    split at hc
    · rename_i kt et ht
      split at hc
      · rename_i z hz; cases hc
        exact val_sound (opMapEntry_ok ht hz hR (con ha) (con hb) hr) (by simp only [execOp, ho])
      · cases hc
    · cases hc
  · rename_i t m s v ho
    obtain ⟨cm, cs, cv, hm, hs, hv, hc⟩ := with3_ok hc
    cases hc
    exact skip_sound hr (fun h1 => opEntryStore_ok (t := t) hR (con hm) (con hs) (con hv) h1) (by simp only [execOp, ho])
  · rename_i t x ho
    obtain ⟨ca, ha, hc⟩ := with1_ok hc
    split at hc
    · rename_i ht; cases hc
      exact val_sound (opRangeS_ok ht hR (con ha) hr) (by simp only [execOp, ho])
    · rename_i kt et ht; cases hc
      exact val_sound (opRangeM_ok ht hR (con ha) hr) (by simp only [execOp, ho])
    · cases hc
  · rename_i it s ho
    obtain ⟨ca, ha, hc⟩ := with1_ok hc
    cases hc
    exact val_sound (opNext_ok (ty := o.type) hR (con ha) hr) (by simp only [execOp, ho])
  · rename_i it ho
    obtain ⟨ca, ha, hc⟩ := with1_ok hc
    cases hc
    exact keep_sound hR hr (fun v hv => opEntry_ok hR (con ha) hv) (by simp only [execOp, ho])
  · rename_i x xt t ok ho
    obtain ⟨ca, ha, hc⟩ := with1_ok hc
    cases hc
    exact keep_sound hR hr (fun v hv => opTypeAssert_ok (xt := xt) (con ha) hv) (by simp only [execOp, ho])
  · rename_i x i ho
    obtain ⟨ca, ha, hc⟩ := with1_ok hc
    cases hc
    refine keep_sound (s := Instr.extract (Act.eval ⟨tm, ds⟩ x) i) hR hr (fun v hv => ?_) (by simp only [execOp, ho])
    have hx := con ha
    unfold opExtract at hv
    split at hv
    · rename_i l hl
      rw [hl] at hx
      generalize hxv : Act.eval ⟨tm, ds⟩ x = xv at hx
      cases hx with
      | tuple hx =>
        rename_i l2
        unfold ofO at hv
        split at hv
        · rename_i y hy; cases hv
          obtain ⟨z, h1, h2⟩ := hx.get _ _ hy
          refine ⟨z, ?_, h2⟩
          have : (⟨l2⟩ : Array Value)[i]? = some z := by simpa using h1
          simp only [Instr.extract, this]
          rfl
        · cases hv
    · cases hv
  · rename_i call ho
    exact cCall_sound ho hc hr hG hA hR
  · rename_i call ho
    split at hc
    · rename_i f hcal
      obtain ⟨g, hg, hc⟩ := with1_ok hc
      split at hc
      · rename_i l hl; cases hc
        have hf := con hg
        have ha := cOs_con (ds := ds) hG hA hl
        simp only [evC] at hr
        unfold opDefer at hr
        split at hr
        · rename_i fn first captured hfv
          split at hr
          · cases hr
            rw [hfv] at hf
            generalize hv : Act.eval ⟨tm, ds⟩ f = fv at hf
            cases hf with
            | func h1 h2 =>
              refine ⟨rfl, _, .call h2 (h1.append ha), ?_⟩
              have hargs : call.args.map (Act.eval ⟨tm, ds⟩) = ⟨call.args.toList.map (Act.eval ⟨tm, ds⟩)⟩ := by apply Array.ext'; simp
              simp only [execOp, ho, resolve, hcal, hv, Deferred.ofValue, Sem.run_bind, Sem.run_pure, Result.andThen_ok, hargs]
              simp
          · cases hr
        · cases hr
      · cases hc
    · cases hc
  · cases hc

end Go.Dr

/-
  A function's code: the abstract run is the machine's. Frames in the midst of a run, and the operations of a region.
-/
namespace Go.Dr
open Go.RowKit

variable {P : Program} {B : Nat} {w0 w w' : World} {φ : Phi} {h h' : AH}

/-- a frame in the midst of a run -/
def mk (b : Frame) (tm : Array Value) (ds : List Deferred) (todo : List Item) : Frame :=
  { fn := b.fn, tmps := tm, todo, defers := ds, mode := .run, kind := b.kind, roundOf := b.roundOf }

theorem mk_eval (b : Frame) (tm : Array Value) (ds : List Deferred) (todo : List Item) : (mk b tm ds todo).eval = Act.eval ⟨tm, ds⟩ := by
  funext x; cases x <;> rfl

def putT (tm : Array Value) (d : Option Tmp) (v : Value) : Array Value :=
  match d with
  | some d => tm.setIfInBounds d v
  | none => tm

theorem ActRel.put {a : AAct} {tm : Array Value} {v : AV} {v' : Value} (hA : ActRel φ a tm) (d : Option Tmp) (hv : Con φ v v') : ActRel φ (a.put d v) (putT tm d v') := by
  cases d with
  | none => exact hA
  | some d =>
    unfold AAct.put putT
    simp only
    cases hb : Nat.blt d a.n with
    | false =>
      have hd : ¬ d < a.n := fun e => by
        have e2 : Nat.blt d a.n = true := Nat.blt_eq.symm ▸ e
        rw [e2] at hb; cases hb
      simp only [cond_false]
      have : tm.setIfInBounds d v' = tm := by
        apply Array.ext
        · simp
        · intro i h1 h2
          rw [Array.getElem_setIfInBounds]
          split
          · rename_i e; subst e; exact absurd (by rw [← hA.size]; exact h2) hd
          · rfl
      rw [this]; exact hA
    | true =>
      simp only [cond_true]
      have hd : d < a.n := Nat.blt_eq ▸ hb
      refine ⟨by simp only [Array.size_setIfInBounds]; exact hA.size, fun i => ?_⟩
      simp only [AAct.val, PT.get_set]
      by_cases hi : i = d
      · subst hi
        rw [if_pos rfl]
        simp only [Array.getD_eq_getD_getElem?, Array.getElem?_setIfInBounds_self_of_lt (by rw [hA.size]; exact hd), Option.getD_some]
        exact hv
      · rw [if_neg hi]
        have := hA.val i
        simp only [AAct.val] at this
        simp only [Array.getD_eq_getD_getElem?, Array.getElem?_setIfInBounds_ne (fun e => hi e.symm)] at this ⊢
        exact this

inductive DefsR (φ : Phi) : List ADef → List Deferred → Prop
  | nil : DefsR φ [] []
  | cons {d : ADef} {d' : Deferred} {l : List ADef} {l' : List Deferred} (h : DefR φ d d') (t : DefsR φ l l') : DefsR φ (d :: l) (d' :: l')

theorem DefsR.mono {φ ψ : Phi} (hle : φ.le ψ) {l : List ADef} {l' : List Deferred} (h : DefsR φ l l') : DefsR ψ l l' := by
  induction h with
  | nil => exact .nil
  | cons h _ ih => exact .cons (h.mono hle) ih

/-- a frame's state against the abstract one -/
structure St (P : Program) (B : Nat) (w0 : World) (φ : Phi) (a : AAct) (h : AH) (rd : Bool) (tm : Array Value) (ds : List Deferred) (w : World) : Prop where
  act : ActRel φ a tm
  defs : DefsR φ a.ds ds
  rel : Rel B w0 φ h w
  glob : GlobRel P φ
  rd : a.rd = rd

theorem AAct.put_ds (a : AAct) (d : Option Tmp) (v : AV) : (a.put d v).ds = a.ds ∧ (a.put d v).rd = a.rd ∧ (a.put d v).n = a.n := by
  unfold AAct.put; split
  · cases Nat.blt _ _ <;> exact ⟨rfl, rfl, rfl⟩
  · exact ⟨rfl, rfl, rfl⟩

theorem St.put {a : AAct} {rd : Bool} {tm : Array Value} {ds : List Deferred} (s : St P B w0 φ a h rd tm ds w) {φ' : Phi} {v : AV} {v' : Value} (hle : φ.le φ') (hv : Con φ' v v') (hR : Rel B w0 φ' h' w') (d : Option Tmp) :
    St P B w0 φ' (a.put d v) h' rd (putT tm d v') ds w' :=
  ⟨(s.act.mono hle).put d hv, by rw [(a.put_ds d v).1]; exact s.defs.mono hle, hR, s.glob.mono hle, by rw [(a.put_ds d v).2.1]; exact s.rd⟩

/-- a call, run from any frame -/
def CallsK (P : Program) (kind : CallKind) (f : FuncId) (args : Array Value) (w : World) (R : Value → World → Prop) : Prop :=
  ∀ cs, ∃ v w' fr fn, R v w' ∧ Steps P (lone (Frame.enter P f args kind) cs w) (lone fr cs w') ∧
    fr.fn = f ∧ fr.mode = .returning ∧ fr.defers = [] ∧ fr.kind = kind ∧ P.funcs[fr.fn]? = some fn ∧ (results fn fr.tmps).run P w' = .ok v w'

def CallOk (P : Program) (B : Nat) (w0 : World) (call : CallF) : Prop :=
  ∀ f args h v h', call (.fn f) args h = .ok (v, h') → ∀ φ w args', ConL φ args args' → GlobRel P φ → Rel B w0 φ h w →
    (∀ w, (callFunc f ⟨args'⟩).run P w = .ok (.enter f ⟨args'⟩) w) ∧
    CallsK P .normal f ⟨args'⟩ w (fun v' w' => ∃ φ', Con φ' v v' ∧ Rel B w0 φ' h' w' ∧ Ext φ h φ' h')

/-- the same, of deferred calls -/
def DefOk (P : Program) (B : Nat) (w0 : World) (call : CallF) : Prop :=
  ∀ f args h v h', call (.fn f) args h = .ok (v, h') → ∀ φ w args', ConL φ args args' → GlobRel P φ → Rel B w0 φ h w →
    (∀ w, (callFunc f ⟨args'⟩).run P w = .ok (.enter f ⟨args'⟩) w) ∧
    CallsK P .deferred f ⟨args'⟩ w (fun v' w' => ∃ φ', Con φ' v v' ∧ Rel B w0 φ' h' w' ∧ Ext φ h φ' h')

def YieldOk (P : Program) (B : Nat) (w0 : World) (call : CallF) : Prop :=
  ∀ l args h v h', call (.yield l) args h = .ok (v, h') → ∀ φ w p args', φ l = some p → ConL φ args args' → GlobRel P φ → Rel B w0 φ h w →
    ∃ fn tmps assign body, (Instr.yield p.blk ⟨args'⟩).run P w = .ok (.round p.blk fn tmps assign body) w ∧
      ∀ c cs, ∃ v' φ' w', Steps P (lone (Frame.round p.blk fn tmps assign body .normal) (c :: cs) w) (lone (c.finish v') cs w') ∧ Con φ' v v' ∧ Rel B w0 φ' h' w' ∧ Ext φ h φ' h'

section moves
variable {b : Frame} {tm : Array Value} {ds : List Deferred} {k : List Item} {cs : List Frame} {ops : Array Oper}

theorem go_skip : step P (lone (mk b tm ds (.code .skip :: k)) cs w) = .next (lone (mk b tm ds k) cs w) := step_lone_go (by simp [stepG, stepG.exec, mk])
theorem go_label {l : Nat} : step P (lone (mk b tm ds (.code (.label l) :: k)) cs w) = .next (lone (mk b tm ds k) cs w) := step_lone_go (by simp [stepG, stepG.exec, mk])
theorem go_inBlock {id : Nat} : step P (lone (mk b tm ds (.inBlock id :: k)) cs w) = .next (lone (mk b tm ds k) cs w) := step_lone_go (by simp [stepG, stepG.exec, mk])
theorem go_inScope {c : Code} : step P (lone (mk b tm ds (.inScope c :: k)) cs w) = .next (lone (mk b tm ds k) cs w) := step_lone_go (by simp [stepG, stepG.exec, mk])
theorem go_seq {x y : Code} : step P (lone (mk b tm ds (.code (.seq x y) :: k)) cs w) = .next (lone (mk b tm ds (.code x :: .code y :: k)) cs w) := step_lone_go (by simp [stepG, stepG.exec, mk])
theorem go_cond {c : Operand} {x y : Code} {t : Bool} (hc : Act.eval ⟨tm, ds⟩ c = .bool t) :
    step P (lone (mk b tm ds (.code (.cond c x y) :: k)) cs w) = .next (lone (mk b tm ds (.code (if t then x else y) :: k)) cs w) :=
  step_lone_go (by
    have := congrFun (mk_eval b tm ds (.code (.cond c x y) :: k)) c
    simp only [mk] at this
    simp [stepG, stepG.exec, mk, this, hc])
theorem go_block {id : Nat} {c : Code} : step P (lone (mk b tm ds (.code (.block id c) :: k)) cs w) = .next (lone (mk b tm ds (.code c :: .inBlock id :: k)) cs w) := step_lone_go (by simp [stepG, stepG.exec, mk])
theorem go_scope {c : Code} : step P (lone (mk b tm ds (.code (.scope c) :: k)) cs w) = .next (lone (mk b tm ds (.code c :: .inScope c :: k)) cs w) := step_lone_go (by simp [stepG, stepG.exec, mk])
theorem go_loop {c : Code} : step P (lone (mk b tm ds (.code (.loop c) :: k)) cs w) = .next (lone (mk b tm ds (.code c :: .inLoop c :: k)) cs w) := step_lone_go (by simp [stepG, stepG.exec, mk])
theorem go_inLoop {c : Code} : step P (lone (mk b tm ds (.inLoop c :: k)) cs w) = .next (lone (mk b tm ds (.code c :: .inLoop c :: k)) cs w) := step_lone_go (by simp [stepG, stepG.exec, mk])
theorem go_exit {id : Nat} {k' : List Item} (hk : exitTo id k = some k') : step P (lone (mk b tm ds (.code (.exit id) :: k)) cs w) = .next (lone (mk b tm ds k') cs w) := step_lone_go (by simp [stepG, stepG.exec, mk, hk])
theorem go_region {id : Nat} : step P (lone (mk b tm ds (.code (.region id ops false) :: k)) cs w) = .next (lone (mk b tm ds (.inRegion ops (List.range ops.size) :: k)) cs w) := step_lone_go (by simp [stepG, stepG.exec, mk])
theorem go_region_draw {id : Nat} : step P (lone (mk b tm ds (.code (.region id ops true) :: k)) cs w) =
    .next (lone (mk b tm ds (.inRegion ops (Region.schedule (P.follows .mixedOrders) ops (w.tape w.drawn (.order b.fn id))) :: k)) cs w.drew) := step_lone_go (by simp [stepG, stepG.exec, mk, choose, Sem.run, Question.forced, Question.cut])
theorem go_regionEnd : step P (lone (mk b tm ds (.inRegion ops [] :: k)) cs w) = .next (lone (mk b tm ds k) cs w) := step_lone_go (by simp [stepG, stepG.exec, mk])
theorem go_ret (hb : b.roundOf = none) : step P (lone (mk b tm ds (.code .ret :: k)) cs w) = .next (lone { mk b tm ds (.code .ret :: k) with mode := .returning } cs w) := step_lone_go (by simp [stepG, stepG.exec, mk, hb])
theorem go_end (hb : b.roundOf = none) : step P (lone (mk b tm ds []) cs w) = .next (lone { mk b tm ds [] with mode := .returning } cs w) := step_lone_go (by simp [stepG, stepG.exec, mk, hb])

theorem mk_finish {i : Nat} {rest : List Nat} {o : Oper} (ho : ops[i]? = some o) (v : Value) :
    (mk b tm ds (.inRegion ops (i :: rest) :: k)).finish v = mk b (putT tm o.dst v) ds (.inRegion ops rest :: k) := by
  cases hd : o.dst <;> simp [Frame.finish, mk, putT, ho, hd]

theorem go_unwanted {i : Nat} {rest : List Nat} {o : Oper} (ho : ops[i]? = some o) (hw : Region.wanted o (yielded ops tm) = false) :
    step P (lone (mk b tm ds (.inRegion ops (i :: rest) :: k)) cs w) = .next (lone (mk b (putT tm o.dst undef) ds (.inRegion ops rest :: k)) cs w) := by
  rw [← mk_finish ho]
  exact step_lone_go (by simp only [mk]; simp [stepG, stepG.exec, ho, hw])

theorem stepG_oper {i : Nat} {rest : List Nat} {o : Oper} (ho : ops[i]? = some o) (hw : Region.wanted o (yielded ops tm) = true) (hd : b.roundOf = none ∨ ∀ c, o.op ≠ .defer c) :
    stepG P true { frame := mk b tm ds (.inRegion ops (i :: rest) :: k), callers := cs, status := .running, dying := none } w =
      stepG.apply P true (mk b tm ds (.inRegion ops (i :: rest) :: k)) cs none (execOp (Act.eval ⟨tm, ds⟩) o) w := by
  have he := mk_eval b tm ds (.inRegion ops (i :: rest) :: k)
  simp only [mk] at he
  simp only [stepG, stepG.exec, mk, ho, hw, Option.map_some, Option.getD_some, if_true, stepG.oper, Frame.oper?, he]
  split
  · rename_i l c h1 h2
    rcases hd with hd | hd
    · rw [hd] at h1; cases h1
    · exact absurd h2 (hd c)
  · rfl

variable {i : Nat} {rest : List Nat} {o : Oper} (ho : ops[i]? = some o) (hw : Region.wanted o (yielded ops tm) = true)
include ho hw

theorem go_value {v : Value} (hd : b.roundOf = none ∨ ∀ c, o.op ≠ .defer c) (hr : (execOp (Act.eval ⟨tm, ds⟩) o).run P w = .ok (.value v) w') :
    step P (lone (mk b tm ds (.inRegion ops (i :: rest) :: k)) cs w) = .next (lone (mk b (putT tm o.dst v) ds (.inRegion ops rest :: k)) cs w') := by
  rw [← mk_finish ho]
  exact step_lone_go (by rw [stepG_oper ho hw hd]; simp [stepG.apply, hr])

theorem go_opskip (hd : b.roundOf = none ∨ ∀ c, o.op ≠ .defer c) (hr : (execOp (Act.eval ⟨tm, ds⟩) o).run P w = .ok .skip w') :
    step P (lone (mk b tm ds (.inRegion ops (i :: rest) :: k)) cs w) = .next (lone (mk b (putT tm o.dst undef) ds (.inRegion ops rest :: k)) cs w') := by
  rw [← mk_finish ho]
  exact step_lone_go (by rw [stepG_oper ho hw hd]; simp [stepG.apply, hr])

theorem go_enter {f : FuncId} {args : Array Value} (hd : b.roundOf = none ∨ ∀ c, o.op ≠ .defer c) (hr : (execOp (Act.eval ⟨tm, ds⟩) o).run P w = .ok (.enter f args) w') :
    step P (lone (mk b tm ds (.inRegion ops (i :: rest) :: k)) cs w) = .next (lone (Frame.enter P f args .normal) (mk b tm ds (.inRegion ops (i :: rest) :: k) :: cs) w') :=
  step_lone_go (by rw [stepG_oper ho hw hd]; simp [stepG.apply, hr, mk])

theorem go_round {l : Nat} {f : FuncId} {tmps : Array Value} {assign body : Code} (hd : b.roundOf = none ∨ ∀ c, o.op ≠ .defer c) (hr : (execOp (Act.eval ⟨tm, ds⟩) o).run P w = .ok (.round l f tmps assign body) w') :
    step P (lone (mk b tm ds (.inRegion ops (i :: rest) :: k)) cs w) = .next (lone (Frame.round l f tmps assign body .normal) (mk b tm ds (.inRegion ops (i :: rest) :: k) :: cs) w') :=
  step_lone_go (by rw [stepG_oper ho hw hd]; simp [stepG.apply, hr, mk])

theorem go_defer {d : Deferred} (hb : b.roundOf = none) (hr : (execOp (Act.eval ⟨tm, ds⟩) o).run P w = .ok (.defer d) w') :
    step P (lone (mk b tm ds (.inRegion ops (i :: rest) :: k)) cs w) = .next (lone (mk b (putT tm o.dst undef) (d :: ds) (.inRegion ops rest :: k)) cs w') := by
  rw [← mk_finish ho]
  exact step_lone_go (by rw [stepG_oper ho hw (.inl hb)]; simp [stepG.apply, hr, mk])

end moves

/-- the end of a call is the caller's next -/
theorem go_leave {fr c : Frame} {cs : List Frame} {v : Value} {fn : Func} (hm : fr.mode = .returning) (hd : fr.defers = []) (hk : fr.kind = .normal)
    (hf : P.funcs[fr.fn]? = some fn) (hr : (results fn fr.tmps).run P w = .ok v w) : step P (lone fr (c :: cs) w) = .next (lone (c.finish v) cs w) :=
  step_lone_go (by simp [stepG, unwind, doReturn, hm, hd, hk, hf, hr])

theorem comp_defer {o : Oper} {c : COp} {call : Call} {a : AAct} {n : AN} (ho : o.op = .defer call) (hc : comp P o = .ok c) (hr : evC P c a h = .ok (n, h')) : ∃ d, n = .defer d := by
  unfold comp at hc
  rw [ho] at hc
  simp only at hc
  split at hc
  · obtain ⟨g, hg, hc⟩ := with1_ok hc
    split at hc
    · cases hc
      simp only [evC] at hr
      unfold opDefer at hr
      split at hr
      · split at hr
        · cases hr; exact ⟨_, rfl⟩
        · cases hr
      · cases hr
    · cases hc
  · cases hc

theorem undef_con : Con φ aundef undef := .tuple .nil

theorem wanted_ok {ops : Array Oper} {o : Oper} {a : AAct} {tm : Array Value} {b : Bool} (hA : ActRel φ a tm) (hw : wantedA ops o a = .ok b) : Region.wanted o (yielded ops tm) = b := by
  unfold wantedA at hw
  unfold Region.wanted
  split at hw
  · rename_i hg; cases hw; rw [hg]
  · rename_i j want hg
    rw [hg]
    simp only [yielded]
    split at hw
    · rename_i d hd
      rw [hd]
      have hv := hA.val d
      simp only [Option.bind_some]
      rw [Array.getD_eq_getD_getElem?] at hv
      generalize a.val d = av at hv hw
      split at hw
      · rename_i x; cases hw
        cases he : tm[d]? with
        | none => rw [he] at hv; cases hv
        | some v =>
          rw [he] at hv
          simp only [Option.getD_some] at hv
          cases hv
          simp
      · cases hw
      · rename_i x h1 h2; cases hw
        cases he : tm[d]? with
        | none => rfl
        | some v =>
          rw [he] at hv
          simp only [Option.getD_some] at hv
          split
          · rename_i y hy
            cases hy
            cases hv
            · exact absurd rfl (h1 _)
            · exact absurd rfl (h2 _)
          · rfl
    · rename_i hd; cases hw
      rw [hd]; rfl

/-- one operation -/
theorem evOper_ok {call : CallF} (hC : CallOk P B w0 call) (hY : YieldOk P B w0 call) {o : Oper} {a a' : AAct} (he : evOper P call o a h = .ok (a', h'))
    {b : Frame} {tm : Array Value} {ds : List Deferred} (s : St P B w0 φ a h b.roundOf.isSome tm ds w) {ops : Array Oper} {i : Nat} {rest : List Nat} (ho : ops[i]? = some o)
    (hw : Region.wanted o (yielded ops tm) = true) (k : List Item) (cs : List Frame) :
    ∃ φ' tm' ds' w', Steps P (lone (mk b tm ds (.inRegion ops (i :: rest) :: k)) cs w) (lone (mk b tm' ds' (.inRegion ops rest :: k)) cs w') ∧
      St P B w0 φ' a' h' b.roundOf.isSome tm' ds' w' ∧ Ext φ h φ' h' := by
  unfold evOper at he
  split at he
  · rename_i c hc
    split at he
    · rename_i n h1 hr
      have hs := evC_sound (ds := ds) hc hr s.glob s.act s.rel
      have hd : (∀ d, n ≠ .defer d) → b.roundOf = none ∨ ∀ c, o.op ≠ .defer c := fun hn => .inr fun call e => by
        obtain ⟨d, e⟩ := comp_defer e hc hr
        exact hn d e
      split at he
      · rename_i v
        rw [forceV_eq] at he; cases he
        obtain ⟨v', w', φ', h2, h3, h4, h5⟩ := hs
        exact ⟨φ', _, ds, w', .one (go_value ho hw (hd (by simp)) h2), s.put h5.le h3 h4 _, h5⟩
      · cases he
        obtain ⟨w', h2, h4, h5⟩ := hs
        exact ⟨φ, _, ds, w', .one (go_opskip ho hw (hd (by simp)) h2), s.put (.refl _) undef_con h4 _, h5⟩
      · rename_i d
        cases hrd : a.rd with
        | true => rw [hrd] at he; cases he
        | false =>
          rw [hrd] at he; cases he
          obtain ⟨rfl, d', hd', h2⟩ := hs
          have hb : b.roundOf = none := by have := s.rd; rw [hrd] at this; cases hb : b.roundOf with
            | none => rfl
            | some l => rw [hb] at this; cases this
          refine ⟨φ, _, _, w, .one (go_defer ho hw hb h2), ?_, .refl _ _⟩
          have s2 : St P B w0 φ (⟨a.n, a.ts, d :: a.ds, false⟩ : AAct) h' b.roundOf.isSome tm (d' :: ds) w := ⟨⟨s.act.size, s.act.val⟩, .cons hd' s.defs, s.rel, s.glob, by rw [hb]; rfl⟩
          exact s2.put (.refl _) undef_con s.rel _
      · rename_i f args
        obtain ⟨rfl, args', hargs, h2⟩ := hs
        split at he
        · rename_i v h3 hcall
          rw [forceV_eq] at he; cases he
          obtain ⟨hen, hK⟩ := hC _ _ _ _ _ hcall φ w args' hargs s.glob s.rel
          obtain ⟨v', w', fr, fn, ⟨φ', c1, c2, c3⟩, hst, e1, e2, e3, e4, e5, e6⟩ := hK (mk b tm ds (.inRegion ops (i :: rest) :: k) :: cs)
          rw [hen] at h2
          refine ⟨φ', _, ds, w', .head (go_enter ho hw (hd (by simp)) h2) (hst.trans (.one ?_)), s.put c3.le c1 c2 _, c3⟩
          rw [← mk_finish ho]
          exact go_leave e2 e3 e4 e5 e6
        · cases he
      · rename_i f args
        obtain ⟨rfl, p, args', hp, hargs, h2⟩ := hs
        split at he
        · rename_i v h3 hcall
          rw [forceV_eq] at he; cases he
          obtain ⟨fn, tmps, assign, body, hy, hK⟩ := hY _ _ _ _ _ hcall φ w p args' hp hargs s.glob s.rel
          obtain ⟨v', φ', w', hst, c1, c2, c3⟩ := hK (mk b tm ds (.inRegion ops (i :: rest) :: k)) cs
          rw [hy] at h2
          refine ⟨φ', _, ds, w', .head (go_round ho hw (hd (by simp)) h2) ?_, s.put c3.le c1 c2 _, c3⟩
          rw [← mk_finish ho]
          exact hst
        · cases he
    · cases he
  · cases he

end Go.Dr

/-
  A function's code: the abstract run is the machine's. Code, deferred calls, results, rounds, calls.
-/
namespace Go.Dr
open Go.RowKit

variable {P : Program} {B : Nat} {w0 w w' : World} {φ : Phi} {h h' : AH}

/-- the operations of a list -/
theorem evOps_ok {call : CallF} (hC : CallOk P B w0 call) (hY : YieldOk P B w0 call) {ops : Array Oper} {b : Frame} (k : List Item) (cs : List Frame) :
    ∀ (l : List Oper) (is : List Nat) (a a' : AAct) (h h' : AH) (φ : Phi) (tm : Array Value) (ds : List Deferred) (w : World), is.map (ops[·]?) = l.map some → evOps P call ops l a h = .ok (a', h') →
      St P B w0 φ a h b.roundOf.isSome tm ds w → ∃ φ' tm' ds' w', Steps P (lone (mk b tm ds (.inRegion ops is :: k)) cs w) (lone (mk b tm' ds' k) cs w') ∧
        St P B w0 φ' a' h' b.roundOf.isSome tm' ds' w' ∧ Ext φ h φ' h'
  | [], is, a, a', h, h', φ, tm, ds, w, hl, he, s => by
    have : is = [] := by simpa using hl
    subst this
    cases he
    exact ⟨φ, tm, ds, w, .one go_regionEnd, s, .refl _ _⟩
  | o :: l, is, a, a', h, h', φ, tm, ds, w, hl, he, s => by
    cases is with
    | nil => simp at hl
    | cons i rest =>
      simp only [List.map_cons, List.cons.injEq] at hl
      obtain ⟨ho, hl⟩ := hl
      simp only [evOps] at he
      split at he
      · rename_i hw
        split at he
        · rename_i a1 h1 h2
          obtain ⟨φ1, tm1, ds1, w1, st1, s1, e1⟩ := evOper_ok hC hY h2 s ho (wanted_ok s.act hw) k cs (rest := rest)
          obtain ⟨φ2, tm2, ds2, w2, st2, s2, e2⟩ := evOps_ok hC hY k cs l rest _ _ _ _ _ _ _ _ hl he s1
          exact ⟨φ2, tm2, ds2, w2, st1.trans st2, s2, e1.trans e2⟩
        · cases he
      · rename_i hw
        have s1 := s.put (.refl _) undef_con s.rel o.dst
        obtain ⟨φ2, tm2, ds2, w2, st2, s2, e2⟩ := evOps_ok hC hY k cs l rest _ _ _ _ _ _ _ _ hl he s1
        exact ⟨φ2, tm2, ds2, w2, .head (go_unwanted ho (wanted_ok s.act hw)) st2, s2, e2⟩
      · cases he

/-- a region whose order is drawn: any order that its marks allow -/
def DrawOk (P : Program) (B : Nat) (w0 : World) (call : CallF) : Prop :=
  ∀ ops a h a' h', evDraw P call ops a h = .ok (a', h') → ∀ φ b tm ds w, St P B w0 φ a h (Option.isSome (Frame.roundOf b)) tm ds w → ∀ t k cs,
    ∃ φ' tm' ds' w', Steps P (lone (mk b tm ds (.inRegion ops (Region.linearise .any ops t) :: k)) cs w) (lone (mk b tm' ds' k) cs w') ∧
      St P B w0 φ' a' h' b.roundOf.isSome tm' ds' w' ∧ Ext φ h φ' h'

def Arr (P : Program) (m : Machine) (b : Frame) (k : List Item) (cs : List Frame) (tm : Array Value) (ds : List Deferred) (w : World) : AX → Prop
  | .normal => Steps P m (lone (mk b tm ds k) cs w)
  | .exit id => ∃ k1, exitTo id k1 = exitTo id k ∧ Steps P m (lone (mk b tm ds (.code (.exit id) :: k1)) cs w)
  | .ret => ∃ k1, Steps P m (lone (mk b tm ds (.code .ret :: k1)) cs w)
  | .goto _ => False

section
variable {m m1 : Machine} {b : Frame} {k : List Item} {cs : List Frame} {tm : Array Value} {ds : List Deferred} {x : AX}

theorem Arr.of_steps (st : Steps P m m1) (r : Arr P m1 b k cs tm ds w x) : Arr P m b k cs tm ds w x := by
  cases x with
  | normal => exact st.trans r
  | exit id => obtain ⟨k1, e, s⟩ := r; exact ⟨k1, e, st.trans s⟩
  | ret => obtain ⟨k1, s⟩ := r; exact ⟨k1, st.trans s⟩
  | goto l => exact r

theorem Arr.pass {it : Item} (hx : ∀ id, x = .exit id → exitTo id (it :: k) = exitTo id k) (hn : x ≠ .normal) (r : Arr P m b (it :: k) cs tm ds w x) : Arr P m b k cs tm ds w x := by
  cases x with
  | normal => exact absurd rfl hn
  | exit id => obtain ⟨k1, e, s⟩ := r; exact ⟨k1, e.trans (hx id rfl), s⟩
  | ret => exact r
  | goto l => exact r
end

/-- code, against its abstract run -/
def CodeOk (P : Program) (B : Nat) (w0 : World) (f : AAct → AH → R (AX × AAct × AH)) (it : Item) : Prop :=
  ∀ a h x a' h', f a h = .ok (x, a', h') → ∀ φ b tm ds w, St P B w0 φ a h (Option.isSome (Frame.roundOf b)) tm ds w → ∀ k cs,
    ∃ φ' tm' ds' w', Arr P (lone (mk b tm ds (it :: k)) cs w) b k cs tm' ds' w' x ∧ St P B w0 φ' a' h' b.roundOf.isSome tm' ds' w' ∧ Ext φ h φ' h'

theorem evLoop_ok {f : AAct → AH → R (AX × AAct × AH)} {c : Code} (hf : CodeOk P B w0 f (.code c)) : ∀ n a h x a' h', evLoop f n a h = .ok (x, a', h') →
    ∀ φ b tm ds w, St P B w0 φ a h (Option.isSome (Frame.roundOf b)) tm ds w → ∀ k cs,
    ∃ φ' tm' ds' w', Arr P (lone (mk b tm ds (.code c :: .inLoop c :: k)) cs w) b k cs tm' ds' w' x ∧ St P B w0 φ' a' h' b.roundOf.isSome tm' ds' w' ∧ Ext φ h φ' h'
  | 0 => fun a h x a' h' he => by cases he
  | n + 1 => fun a h x a' h' he φ b tm ds w s k cs => by
    simp only [evLoop] at he
    split at he
    · rename_i a1 h1 hb
      obtain ⟨φ1, tm1, ds1, w1, r1, s1, e1⟩ := hf _ _ _ _ _ hb φ b tm ds w s (.inLoop c :: k) cs
      obtain ⟨φ2, tm2, ds2, w2, r2, s2, e2⟩ := evLoop_ok hf n _ _ _ _ _ he φ1 b tm1 ds1 w1 s1 k cs
      exact ⟨φ2, tm2, ds2, w2, .of_steps (Steps.trans r1 (.one go_inLoop)) r2, s2, e1.trans e2⟩
    · rename_i hn
      obtain ⟨φ1, tm1, ds1, w1, r1, s1, e1⟩ := hf _ _ _ _ _ he φ b tm ds w s (.inLoop c :: k) cs
      refine ⟨φ1, tm1, ds1, w1, .pass (fun id _ => rfl) (fun e => ?_) r1, s1, e1⟩
      subst e
      exact hn _ _ he

theorem Rel.putObj {φ : Phi} (r : Rel B w0 φ h w) {i : Nat} {p : Pl} {o o' : AObj} {O : Obj} (hi : φ i = some p) (hg : h.get i = some o) (hw : o.writable = true) (hw' : o'.writable = true)
    (ho : ObjRel φ (w.putObj p.blk O) p o') : Rel B w0 φ (h.set i o') (w.putObj p.blk O) := by
  have hB := r.own _ _ _ hi hg hw
  refine r.write hi hg hw hw' ⟨rfl, rfl, rfl, by simp [World.putObj], fun k hk => World.putObj_heap_other (by omega)⟩ (fun k hk => World.putObj_heap_other hk) ho

theorem ObjRel.loop_get {p : Pl} {r : ALoop} (ho : ObjRel φ w p (.loop r)) : ∃ r', w.heap[p.blk]? = some (.loop r') ∧ LoopRel φ r r' := ho

theorem Rel.putLoop {φ : Phi} (R : Rel B w0 φ h w) {i : Nat} {p : Pl} {r : ALoop} {r' : Loop} (hi : φ i = some p) (hg : h.get i = some (.loop r)) (hr : LoopRel φ r r') (st : LoopState) (pd : Option Code) :
    Rel B w0 φ (h.set i (.loop { r with state := st, pending := pd })) (w.putObj p.blk (.loop { r' with state := st, pending := pd })) := by
  obtain ⟨r1, h1, h2⟩ := (R.obj _ _ _ hi hg).loop_get
  exact R.putObj hi hg rfl rfl ⟨_, World.putObj_heap_same (Array.getElem?_eq_some_iff.1 h1).1, { hr with state := rfl, pending := rfl }⟩

theorem go_endLoop {b : Frame} {tm : Array Value} {ds : List Deferred} {k : List Item} {cs : List Frame} {l : Nat} {r : Loop} (hl : w.heap[l]? = some (.loop r)) (hb : r.state ≠ .busy) :
    step P (lone (mk b tm ds (.endRangeFunc l :: k)) cs w) = .next (lone (mk b tm ds ((r.pending.map Item.code).toList ++ k)) cs (w.putObj l (.loop { r with state := .exhausted }))) :=
  stepR_endRangeFunc (a := ⟨tm, ds⟩) (run_endLoop hl hb)

theorem go_rangeFunc {b : Frame} {tm : Array Value} {ds : List Deferred} {k : List Item} {cs : List Frame} {f : Operand} {params : Array Tmp} {assign body : Code} {g : FuncId} {first captured : Array Value}
    (hb : b.roundOf = none) (hf : Act.eval ⟨tm, ds⟩ f = .func (.func g) first captured) {w2 : World}
    (hw2 : w2 = (w.alloc (.deferred (some []))).alloc (.loop { state := .ready, pending := none, fn := b.fn, tmps := tm, params, assign, body, defers := w.heap.size }))
    (hc : (callFunc g (first ++ #[.func (.yield (w.heap.size + 1)) #[] #[]] ++ captured)).run P w2 = .ok (.enter g (first ++ #[.func (.yield (w.heap.size + 1)) #[] #[]] ++ captured)) w2) :
    step P (lone (mk b tm ds (.code (.rangeFunc f params assign body) :: k)) cs w) =
      .next (lone (Frame.enter P g (first ++ #[.func (.yield (w.heap.size + 1)) #[] #[]] ++ captured) .normal)
        (mk b tm ({ target := .collected w.heap.size, args := #[] } :: ds) (.inRangeFunc (w.heap.size + 1) :: k) :: cs) w2) := by
  refine stepR_rangeFunc (a := ⟨tm, ds⟩) (d := { target := .fn (.func g) captured, args := first ++ #[.func (.yield (w.heap.size + 1)) #[] #[]] }) (w₁ := w2) (w₁' := w2)
    (mark := [{ target := .collected w.heap.size, args := #[] }]) (l := w.heap.size + 1) ?_ ?_ ?_
  · rw [hb, run_enterLoop_outer, hw2]
  · simp only [resolve, hf, Deferred.ofValue, Sem.run_pure]
    simp [Act.eval]
  · simp only [invoke]
    exact hc

/-- a range over a function -/
theorem opGo_ok {call : CallF} (hC : CallOk P B w0 call) {f : Operand} {c : CO} {params : Array Tmp} {assign body : Code} (hf : cO P f = .ok c) :
    CodeOk P B w0 (fun a h => opGo call (c.ev a) params assign body a h) (.code (.rangeFunc f params assign body)) := by
  intro a h x a' h' he φ b tm ds w s k cs
  have hv := cO_con (ds := ds) hf s.glob s.act
  simp only [opGo] at he
  split at he
  · rename_i g first captured hfv
    cases hrd : a.rd with
    | true => rw [hrd] at he; cases he
    | false =>
      rw [hrd] at he
      simp only [cond_false, forceN_eq] at he
      have hb : b.roundOf = none := by have := s.rd; rw [hrd] at this; cases hb : b.roundOf with
        | none => rfl
        | some l => rw [hb] at this; cases this
      rw [hfv] at hv
      generalize hev : Act.eval ⟨tm, ds⟩ f = fv at hv
      cases hv with
      | @func _ _ _ first' captured' h1 h2 =>
        have R1 := s.rel.push (room := 0) (o := .deferred (some [])) (O := .deferred (some [])) (alloc_new _ _)
        have X1 := Ext.push s.rel (.deferred (some [])) ⟨w.heap.size, 0, 0⟩
        generalize hφ1 : φ.set h.next ⟨w.heap.size, 0, 0⟩ = φ1 at R1 X1
        have g1 : φ1 h.next = some ⟨w.heap.size, 0, 0⟩ := by rw [← hφ1]; exact Phi.set_same _ _ _
        generalize hL : ({ state := .ready, pending := none, n := a.n, tmps := a.ts, params, assign, body } : ALoop) = L at he
        generalize hL' : ({ state := .ready, pending := none, fn := b.fn, tmps := tm, params, assign, body, defers := w.heap.size } : Loop) = L'
        have hLR : ∀ ψ : Phi, φ.le ψ → LoopRel ψ L L' := fun ψ hle => by
          subst hL hL'
          exact ⟨rfl, rfl, rfl, rfl, rfl, s.act.size, fun i => (s.act.val i).mono hle⟩
        have R2 := R1.push (room := 0) (o := .loop L) (O := .loop L') ⟨L', alloc_new _ _, hLR _ (X1.le.trans (Phi.le_set _ R1.fresh))⟩
        have X2 := Ext.push R1 (.loop L) ⟨(w.alloc (.deferred (some []))).heap.size, 0, 0⟩
        rw [World.size_alloc] at R2 X2
        rw [AH.next_push] at R2 X2
        generalize hφ2 : φ1.set (h.next + 1) ⟨w.heap.size + 1, 0, 0⟩ = φ2 at R2 X2
        have g2 : φ2 (h.next + 1) = some ⟨w.heap.size + 1, 0, 0⟩ := by rw [← hφ2]; exact Phi.set_same _ _ _
        have X := X1.trans X2
        split at he
        · rename_i rv h3 hcall
          have hargs : ConL φ2 (first ++ (.func (.yield (h.next + 1)) [] [] :: captured)) (first' ++ (.func (.yield (w.heap.size + 1)) #[] #[] :: captured')) :=
            (h1.mono X.le).append (.cons (.yield g2) (h2.mono X.le))
          obtain ⟨hen, hK⟩ := hC _ _ _ _ _ hcall φ2 _ _ hargs (s.glob.mono X.le) R2
          have e : (⟨first' ++ (.func (.yield (w.heap.size + 1)) #[] #[] :: captured')⟩ : Array Value) = ⟨first'⟩ ++ #[.func (.yield (w.heap.size + 1)) #[] #[]] ++ ⟨captured'⟩ := by simp
          rw [e] at hK hen
          obtain ⟨v', w3, fr, fn, ⟨φ3, c1, R3, X3⟩, hst, e1, e2, e3, e4, e5, e6⟩ := hK (mk b tm ({ target := .collected w.heap.size, args := #[] } :: ds) (.inRangeFunc (w.heap.size + 1) :: k) :: cs)
          have s0 := go_rangeFunc (P := P) (k := k) (cs := cs) (params := params) (assign := assign) (body := body) hb hev rfl (by rw [hL']; exact hen _)
          rw [hL'] at s0
          have s1 := Steps.head s0 (hst.trans (.one (go_leave e2 e3 e4 e5 e6)))
          rw [show (mk b tm ({ target := .collected w.heap.size, args := #[] } :: ds) (.inRangeFunc (w.heap.size + 1) :: k)).finish v' = mk b tm ({ target := .collected w.heap.size, args := #[] } :: ds) (.endRangeFunc (w.heap.size + 1) :: k) from rfl] at s1
          split at he
          · rename_i r hg
            have hp3 : φ3 (h.next + 1) = some ⟨w.heap.size + 1, 0, 0⟩ := X3.le _ _ g2
            obtain ⟨r', hr1, hr2⟩ := (R3.obj _ _ _ hp3 hg).loop_get
            have key : r.state ≠ .busy → ∀ x, (∀ (b : Frame) tm ds w, Steps P (lone (mk b tm ds ((r.pending.map Item.code).toList ++ k)) cs w) (lone (mk b tm ds ((r.pending.map Item.code).toList ++ k)) cs w) → Arr P (lone (mk b tm ds ((r.pending.map Item.code).toList ++ k)) cs w) b k cs tm ds w x) →
                ∃ φ' tm' ds' w', Arr P (lone (mk b tm ds (.code (.rangeFunc f params assign body) :: k)) cs w) b k cs tm' ds' w' x ∧
                  St P B w0 φ' ⟨a.n, a.ts, .collected h.next :: a.ds, false⟩ (h3.set (h.next + 1) (.loop { r with state := .exhausted })) b.roundOf.isSome tm' ds' w' ∧
                  Ext φ h φ' (h3.set (h.next + 1) (.loop { r with state := .exhausted })) := by
              intro hbusy x hx
              have s2 := go_endLoop (P := P) (b := b) (tm := tm) (ds := { target := .collected w.heap.size, args := #[] } :: ds) (k := k) (cs := cs) hr1 (by rw [hr2.state]; exact hbusy)
              rw [hr2.pending] at s2
              refine ⟨φ3, tm, _, _, .of_steps (s1.trans (.one s2)) (hx b tm _ _ (.refl _ _)), ⟨?_, ?_, R3.putLoop hp3 hg hr2 .exhausted r.pending, (s.glob.mono X.le).mono X3.le, by rw [hb]; rfl⟩, (X.trans X3).trans (.write hp3 _)⟩
              · exact ⟨s.act.size, fun i => ((s.act.val i).mono X.le).mono X3.le⟩
              · exact .cons (.collected (X3.le _ _ (X2.le _ _ g1))) ((s.defs.mono X.le).mono X3.le)
            split at he
            · cases he
            · rename_i hbusy
              split at he
              · rename_i hpd; cases he
                exact key hbusy .normal (fun b tm ds w st => by rw [hpd] at st ⊢; exact st)
              · rename_i hpd; cases he
                exact key hbusy .ret (fun b tm ds w st => by rw [hpd] at st ⊢; exact ⟨k, st⟩)
              · rename_i id hpd; cases he
                exact key hbusy (.exit id) (fun b tm ds w st => by rw [hpd] at st ⊢; exact ⟨k, rfl, st⟩)
              · cases he
          · cases he
        · cases he
  · cases he

end Go.Dr

/-
  A function's code: the abstract run is the machine's. Code joined; deferred calls; results; rounds; calls.
-/
namespace Go.Dr
open Go.RowKit

variable {P : Program} {B : Nat} {w0 w w' : World} {φ : Phi} {h h' : AH}

theorem evCode_ok {call : CallF} {lf : Nat} (hM : P.follows .mixedOrders = true) (hC : CallOk P B w0 call) (hY : YieldOk P B w0 call) (hD : DrawOk P B w0 call) :
    ∀ c : Code, CodeOk P B w0 (evCode P call lf c) (.code c)
  | .skip => fun a h x a' h' he φ b tm ds w s k cs => by cases he; exact ⟨φ, tm, ds, w, .one go_skip, s, .refl _ _⟩
  | .label _ => fun a h x a' h' he φ b tm ds w s k cs => by cases he; exact ⟨φ, tm, ds, w, .one go_label, s, .refl _ _⟩
  | .exit id => fun a h x a' h' he φ b tm ds w s k cs => by cases he; exact ⟨φ, tm, ds, w, ⟨k, rfl, .refl _ _⟩, s, .refl _ _⟩
  | .ret => fun a h x a' h' he φ b tm ds w s k cs => by cases he; exact ⟨φ, tm, ds, w, ⟨k, .refl _ _⟩, s, .refl _ _⟩
  | .goto _ => fun a h x a' h' he => by cases he
  | .refuse _ => fun a h x a' h' he => by cases he
  | .region id ops draw => fun a h x a' h' he φ b tm ds w s k cs => by
    simp only [evCode] at he
    cases draw with
    | true =>
      simp only [cond_true] at he
      split at he
      · rename_i a1 h1 h2
        cases he
        obtain ⟨φ1, tm1, ds1, w1, st1, s1, e1⟩ := hD _ _ _ _ _ h2 φ b tm ds w.drew ⟨s.act, s.defs, s.rel.drew, s.glob, s.rd⟩ (w.tape w.drawn (.order b.fn id)) k cs
        refine ⟨φ1, tm1, ds1, w1, .head go_region_draw ?_, s1, e1⟩
        rw [hM]
        exact st1
      · cases he
    | false =>
      simp only [cond_false] at he
      split at he
      · rename_i a1 h1 h2
        cases he
        have hl : (List.range ops.size).map (ops[·]?) = ops.toList.map some := by
          apply List.ext_getElem
          · simp
          · intro i h1 h2
            simp at h1
            simp [h1]
        obtain ⟨φ1, tm1, ds1, w1, st1, s1, e1⟩ := evOps_ok hC hY k cs _ _ _ _ _ _ _ _ _ _ hl h2 s
        exact ⟨φ1, tm1, ds1, w1, .head go_region st1, s1, e1⟩
      · cases he
  | .seq x y => fun a h x' a' h' he φ b tm ds w s k cs => by
    simp only [evCode] at he
    split at he
    · rename_i a1 h1 hx
      obtain ⟨φ1, tm1, ds1, w1, r1, s1, e1⟩ := evCode_ok hM hC hY hD x _ _ _ _ _ hx φ b tm ds w s (.code y :: k) cs
      obtain ⟨φ2, tm2, ds2, w2, r2, s2, e2⟩ := evCode_ok hM hC hY hD y _ _ _ _ _ he φ1 b tm1 ds1 w1 s1 k cs
      exact ⟨φ2, tm2, ds2, w2, .of_steps (.head go_seq r1) r2, s2, e1.trans e2⟩
    · rename_i hn
      obtain ⟨φ1, tm1, ds1, w1, r1, s1, e1⟩ := evCode_ok hM hC hY hD x _ _ _ _ _ he φ b tm ds w s (.code y :: k) cs
      refine ⟨φ1, tm1, ds1, w1, .pass (fun id _ => rfl) (fun e => ?_) (.of_steps (.one go_seq) r1), s1, e1⟩
      subst e
      exact hn _ _ he
  | .cond c x y => fun a h x' a' h' he φ b tm ds w s k cs => by
    simp only [evCode] at he
    split at he
    · rename_i cc hc
      have hv := cO_con (ds := ds) hc s.glob s.act
      unfold evCond at he
      split at he
      · rename_i hb
        rw [hb] at hv
        generalize hev : Act.eval ⟨tm, ds⟩ c = v at hv
        cases hv
        obtain ⟨φ1, tm1, ds1, w1, r1, s1, e1⟩ := evCode_ok hM hC hY hD x _ _ _ _ _ he φ b tm ds w s k cs
        exact ⟨φ1, tm1, ds1, w1, .of_steps (.one (go_cond hev)) r1, s1, e1⟩
      · rename_i hb
        rw [hb] at hv
        generalize hev : Act.eval ⟨tm, ds⟩ c = v at hv
        cases hv
        obtain ⟨φ1, tm1, ds1, w1, r1, s1, e1⟩ := evCode_ok hM hC hY hD y _ _ _ _ _ he φ b tm ds w s k cs
        exact ⟨φ1, tm1, ds1, w1, .of_steps (.one (go_cond hev)) r1, s1, e1⟩
      · cases he
    · cases he
  | .block id c => fun a h x' a' h' he φ b tm ds w s k cs => by
    simp only [evCode] at he
    split at he
    · rename_i i a1 h1 hx
      obtain ⟨φ1, tm1, ds1, w1, ⟨k1, hk1, r1⟩, s1, e1⟩ := evCode_ok hM hC hY hD c _ _ _ _ _ hx φ b tm ds w s (.inBlock id :: k) cs
      cases hb : Nat.beq i id with
      | true =>
        rw [hb] at he
        cases he
        have : i = id := Nat.eq_of_beq_eq_true hb
        subst this
        exact ⟨φ1, tm1, ds1, w1, .head go_block (r1.trans (.one (go_exit (by rw [hk1]; simp [exitTo])))), s1, e1⟩
      | false =>
        rw [hb] at he
        cases he
        have hne : id ≠ i := fun e => by subst e; rw [Nat.beq_refl] at hb; cases hb
        exact ⟨φ1, tm1, ds1, w1, ⟨k1, by rw [hk1]; simp [exitTo, hne], .head go_block r1⟩, s1, e1⟩
    · rename_i hn
      obtain ⟨φ1, tm1, ds1, w1, r1, s1, e1⟩ := evCode_ok hM hC hY hD c _ _ _ _ _ he φ b tm ds w s (.inBlock id :: k) cs
      cases x' with
      | normal => exact ⟨φ1, tm1, ds1, w1, .head go_block (Steps.trans r1 (.one go_inBlock)), s1, e1⟩
      | exit i => exact absurd he (hn _ _ _)
      | ret => exact ⟨φ1, tm1, ds1, w1, .of_steps (.one go_block) (.pass (fun id e => by cases e) (by simp) r1), s1, e1⟩
      | goto l => exact r1.elim
  | .loop c => fun a h x' a' h' he φ b tm ds w s k cs => by
    simp only [evCode] at he
    obtain ⟨φ1, tm1, ds1, w1, r1, s1, e1⟩ := evLoop_ok (evCode_ok hM hC hY hD c) lf _ _ _ _ _ he φ b tm ds w s k cs
    exact ⟨φ1, tm1, ds1, w1, .of_steps (.one go_loop) r1, s1, e1⟩
  | .scope c => fun a h x' a' h' he φ b tm ds w s k cs => by
    simp only [evCode] at he
    split at he
    · cases he
    · rename_i hn
      obtain ⟨φ1, tm1, ds1, w1, r1, s1, e1⟩ := evCode_ok hM hC hY hD c _ _ _ _ _ he φ b tm ds w s (.inScope c :: k) cs
      cases x' with
      | normal => exact ⟨φ1, tm1, ds1, w1, .head go_scope (Steps.trans r1 (.one go_inScope)), s1, e1⟩
      | exit i => exact ⟨φ1, tm1, ds1, w1, .of_steps (.one go_scope) (.pass (fun id _ => rfl) (by simp) r1), s1, e1⟩
      | ret => exact ⟨φ1, tm1, ds1, w1, .of_steps (.one go_scope) (.pass (fun id _ => rfl) (by simp) r1), s1, e1⟩
      | goto l => exact r1.elim
  | .rangeFunc f params assign body => fun a h x' a' h' he => by
    simp only [evCode] at he
    split at he
    · rename_i cc hc
      exact opGo_ok hC hc _ _ _ _ _ he
    · cases he

/-- results -/
def resF (tm : Array Value) : ResultVar → Sem Value
  | .tmp t => pure (tm.getD t undef)
  | .cell a t => do loadVar t (← asAddr (tm.getD a undef))

theorem resultsA_ok {a : AAct} {tm : Array Value} (hA : ActRel φ a tm) (hR : Rel B w0 φ h w) : ∀ {l : List ResultVar} {vs : List AV}, resultsA P h a l = .ok vs →
    ∃ vs', (l.mapM (resF tm)).run P w = .ok vs' w ∧ ConL φ vs vs'
  | [], vs, he => by cases he; exact ⟨[], by simp, .nil⟩
  | .tmp t :: l, vs, he => by
    simp only [resultsA] at he
    split at he
    · rename_i r hr; cases he
      obtain ⟨vs', h1, h2⟩ := resultsA_ok hA hR hr
      refine ⟨_ :: vs', ?_, .cons (hA.val t) h2⟩
      simp only [List.mapM_cons, Sem.run_bind, h1, resF, Sem.run_pure, Result.andThen_ok]
    · cases he
  | .cell p t :: l, vs, he => by
    simp only [resultsA] at he
    split at he
    · rename_i id off hv
      have hc := hA.val p
      rw [hv] at hc
      generalize hev : tm.getD p undef = v at hc
      cases hc with
      | @ptr _ _ q hp =>
        split at he
        · rename_i n hagg hs
          split at he
          · rename_i v r hl hr; cases he
            obtain ⟨vs', h1, h2⟩ := resultsA_ok hA hR hr
            obtain ⟨c, c1, c2, c3⟩ := loadN_ok hl hR hp
            refine ⟨.agg ⟨c⟩ :: vs', ?_, .cons (.agg c3) h2⟩
            have : (resF tm (.cell p t)).run P w = .ok (.agg ⟨c⟩) w := by
              simp only [resF, hev, Sem.run_bind, Sem.run_pure, Result.andThen_ok, asAddr, loadVar, run_aggT hagg, if_true, run_szOf hs, run_loadCells_at c1 c2]
            simp only [List.mapM_cons, Sem.run_bind, this, Result.andThen_ok, h1, Sem.run_pure]
          · cases he
        · rename_i hagg
          split at he
          · rename_i v r hl hr; cases he
            obtain ⟨vs', h1, h2⟩ := resultsA_ok hA hR hr
            obtain ⟨c, c1, c2⟩ := load1_ok hl hR hp
            refine ⟨c :: vs', ?_, .cons c2 h2⟩
            have : (resF tm (.cell p t)).run P w = .ok c w := by
              simp only [resF, hev, Sem.run_bind, Sem.run_pure, Result.andThen_ok, asAddr, loadVar, run_aggT hagg, Bool.false_eq_true, if_false, run_load_at c1]
            simp only [List.mapM_cons, Sem.run_bind, this, Result.andThen_ok, h1, Sem.run_pure]
          · cases he
        · cases he
    · cases he

theorem results_run {fn : Func} {a : AAct} {tm : Array Value} {vs : List AV} (hA : ActRel φ a tm) (hR : Rel B w0 φ h w) (he : resultsA P h a fn.results.toList = .ok vs) :
    ∃ v', (results fn tm).run P w = .ok v' w ∧ Con φ (oneOf vs) v' := by
  obtain ⟨vs', h1, h2⟩ := resultsA_ok hA hR he
  have hm : (fn.results.mapM (resF tm)).run P w = .ok ⟨vs'⟩ w := by
    rw [Array.mapM_eq_mapM_toList, Sem.run_map, h1]; rfl
  have hres : (results fn tm).run P w = ((fn.results.mapM (resF tm)).run P w).andThen fun vs w' => .ok (if h : vs.size = 1 then vs[0] else .tuple vs) w' := by
    unfold results
    rw [Sem.run_bind]
    rfl
  rw [hres, hm, Result.andThen_ok]
  refine ⟨_, rfl, ?_⟩
  cases h2 with
  | nil => exact .tuple .nil
  | cons c t =>
    cases t with
    | nil => exact c
    | cons c' t' => exact .tuple (.cons c (.cons c' t'))

/-! ### deferred calls -/

/-- a frame that is left -/
def lv (b : Frame) (tm : Array Value) (ds : List Deferred) (todo : List Item) : Frame := { mk b tm ds todo with mode := .returning }

theorem go_collected {b : Frame} {tm : Array Value} {ds : List Deferred} {todo : List Item} {cs : List Frame} {r : Nat} {args : Array Value} (hg : w.heap[r]? = some (.deferred (some []))) :
    step P (lone (lv b tm ({ target := .collected r, args } :: ds) todo) cs w) = .next (lone (lv b tm ds todo) cs (w.putObj r (.deferred none))) :=
  step_lone_go (by simp [stepG, unwind, lv, mk, Sem.runT_eq, run_takeDeferred hg])

theorem go_deferred {b : Frame} {tm : Array Value} {ds : List Deferred} {todo : List Item} {cs : List Frame} {f : FuncId} {captured args : Array Value}
    (hc : (callFunc f (args ++ captured)).run P w = .ok (.enter f (args ++ captured)) w) :
    step P (lone (lv b tm ({ target := .fn (.func f) captured, args } :: ds) todo) cs w) =
      .next (lone (Frame.enter P f (args ++ captured) .deferred) (lv b tm ds todo :: cs) w) :=
  step_lone_go (by simp [stepG, unwind, callDeferred, lv, mk, Sem.runT_eq, invoke, hc])

theorem go_leaveDeferred {fr c : Frame} {cs : List Frame} {v : Value} {fn : Func} (hm : fr.mode = .returning) (hd : fr.defers = []) (hk : fr.kind = .deferred) (hcm : c.mode = .returning)
    (hf : P.funcs[fr.fn]? = some fn) (hr : (results fn fr.tmps).run P w = .ok v w) : step P (lone fr (c :: cs) w) = .next (lone c cs w) :=
  step_lone_go (by simp [stepG, unwind, doReturn, hm, hd, hk, hf, hr, hcm])

theorem runDefers_ok {call : CallF} (hC : DefOk P B w0 call) {b : Frame} {tm : Array Value} {todo : List Item} {cs : List Frame} :
    ∀ (l : List ADef) (h h' : AH) (φ : Phi) (ds : List Deferred) (w : World), runDefers call l h = .ok h' → DefsR φ l ds → Rel B w0 φ h w → GlobRel P φ →
      ∃ φ' w', Steps P (lone (lv b tm ds todo) cs w) (lone (lv b tm [] todo) cs w') ∧ Rel B w0 φ' h' w' ∧ Ext φ h φ' h'
  | [], h, h', φ, ds, w, he, hd, hR, hG => by
    cases he; cases hd
    exact ⟨φ, w, .refl _ _, hR, .refl _ _⟩
  | d :: l, h, h', φ, ds, w, he, hd, hR, hG => by
    cases hd with
    | @cons _ d' _ ds hd1 hd2 =>
      simp only [runDefers] at he
      cases hd1 with
      | @collected id p hp =>
        simp only at he
        split at he
        · rename_i hg
          have ho : w.heap[p.blk]? = some (.deferred (some [])) := hR.obj _ _ _ hp hg
          have R1 := hR.putObj (O := .deferred none) (o' := .deferred none) hp hg rfl rfl (World.putObj_heap_same (Array.getElem?_eq_some_iff.1 ho).1)
          obtain ⟨φ2, w2, st, R2, X2⟩ := runDefers_ok hC (b := b) (tm := tm) (todo := todo) (cs := cs) l _ _ _ _ _ he hd2 R1 hG
          exact ⟨φ2, w2, .head (go_collected ho) st, R2, (Ext.write hp _).trans X2⟩
        · cases he
      | @call f c a c' a' hc ha =>
        simp only [callFn] at he
        split at he
        · rename_i v h2 hcall
          obtain ⟨hen, hK⟩ := hC _ _ _ _ _ hcall φ w _ (ha.append hc) hG hR
          have e : (⟨a' ++ c'⟩ : Array Value) = ⟨a'⟩ ++ ⟨c'⟩ := by simp
          rw [e] at hK hen
          obtain ⟨v', w3, fr, fn, ⟨φ3, c1, R3, X3⟩, hst, e1, e2, e3, e4, e5, e6⟩ := hK (lv b tm ds todo :: cs)
          obtain ⟨φ2, w2, st, R2, X2⟩ := runDefers_ok hC (b := b) (tm := tm) (todo := todo) (cs := cs) l _ _ _ _ _ he (hd2.mono X3.le) R3 (hG.mono X3.le)
          exact ⟨φ2, w2, .head (go_deferred (hen _)) (hst.trans (.head (go_leaveDeferred e2 e3 e4 rfl e5 e6) st)), R2, X3.trans X2⟩
        · cases he

end Go.Dr

/-
  Calls and rounds: the abstract run is the machine's.
-/
namespace Go.Dr
open Go.RowKit

variable {P : Program} {B : Nat} {w0 w w' : World} {φ : Phi} {h h' : AH}

theorem laid_get : ∀ (l : List AV) (i : Nat) (t : PT AV) (j : Nat), (laid l i t).get j = if i ≤ j ∧ j < i + l.length then l[j - i]? else t.get j
  | [], i, t, j => by rw [if_neg (by simp only [List.length_nil]; omega)]; rfl
  | v :: l, i, t, j => by
    rw [laid, laid_get l (i + 1) _ j, PT.get_set, List.length_cons]
    by_cases hj : j = i
    · subst hj
      rw [if_neg (by omega), if_pos rfl, if_pos (by omega), Nat.sub_self]; rfl
    · by_cases h1 : i + 1 ≤ j ∧ j < i + 1 + l.length
      · rw [if_pos h1, if_pos (by omega), show j - i = (j - (i + 1)) + 1 from by omega]; rfl
      · rw [if_neg h1, if_neg hj, if_neg (by omega)]

theorem enter_act {args : List AV} {args' : List Value} {n : Nat} {ds : List ADef} {rd : Bool} (ha : ConL φ args args') (hn : args.length ≤ n) :
    ActRel φ ⟨n, laid args 0 .leaf, ds, rd⟩ ((⟨args'⟩ : Array Value) ++ Array.replicate (n - (⟨args'⟩ : Array Value).size) undef) := by
  have hl := ha.length
  refine ⟨by simp only [Array.size_append, Array.size_replicate]; simp; omega, fun i => ?_⟩
  simp only [AAct.val, laid_get, Nat.zero_le, true_and, Nat.zero_add, Nat.sub_zero]
  rw [Array.getD_eq_getD_getElem?]
  by_cases hi : i < args.length
  · rw [if_pos hi]
    have : i < (⟨args'⟩ : Array Value).size := by simp; omega
    rw [Array.getElem?_append_left this]
    obtain ⟨y, hy, hc⟩ := ha.get i args[i] (List.getElem?_eq_getElem hi)
    rw [List.getElem?_eq_getElem hi]
    simp only [List.getElem?_toArray, hy, Option.getD_some]
    exact hc
  · rw [if_neg hi]
    have e : (PT.leaf : PT AV).get i = none := rfl
    rw [e]
    rw [Array.getElem?_append_right (by simp; omega), Array.getElem?_replicate]
    have : (if i - (⟨args'⟩ : Array Value).size < n - (⟨args'⟩ : Array Value).size then some undef else none).getD undef = undef := by split <;> rfl
    rw [this]
    exact undef_con

theorem setParams_ok : ∀ (ts : List Tmp) (vs : List AV) (vs' : List Value) (a : AAct) (tm : Array Value), ActRel φ a tm → ConL φ vs vs' →
    ActRel φ (setParams ts vs a) ((ts.zip vs').foldl (fun tm (t, v) => tm.setIfInBounds t v) tm) ∧ (setParams ts vs a).ds = a.ds ∧ (setParams ts vs a).rd = a.rd
  | [], vs, vs', a, tm, hA, hc => ⟨hA, rfl, rfl⟩
  | t :: ts, [], vs', a, tm, hA, hc => by cases hc; exact ⟨hA, rfl, rfl⟩
  | t :: ts, v :: vs, vs', a, tm, hA, hc => by
    cases hc with
    | @cons _ v' _ vs' h1 h2 =>
      obtain ⟨i1, i2, i3⟩ := setParams_ok ts vs vs' _ _ (hA.put (some t) h1) h2
      obtain ⟨j1, j2, _⟩ := a.put_ds (some t) v
      exact ⟨i1, by rw [setParams, i2, j1], by rw [setParams, i3, j2]⟩

/-- what is told of functions, told truly -/
def SumOk (P : Program) (B : Nat) (w0 : World) (S : FuncId → Option (List AV → AH → R (AV × AH))) : Prop :=
  ∀ f g, S f = some g → ∀ args h v h', g args h = .ok (v, h') → ∀ φ w args', ConL φ args args' → GlobRel P φ → Rel B w0 φ h w →
    (∀ w, (callFunc f ⟨args'⟩).run P w = .ok (.enter f ⟨args'⟩) w) ∧
    CallsK P .normal f ⟨args'⟩ w (fun v' w' => ∃ φ', Con φ' v v' ∧ Rel B w0 φ' h' w' ∧ Ext φ h φ' h')

theorem sumOk_none : SumOk P B w0 (fun _ => none) := fun _ _ e => by cases e

section
variable {S : FuncId → Option (List AV → AH → R (AV × AH))} {lf : Nat}

theorem callFn_run {f : FuncId} {fn : Func} {args : Array Value} (hN : ∀ (f : Nat) fn, P.funcs[f]? = some fn → fn.body.isSome = true → fn.name ≠ "runtime.NumGoroutine")
    (hf : P.funcs[f]? = some fn) (hb : fn.body.isSome = true) (w : World) : (callFunc f args).run P w = .ok (.enter f args) w := by
  have hn := hN f fn hf hb
  have hb' : fn.body ≠ none := by intro h; rw [h] at hb; cases hb
  simp [callFunc, hf, hn, hb']

theorem fn_ok {call dcall : CallF} {kind : CallKind} (hF : DefOk P B w0 dcall) (hM : P.follows .mixedOrders = true) 
    (hC : CallOk P B w0 call) (hY : YieldOk P B w0 call) (hD : DrawOk P B w0 call) {f : FuncId} {fn : Func} {c : Code} {args : List AV} {v : AV} (hf : P.funcs[f]? = some fn) (hb : fn.body = some c)
    (hn : args.length ≤ fn.ntmps) (he : finishCall P dcall fn (evCode P call lf c ⟨fn.ntmps, laid args 0 .leaf, [], false⟩ h) = .ok (v, h')) {args' : List Value} (ha : ConL φ args args') (hG : GlobRel P φ) (hR : Rel B w0 φ h w) :
    CallsK P kind f ⟨args'⟩ w (fun v' w' => ∃ φ', Con φ' v v' ∧ Rel B w0 φ' h' w' ∧ Ext φ h φ' h') := by
  intro cs
  unfold finishCall at he
  split at he
  · rename_i x a1 h1 hcode
    have s0 : St P B w0 φ ⟨fn.ntmps, laid args 0 .leaf, [], false⟩ h (Option.isSome (Frame.roundOf { (default : Frame) with fn := f, kind := kind, roundOf := none })) _ [] w :=
      ⟨enter_act ha hn, .nil, hR, hG, rfl⟩
    obtain ⟨φ1, tm1, ds1, w1, r1, s1, e1⟩ := evCode_ok hM hC hY hD c _ _ _ _ _ hcode φ _ _ _ w s0 [] cs
    have henter : Frame.enter P f ⟨args'⟩ kind = mk { (default : Frame) with fn := f, kind := kind, roundOf := none } ((⟨args'⟩ : Array Value) ++ Array.replicate (fn.ntmps - (⟨args'⟩ : Array Value).size) undef) [] [.code c] := by
      simp [Frame.enter, mk, hf, hb]
    rw [← henter] at r1
    have key : ∀ (v : AV) (h' : AH), (∃ todo, Steps P (lone (Frame.enter P f ⟨args'⟩ kind) cs w) (lone (lv { (default : Frame) with fn := f, kind := kind, roundOf := none } tm1 ds1 todo) cs w1)) →
        (match runDefers dcall a1.ds h1 with
          | .ok h => match resultsA P h a1 fn.results.toList with
            | .ok l => (.ok (oneOf l, h) : R (AV × AH))
            | .error e => .error (fn.name ++ ": " ++ e)
          | .error e => .error (fn.name ++ ": " ++ e)) = .ok (v, h') →
        ∃ v' w' fr fn', (∃ φ', Con φ' v v' ∧ Rel B w0 φ' h' w' ∧ Ext φ h φ' h') ∧ Steps P (lone (Frame.enter P f ⟨args'⟩ kind) cs w) (lone fr cs w') ∧
          fr.fn = f ∧ fr.mode = .returning ∧ fr.defers = [] ∧ fr.kind = kind ∧ P.funcs[fr.fn]? = some fn' ∧ (results fn' fr.tmps).run P w' = .ok v' w' := by
      rintro v h' ⟨todo, hst⟩ he
      split at he
      · rename_i h2 hrd
        obtain ⟨φ2, w2, st, R2, X2⟩ := runDefers_ok hF (b := { (default : Frame) with fn := f, kind := kind, roundOf := none }) (tm := tm1) (todo := todo) (cs := cs) _ _ _ _ _ _ hrd s1.defs s1.rel s1.glob
        split at he
        · rename_i l hl
          cases he
          obtain ⟨v', hv1, hv2⟩ := results_run (s1.act.mono X2.le) R2 hl
          exact ⟨v', w2, _, fn, ⟨φ2, hv2, R2, e1.trans X2⟩, hst.trans st, rfl, rfl, rfl, rfl, hf, hv1⟩
        · cases he
      · cases he
    split at he
    · exact key _ _ ⟨_, Steps.trans r1 (.one (go_end rfl))⟩ he
    · obtain ⟨k1, r1⟩ := r1
      exact key _ _ ⟨_, Steps.trans r1 (.one (go_ret rfl))⟩ he
    · cases he
  · cases he

theorem foldl_zip (params : Array Tmp) (args : List Value) (tm : Array Value) :
    (params.zip ⟨args⟩).foldl (fun tmps (t, a) => tmps.setIfInBounds t a) tm = (params.toList.zip args).foldl (fun tm (t, v) => tm.setIfInBounds t v) tm := by
  rw [← Array.foldl_toList, Array.toList_zip]

theorem round_ok {call : CallF} (hM : P.follows .mixedOrders = true) (hC : CallOk P B w0 call) (hY : YieldOk P B w0 call) (hD : DrawOk P B w0 call) {l : Nat} {r : ALoop} {args : List AV} {v : AV}
    (hg : h.get l = some (.loop r)) (he : aRound P call lf l r args h = .ok (v, h')) {p : Pl} {args' : List Value} (hp : φ l = some p) (ha : ConL φ args args') (hG : GlobRel P φ) (hR : Rel B w0 φ h w) :
    ∃ fn tmps assign body, (Instr.yield p.blk ⟨args'⟩).run P w = .ok (.round p.blk fn tmps assign body) w ∧
      ∀ c cs, ∃ v' φ' w', Steps P (lone (Frame.round p.blk fn tmps assign body .normal) (c :: cs) w) (lone (c.finish v') cs w') ∧ Con φ' v v' ∧ Rel B w0 φ' h' w' ∧ Ext φ h φ' h' := by
  obtain ⟨r', hr1, hr2⟩ := (hR.obj _ _ _ hp hg).loop_get
  unfold aRound at he
  cases hlen : Nat.beq args.length r.params.size with
  | false => rw [hlen] at he; cases he
  | true =>
    rw [hlen] at he
    simp only [cond_true] at he
    have hlen := Nat.eq_of_beq_eq_true hlen
    have hsz : (⟨args'⟩ : Array Value).size = r'.params.size := by rw [hr2.params, ← hlen, ha.length]; rfl
    refine ⟨_, _, _, _, run_yield hr1 hsz, fun c cs => ?_⟩
    rw [foldl_zip, hr2.params, hr2.assign, hr2.body]
    have hA0 : ActRel φ ⟨r.n, r.tmps, [], true⟩ r'.tmps := ⟨hr2.size, fun i => hr2.tmps i⟩
    obtain ⟨hA1, hds, hrd⟩ := setParams_ok r.params.toList args args' _ _ hA0 ha
    generalize hb : ({ (default : Frame) with fn := r'.fn, kind := .normal, roundOf := some p.blk } : Frame) = b
    have s0 : St P B w0 φ (setParams r.params.toList args ⟨r.n, r.tmps, [], true⟩) h b.roundOf.isSome _ [] w := ⟨hA1, by rw [hds]; exact .nil, hR, hG, by rw [hrd]; subst hb; rfl⟩
    generalize (List.foldl (fun tm (x : Tmp × Value) => tm.setIfInBounds x.fst x.snd) r'.tmps (r.params.toList.zip args')) = tm0 at *
    have hround : Frame.round p.blk r'.fn tm0 r.assign r.body .normal = mk b tm0 [] (.code r.assign :: [.beginRound, .code r.body]) := by subst hb; rfl
    split at he
    · rename_i a1 h1 hassign
      obtain ⟨φ1, tm1, ds1, w1, r1, s1, e1⟩ := evCode_ok hM hC hY hD _ _ _ _ _ _ hassign φ b tm0 [] w s0 [.beginRound, .code r.body] (c :: cs)
      rw [← hround] at r1
      have hp1 := e1.le _ _ hp
      split at he
      · rename_i q hg1
        obtain ⟨q', hq1, hq2⟩ := (s1.rel.obj _ _ _ hp1 hg1).loop_get
        split at he
        · rename_i hst
          have hbr : b.roundOf = some p.blk := by subst hb; rfl
          have hbk : b.kind = .normal := by subst hb; rfl
          have st2 : step P (lone (mk b tm1 ds1 [.beginRound, .code r.body]) (c :: cs) w1) = .next (lone (mk b tm1 ds1 [.code r.body]) (c :: cs) (w1.putObj p.blk (.loop { q' with state := .busy }))) :=
            stepR_beginRound (a := ⟨tm1, ds1⟩) hbr (run_beginRound hq1 (by rw [hq2.state]; exact hst))
          have hpe : q'.pending = q.pending := hq2.pending
          have R2 : Rel B w0 φ1 (h1.set l (.loop { q with state := .busy })) (w1.putObj p.blk (.loop { q' with state := .busy })) := by
            have := s1.rel.putLoop hp1 hg1 hq2 .busy q.pending
            rw [show ({ q' with state := .busy, pending := q.pending } : Loop) = { q' with state := .busy } from by rw [← hpe]] at this
            exact this
          have X2 : Ext φ1 h1 φ1 (h1.set l (.loop { q with state := .busy })) := .write hp1 _
          have s2 : St P B w0 φ1 a1 (h1.set l (.loop { q with state := .busy })) b.roundOf.isSome tm1 ds1 (w1.putObj p.blk (.loop { q' with state := .busy })) := ⟨s1.act, s1.defs, R2, s1.glob, s1.rd⟩
          have st3 := Steps.trans r1 (.one st2)
          generalize hres : evCode P call lf r.body a1 (h1.set l (.loop { q with state := .busy })) = res at he
          unfold endRound at he
          split at he
          · rename_i x a2 h2 
            split at he
            · split at he
              · rename_i z hg2
                obtain ⟨φ3, tm3, ds3, w3, r3, s3, e3⟩ := evCode_ok hM hC hY hD _ _ _ _ _ _ hres φ1 b tm1 ds1 _ s2 [] (c :: cs)
                have hp3 := e3.le _ _ hp1
                obtain ⟨z', hz1, hz2⟩ := (s3.rel.obj _ _ _ hp3 hg2).loop_get
                have X := e1.trans (X2.trans e3)
                split at he
                · cases he
                  refine ⟨.bool true, φ3, _, st3.trans (Steps.trans r3 (.one (stepR_round_end (a := ⟨tm3, ds3⟩) hbr hbk (run_endRound none hz1)))), .bool true, s3.rel.putLoop hp3 hg2 hz2 .ready none, X.trans (.write hp3 _)⟩
                · cases he
                  obtain ⟨k1, r3⟩ := r3
                  refine ⟨.bool false, φ3, _, st3.trans (Steps.trans r3 (.one (stepR_round_ret (a := ⟨tm3, ds3⟩) hbr hbk (run_endRound (some .ret) hz1)))), .bool false, s3.rel.putLoop hp3 hg2 hz2 .done (some .ret), X.trans (.write hp3 _)⟩
                · rename_i id; cases he
                  obtain ⟨k1, hk1, r3⟩ := r3
                  refine ⟨.bool false, φ3, _, st3.trans (Steps.trans r3 (.one (stepR_round_exit (a := ⟨tm3, ds3⟩) hbr hbk (by rw [hk1]; rfl) (run_endRound (some (.exit id)) hz1)))), .bool false, s3.rel.putLoop hp3 hg2 hz2 .done (some (.exit id)), X.trans (.write hp3 _)⟩
                · cases he
              · cases he
            · cases he
          · cases he
        · cases he
      · cases he
    · cases he
    · cases he

/-- **every abstract call is the machine's** -/
theorem evCall_ok (hM : P.follows .mixedOrders = true) (hN : ∀ (f : Nat) fn, P.funcs[f]? = some fn → fn.body.isSome = true → fn.name ≠ "runtime.NumGoroutine") (hS : SumOk P B w0 S)
    (hD : ∀ call, CallOk P B w0 call → YieldOk P B w0 call → DrawOk P B w0 call) : ∀ n, CallOk P B w0 (evCall P S lf n) ∧ YieldOk P B w0 (evCall P S lf n) ∧ DefOk P B w0 (noSum S (evCall P S lf n))
  | 0 => ⟨fun f args h v h' e => (by cases e), fun l args h v h' e => (by cases e), fun f args h v h' e => (by unfold noSum at e; simp only at e; split at e <;> cases e)⟩
  | n + 1 => by
    obtain ⟨hC, hY, hF⟩ := evCall_ok hM hN hS hD n
    have hDr := hD _ hC hY
    have body : ∀ (kind : CallKind) (f : FuncId) args h v h', S f = none → evCall P S lf (n + 1) (.fn f) args h = .ok (v, h') → ∀ φ w args', ConL φ args args' → GlobRel P φ → Rel B w0 φ h w →
        (∀ w, (callFunc f ⟨args'⟩).run P w = .ok (.enter f ⟨args'⟩) w) ∧ CallsK P kind f ⟨args'⟩ w (fun v' w' => ∃ φ', Con φ' v v' ∧ Rel B w0 φ' h' w' ∧ Ext φ h φ' h') := by
      intro kind f args h v h' hs e φ w args' ha hG hR
      unfold evCall at e
      rw [hs] at e
      simp only at e
      split at e
      · rename_i fn hf
        split at e
        · rename_i c hb
          cases hle : Nat.ble args.length fn.ntmps with
          | false => rw [hle] at e; cases e
          | true =>
            rw [hle] at e
            simp only [cond_true] at e
            exact ⟨fun w => callFn_run hN hf (by rw [hb]; rfl) w, fn_ok hF hM hC hY hDr hf hb (Nat.le_of_ble_eq_true hle) e ha hG hR⟩
        · cases e
      · cases e
    refine ⟨fun f args h v h' e φ w args' ha hG hR => ?_, fun l args h v h' e φ w p args' hp ha hG hR => ?_, fun f args h v h' e φ w args' ha hG hR => ?_⟩
    · cases hs : S f with
      | some g =>
        unfold evCall at e
        rw [hs] at e
        exact hS _ _ hs _ _ _ _ e _ _ _ ha hG hR
      | none => exact body _ _ _ _ _ _ hs e _ _ _ ha hG hR
    · unfold evCall at e
      split at e
      · rename_i r hg
        exact round_ok hM hC hY hDr hg e hp ha hG hR
      · cases e
    · unfold noSum at e
      simp only at e
      split at e
      · cases e
      · rename_i hs
        exact body _ _ _ _ _ _ hs e _ _ _ ha hG hR

end

end Go.Dr

/-
  Regions whose order is drawn: a block that was promised is laid later.
-/
namespace Go.Dr
open Go.RowKit

variable {P : Program} {B : Nat} {w0 w w' : World} {φ φ' : Phi} {h h' : AH}

theorem Phi.le.same (hle : φ.le φ') {i : Nat} {p q : Pl} (h : φ i = some p) (h' : φ' i = some q) : φ i = some q := by
  have := hle _ _ h; rw [this] at h'; cases h'; exact h

mutual
theorem Con.back (hle : φ.le φ') : ∀ {x : AV} {y y' : Value}, Con φ x y' → Con φ' x y → Con φ x y
  | _, _, _, .bool b, h => by cases h; exact .bool _
  | _, _, _, .int k n, h => by cases h; exact .int _ _
  | _, _, _, .str s, h => by cases h; exact .str _
  | _, _, _, .nilp, h => by cases h; exact .nilp
  | _, _, _, .ptr h1, h => by cases h with | ptr h2 => exact .ptr (hle.same h1 h2)
  | _, _, _, .nils, h => by cases h; exact .nils
  | _, _, _, .slice h1 _ _ _ _, h => by cases h with | slice h2 a b c d => exact .slice (hle.same h1 h2) a b c d
  | _, _, _, .nilm, h => by cases h; exact .nilm
  | _, _, _, .map h1, h => by cases h with | map h2 => exact .map (hle.same h1 h2)
  | _, _, _, .nilf, h => by cases h; exact .nilf
  | _, _, _, .func ha hb, h => by cases h with | func h1 h2 => exact .func (ha.back hle h1) (hb.back hle h2)
  | _, _, _, .yield h1, h => by cases h with | yield h2 => exact .yield (hle.same h1 h2)
  | _, _, _, .nili, h => by cases h; exact .nili
  | _, _, _, .iface h1, h => by cases h with | iface h2 => exact .iface (h1.back hle h2)
  | _, _, _, .agg h1, h => by cases h with | agg h2 => exact .agg (h1.back hle h2)
  | _, _, _, .tuple h1, h => by cases h with | tuple h2 => exact .tuple (h1.back hle h2)
  | _, _, _, .raw h1 e1, h => by cases h with | raw h2 e2 => exact .raw h2 (by rw [← hle.raw]; exact e2)
theorem ConL.back (hle : φ.le φ') : ∀ {x : List AV} {y y' : List Value}, ConL φ x y' → ConL φ' x y → ConL φ x y
  | _, _, _, .nil, h => by cases h; exact .nil
  | _, _, _, .cons h1 h2, h => by cases h with | cons h3 h4 => exact .cons (h1.back hle h3) (h2.back hle h4)
end

theorem ConE.back (hle : φ.le φ') : ∀ {x : List AEntry} {y y' : List MapEntry}, ConE φ x y' → ConE φ' x y → ConE φ x y
  | _, _, _, .nil, h => by cases h; exact .nil
  | _, _, _, .cons h1 h2 h3 h4, h => by
    cases h with | cons g1 g2 g3 g4 => exact .cons (h1.back hle g1) (h2.back hle g2) g3 (ConE.back hle h4 g4)

theorem ObjRel.back (hle : φ.le φ') {p : Pl} {o : AObj} (h : ObjRel φ w p o) (h' : ObjRel φ' w' p o) : ObjRel φ w' p o := by
  cases o with
  | cells vs ro =>
    obtain ⟨c, e, lo, hi, h1, h2, h3, h4, h5⟩ := h
    obtain ⟨c', e', lo', hi', g1, g2, g3, g4, g5⟩ := h'
    refine ⟨c', e', lo', hi', g1, g2, g3, fun i x hx => ?_, g5⟩
    obtain ⟨y, _, hy⟩ := h4 i x hx
    obtain ⟨z, hz, hc⟩ := g4 i x hx
    exact ⟨z, hz, hy.back hle hc⟩
  | map l clock =>
    obtain ⟨es, h1, h2⟩ := h
    obtain ⟨es', g1, g2⟩ := h'
    exact ⟨es', g1, h2.back hle g2⟩
  | loop r =>
    obtain ⟨r1, h1, h2⟩ := h
    obtain ⟨r2, g1, g2⟩ := h'
    exact ⟨r2, g1, { g2 with tmps := fun i => (h2.tmps i).back hle (g2.tmps i) }⟩
  | deferred ds =>
    cases ds with
    | none => exact h'
    | some l => cases l <;> exact h'
  | siter s pos => exact h'
  | miter m since seen stepped =>
    obtain ⟨h0, m1, h1, h2⟩ := h
    obtain ⟨g0, m2, g1, g2⟩ := h'
    refine ⟨g0, m2, g1, ?_⟩
    cases m with
    | none => exact g2
    | some id =>
      obtain ⟨q, hq, hm⟩ := h2
      obtain ⟨q', hq', hm'⟩ := g2
      exact ⟨q', hle.same hq hq', hm'⟩

/-- what new blocks hold -/
def Fresh (φ : Phi) (o : AObj) : Prop := o = .map [] 0 ∨ ∃ l vs, o = .cells l false ∧ ConL φ l vs

theorem Fresh.back (hle : φ.le φ') {p : Pl} {o : AObj} (hf : Fresh φ o) (h' : ObjRel φ' w' p o) : ObjRel φ w' p o := by
  rcases hf with rfl | ⟨l, vs, rfl, hl⟩
  · obtain ⟨es', g1, g2⟩ := h'
    cases g2
    exact ⟨_, g1, .nil⟩
  · obtain ⟨c', e', lo', hi', g1, g2, g3, g4, g5⟩ := h'
    refine ⟨c', e', lo', hi', g1, g2, g3, fun i x hx => ?_, g5⟩
    obtain ⟨y, _, hy⟩ := hl.get i x hx
    obtain ⟨z, hz, hc⟩ := g4 i x hx
    exact ⟨z, hz, hy.back hle hc⟩

theorem Fresh.writable {o : AObj} (hf : Fresh φ o) : o.writable = true := by
  rcases hf with rfl | ⟨l, vs, rfl, hl⟩ <;> rfl

/-- the shapes of a new block's value -/
def Shape (mkv : Nat → AV) : Prop := (mkv = fun i => .ptr i 0) ∨ (mkv = fun i => .map i) ∨ ∃ len cap x es, mkv = fun i => .slice i 0 len cap x es

theorem Shape.laid {mkv : Nat → AV} (hs : Shape mkv) {i : Nat} {v : Value} (h : Con φ (mkv i) v) : ∃ p, φ i = some p := by
  rcases hs with rfl | rfl | ⟨len, cap, x, es, rfl⟩
  · cases h with | ptr h => exact ⟨_, h⟩
  · cases h with | map h => exact ⟨_, h⟩
  · cases h with | slice h _ _ _ _ => exact ⟨_, h⟩

theorem Shape.move {mkv : Nat → AV} (hs : Shape mkv) {i j : Nat} {v : Value} {p : Pl} (h : Con φ (mkv i) v) (hi : φ i = some p) {ψ : Phi} (hj : ψ j = some p) : Con ψ (mkv j) v := by
  rcases hs with rfl | rfl | ⟨len, cap, x, es, rfl⟩
  · cases h with | ptr h => rw [hi] at h; cases h; exact .ptr hj
  · cases h with | map h => rw [hi] at h; cases h; exact .map hj
  · cases h with | slice h a b c d => rw [hi] at h; cases h; exact .slice hj a b c d

/-- a block that was promised is laid: the new block takes its name -/
theorem rename {mkv : Nat → AV} {O : AObj} {v' : Value} {id : Nat} (hs : Shape mkv) (hf : Fresh φ O) (R : Rel B w0 φ h w) (R' : Rel B w0 φ' (h.push O) w') (X : Ext φ h φ' (h.push O)) (hv : Con φ' (mkv h.next) v')
    (hid : φ id = none) (hlt : id < h.next) (hget : h.get id = some O) : ∃ p, Con (φ.set id p) (mkv id) v' ∧ Rel B w0 (φ.set id p) h w' := by
  obtain ⟨p, hp⟩ := hs.laid hv
  have hgn : (h.push O).get h.next = some O := by rw [AH.get_push, if_pos rfl]
  have hO : ObjRel φ w' p O := hf.back X.le (R'.obj _ _ _ hp hgn)
  have hold : ∀ j q oj, φ j = some q → h.get j = some oj → φ' j = some q ∧ (h.push O).get j = some oj ∧ j ≠ h.next := by
    intro j q oj e1 e2
    have hj := R.lt _ _ e1
    exact ⟨X.le _ _ e1, by rw [AH.get_push, if_neg (Nat.ne_of_lt hj)]; exact e2, Nat.ne_of_lt hj⟩
  have Rw : Rel B w0 φ h w' := by
    refine ⟨R.lt, fun i q o e e' => ?_, R.own, R.inj, R'.below, R.base⟩
    obtain ⟨a, b, _⟩ := hold i q o e e'
    exact (R.obj _ _ _ e e').back X.le (R'.obj _ _ _ a b)
  refine ⟨p, hs.move hv hp (Phi.set_same _ _ _), Rw.lay hlt hid hget (hO.mono (Phi.le_set _ hid)) (fun hw => R'.own _ _ _ hp hgn hw) fun j q oj e1 e2 hw => ?_⟩
  obtain ⟨a, b, c⟩ := hold j q oj e1 e2
  exact R'.inj _ _ _ _ _ _ c a hp b hgn hw.symm

end Go.Dr

/-
  Regions whose order is drawn: what an operation reads, and what kind it is of.
-/
namespace Go.Dr
open Go.RowKit

variable {P : Program} {B : Nat} {w0 w w' : World} {φ φ' : Phi} {h h' : AH} {a a' : AAct}

theorem CO.ev_congr {x : CO} (hx : ∀ t ∈ x.reads, a.val t = a'.val t) : x.ev a = x.ev a' := by
  cases x with
  | t i => exact hx i (by simp [CO.reads])
  | c v => rfl

theorem evL_congr : ∀ {l : List CO}, (∀ t ∈ readsL l, a.val t = a'.val t) → evL a l = evL a' l
  | [], _ => rfl
  | x :: l, hx => by
    simp only [readsL, List.mem_append] at hx
    rw [evL, evL, CO.ev_congr fun t ht => hx t (.inl ht), evL_congr fun t ht => hx t (.inr ht)]

theorem evOO_congr {x : Option CO} (hx : ∀ t ∈ readsO x, a.val t = a'.val t) : evOO a x = evOO a' x := by
  cases x with
  | none => rfl
  | some x => simp only [evOO]; rw [CO.ev_congr hx]

theorem fillA_congr : ∀ {pl : List (Nat × Nat × CO)} {z : List AV}, (∀ t ∈ readsP pl, a.val t = a'.val t) → fillA a z pl = fillA a' z pl
  | [], _, _ => rfl
  | (o, s, x) :: pl, z, hx => by
    simp only [readsP, List.mem_append] at hx
    simp only [fillA]
    rw [CO.ev_congr fun t ht => hx t (.inl ht)]
    simp only [fillA_congr (pl := pl) fun t ht => hx t (.inr ht)]

theorem evC_congr {c : COp} (hx : ∀ t ∈ c.reads, a.val t = a'.val t) : evC P c a h = evC P c a' h := by
  cases c <;> simp only [COp.reads, List.mem_append] at hx <;> simp only [evC, opBuild, opBuildSlice] <;>
    first
      | rfl
      | rw [CO.ev_congr hx]
      | rw [evOO_congr hx]
      | rw [fillA_congr hx]
      | rw [CO.ev_congr fun t ht => hx t (.inl ht), CO.ev_congr fun t ht => hx t (.inr ht)]
      | rw [CO.ev_congr fun t ht => hx t (.inl ht), evL_congr fun t ht => hx t (.inr ht)]
      | rw [evL_congr fun t ht => hx t (.inl ht), evL_congr fun t ht => hx t (.inr ht)]
      | rw [CO.ev_congr fun t ht => hx t (.inl ht), CO.ev_congr fun t ht => hx t (.inr (.inl ht)), CO.ev_congr fun t ht => hx t (.inr (.inr ht))]
      | rw [CO.ev_congr fun t ht => hx t (.inl ht), evOO_congr fun t ht => hx t (.inr (.inl ht)), evOO_congr fun t ht => hx t (.inr (.inr ht))]
      | rw [CO.ev_congr fun t ht => hx t (.inl ht), evOO_congr fun t ht => hx t (.inr (.inl ht)), evOO_congr fun t ht => hx t (.inr (.inr (.inl ht))), evOO_congr fun t ht => hx t (.inr (.inr (.inr ht)))]

theorem keepH_pure {r : R AV} {n : AN} (hr : keepH h r = .ok (n, h')) : ∃ v, n = .value v ∧ h' = h ∧ ∀ H, keepH H r = .ok (.value v, H) := by
  obtain ⟨v, h1, h2, h3⟩ := keepH_ok hr
  exact ⟨v, h2, h3, fun H => by rw [h1]; rfl⟩

theorem okV_pure {v : AV} {n : AN} (hr : okV v h = .ok (n, h')) : ∃ v', n = .value v' ∧ h' = h ∧ ∀ H, okV v H = .ok (.value v', H) := by
  cases hr; exact ⟨_, rfl, rfl, fun _ => rfl⟩

theorem nilCheck_pure {x : AV} {n : AN} (hr : opNilCheck x h = .ok (n, h')) : ∃ v', n = .value v' ∧ h' = h ∧ ∀ H, opNilCheck x H = .ok (.value v', H) := by
  unfold opNilCheck at hr ⊢
  split at hr
  · exact okV_pure hr
  · exact okV_pure hr
  · exact okV_pure hr
  · split at hr
    · exact okV_pure hr
    · exact okV_pure hr
    · cases hr
  · cases hr

theorem pure_ok {c : COp} {n : AN} (hk : c.kind = .pure) (hr : evC P c a h = .ok (n, h')) : ∃ v, n = .value v ∧ h' = h ∧ ∀ H, evC P c a H = .ok (.value v, H) := by
  cases c <;> simp only [COp.kind] at hk <;> simp only [evC] at hr ⊢ <;>
    first
      | exact keepH_pure hr
      | exact okV_pure hr
      | exact nilCheck_pure hr
      | (cases hk; done)
      | skip
  rename_i cv x
  cases cv <;> simp only [opConv] at hr ⊢ <;> first | (cases hk; done) | skip
  · split at hr
    · exact okV_pure hr
    · cases hr
  · split at hr
    · exact okV_pure hr
    · exact okV_pure hr
    · cases hr

theorem keepH_read {r : R AV} {n : AN} (hr : keepH h r = .ok (n, h')) : ∃ v, n = .value v ∧ h' = h := by
  obtain ⟨v, _, h2, h3⟩ := keepH_ok hr
  exact ⟨v, h2, h3⟩

theorem okV_read {v : AV} {n : AN} (hr : okV v h = .ok (n, h')) : ∃ v', n = .value v' ∧ h' = h := by
  cases hr; exact ⟨_, rfl, rfl⟩

theorem read_ok {c : COp} {n : AN} (hk : c.kind = .read) (hr : evC P c a h = .ok (n, h')) : ∃ v, n = .value v ∧ h' = h := by
  cases c <;> simp only [COp.kind] at hk <;> simp only [evC] at hr ⊢ <;>
    first
      | exact keepH_read hr
      | (cases hk; done)
      | skip
  · rename_i x
    unfold opLoad1 at hr
    split at hr
    · exact keepH_read hr
    · cases hr
  · unfold opLoadN at hr
    split at hr
    · split at hr
      · exact okV_read hr
      · cases hr
    · cases hr
  · rename_i cv x
    cases cv <;> simp only [opConv] at hr ⊢ <;> first | (cases hk; done) | skip
    split at hr
    · exact okV_read hr
    · split at hr
      · split at hr
        · split at hr
          · exact okV_read hr
          · cases hr
        · cases hr
      · cases hr
    · cases hr

theorem rowKind_alloc {o : Oper} {c : COp} (hk : rowKind o c = .alloc) : c.kind = .alloc ∧ isAllocOp o.op = true := by
  unfold rowKind at hk
  split at hk
  · rename_i e
    cases hb : isAllocOp o.op with
    | true => exact ⟨e, rfl⟩
    | false => rw [hb] at hk; cases hk
  · rename_i hn; exact absurd hk hn

theorem rowKind_pure {o : Oper} {c : COp} (hk : rowKind o c = .pure) : c.kind = .pure := by
  unfold rowKind at hk
  split at hk
  · cases hb : isAllocOp o.op <;> rw [hb] at hk <;> cases hk
  · exact hk

theorem rowKind_read {o : Oper} {c : COp} (hk : rowKind o c = .read) : c.kind = .read := by
  unfold rowKind at hk
  split at hk
  · cases hb : isAllocOp o.op <;> rw [hb] at hk <;> cases hk
  · exact hk

/-- an operation that lays a block -/
def AllocA (P : Program) (c : COp) (a : AAct) (h : AH) (n : AN) (h' : AH) : Prop :=
  ∃ mkv O, Shape mkv ∧ n = .value (mkv h.next) ∧ h' = h.push O ∧ (∀ φ tm, GlobRel P φ → ActRel φ a tm → Fresh φ O) ∧ ∀ H, evC P c a H = .ok (.value (mkv H.next), H.push O)

theorem alloc_ok {o : Oper} {c : COp} {n : AN} (hc : comp P o = .ok c) (hk : rowKind o c = .alloc) (hr : evC P c a h = .ok (n, h')) :
    AllocA P c a h n h' := by
  obtain ⟨hk, ho⟩ := rowKind_alloc hk
  unfold isAllocOp at ho
  split at ho
  · rename_i e hop
    simp only [comp, hop] at hc
    split at hc
    · rename_i z hz; cases hc
      simp only [evC, opNew] at hr ⊢
      cases hr
      obtain ⟨z', _, hz2⟩ := run_zero (P := P) (w := default) hz
      exact ⟨_, _, .inl rfl, rfl, rfl, fun φ tm hG hA => .inr ⟨_, _, rfl, (hz2 φ).cells⟩, fun H => rfl⟩
    · cases hc
  · rename_i e x hop
    simp only [comp, hop] at hc
    obtain ⟨ca, ha, hc⟩ := with1_ok hc
    cases hc
    simp only [evC, opNew] at hr ⊢
    cases hr
    exact ⟨_, _, .inl rfl, rfl, rfl, fun φ tm hG hA => .inr ⟨_, _, rfl, (cO_con (ds := []) ha hG hA).cells⟩, fun H => rfl⟩
  · rename_i t len parts hop
    simp only [comp, hop] at hc
    split at hc
    · rename_i e ht
      split at hc
      · rename_i es z hs hz
        split at hc
        · cases hc
        · rename_i hne
          split at hc
          · rename_i l hl; cases hc
            simp only [evC, opBuildSlice] at hr ⊢
            split at hr
            · rename_i q hq; cases hr
              obtain ⟨z', hz1, hz2⟩ := run_zero (P := P) (w := default) hz
              refine ⟨fun i => .slice i 0 len len true es, _, .inr (.inr ⟨_, _, _, _, rfl⟩), rfl, rfl, fun φ tm hG hA => ?_, fun H => by simp only [evC, opBuildSlice]; rw [hq]; rfl⟩
              have hcz := repl_con (φ := φ) (hz2 φ).cells (Decidable.byContradiction fun e => hne (.inr (.inr e))) (by have := fun e => hne (.inr (.inl e)); omega) len
              obtain ⟨l', g1, g2⟩ := fillA_ok (ds := []) hG hA hl hq hcz
              exact .inr ⟨_, _, rfl, g2⟩
            · cases hr
          · cases hc
      · cases hc
    · cases hc
  · rename_i t r hop
    simp only [comp, hop] at hc
    split at hc
    · rename_i r' ht hr'; cases hc
      simp only [evC] at hr
      unfold opMkM at hr
      split at hr
      · rename_i hv; cases hr; exact ⟨_, _, .inr (.inl rfl), rfl, rfl, fun _ _ _ _ => .inl rfl, fun H => by simp only [evC, opMkM, hv]; rfl⟩
      · rename_i hv; cases hr; exact ⟨_, _, .inr (.inl rfl), rfl, rfl, fun _ _ _ _ => .inl rfl, fun H => by simp only [evC, opMkM, hv]; rfl⟩
      · cases hr
    · cases hc
  · rename_i t l k hop
    simp only [comp, hop] at hc
    obtain ⟨ca, cb, ha, hb, hc⟩ := with2_ok hc
    split at hc
    · rename_i e ht
      split at hc
      · rename_i es bytes z hs hby hz
        split at hc
        · cases hc
        · rename_i hne; cases hc
          simp only [evC] at hr
          unfold opMkS at hr
          split at hr
          · rename_i hv1 hv2
            split at hr
            · rename_i hcond; cases hr
              obtain ⟨z', hz1, hz2⟩ := run_zero (P := P) (w := default) hz
              have hcz := fun φ n => repl_con (φ := φ) (hz2 φ).cells (Decidable.byContradiction fun e => hne (.inr e)) (by have := fun e => hne (.inl e); omega) n
              exact ⟨fun i => .slice i 0 _ _ true es, _, .inr (.inr ⟨_, _, _, _, rfl⟩), rfl, rfl, fun φ _ _ _ => .inr ⟨_, _, rfl, hcz φ _⟩, fun H => by simp only [evC, opMkS, hv1, hv2]; rw [if_pos hcond]; rfl⟩
            · cases hr
          · cases hr
      · cases hc
    · cases hc
  · rename_i s d x hop
    simp only [comp, hop] at hc
    obtain ⟨ca, ha, hc⟩ := with1_ok hc
    have key : ∀ cv, c = .conv cv ca → AllocA P c a h n h' := by
      rintro cv rfl
      cases cv with
      | bytes =>
        simp only [evC, opConv] at hr
        split at hr
        · rename_i hv; cases hr
          exact ⟨fun i => .slice i 0 _ _ false 1, _, .inr (.inr ⟨_, _, _, _, rfl⟩), rfl, rfl, fun _ _ _ _ => .inr ⟨_, _, rfl, bytesAV_con _⟩, fun H => by simp only [evC, opConv, hv]; rfl⟩
        · cases hr
      | runes =>
        simp only [evC, opConv] at hr
        split at hr
        · rename_i hv
          split at hr
          · rename_i hle
            simp only [forceN_eq] at hr
            cases hr
            refine ⟨fun i => .slice i 0 _ _ false 1, _, .inr (.inr ⟨_, _, _, _, rfl⟩), rfl, rfl, fun φ _ _ _ => ?_, fun H => by simp only [evC, opConv, hv, if_pos hle, forceN_eq]; rfl⟩
            obtain ⟨vs, _, e2⟩ := runesAV_con (φ := φ) _ _ _ #[]
            exact .inr ⟨_, _, rfl, e2⟩
          · cases hr
        · cases hr
      | int k => cases hk
      | str => cases hk
      | strB => cases hk
    split at hc
    · cases hc; exact key _ rfl
    · split at hc
      · split at hc
        · cases hc; exact key _ rfl
        · cases hc
      · cases hc; exact key _ rfl
      · cases hc; exact key _ rfl
      · cases hc
    · split at hc
      · cases hc; exact key _ rfl
      · cases hc; exact key _ rfl
      · cases hc
    · cases hc
  · cases ho

end Go.Dr

/-
  Regions whose order is drawn: what a plan tells.
-/
namespace Go.Dr
open Go.RowKit

variable {P : Program} {call : CallF} {ops : Array Oper} {W : Nat}

/-! ### masks -/

theorem hasN_eq (m i : Nat) : hasN m i = m.testBit i := by
  unfold hasN Nat.testBit
  have e : Nat.land (Nat.shiftRight m i) 1 = (m >>> i) % 2 := Nat.and_one_is_mod _
  have e2 : (1 &&& m >>> i) = (m >>> i) % 2 := by rw [Nat.and_comm]; exact Nat.and_one_is_mod _
  rw [e, e2]
  rcases Nat.mod_two_eq_zero_or_one (m >>> i) with h | h <;> rw [h] <;> rfl

theorem hasN_zero (i : Nat) : hasN 0 i = false := by rw [hasN_eq]; simp

theorem hasN_lor (a b i : Nat) : hasN (Nat.lor a b) i = (hasN a i || hasN b i) := by
  rw [hasN_eq, hasN_eq, hasN_eq]; exact Nat.testBit_or a b i

theorem hasN_bit (i j : Nat) : hasN (bitN i) j = true ↔ i = j := by
  rw [hasN_eq]
  have : bitN i = 2 ^ i := by show 1 <<< i = _; rw [Nat.one_shiftLeft]
  rw [this, Nat.testBit_two_pow]; simp

theorem subN_has {a b i : Nat} (hs : subN a b = true) (hi : hasN a i = true) : hasN b i = true := by
  have := Nat.eq_of_beq_eq_true hs
  rw [← this, hasN_lor, hi]; rfl

theorem hasN_bitO {d : Option Tmp} {t : Nat} : hasN (bitO d) t = true ↔ d = some t := by
  cases d with
  | none => simp [bitO, hasN_zero]
  | some d => simp only [bitO, hasN_bit, Option.some.injEq]

/-! ### what comes before -/

inductive Anc (ops : Array Oper) : Nat → Nat → Prop
  | one {i : Nat} {o : Oper} {e : Edge} (ho : ops[i]? = some o) (he : e ∈ o.after.toList) (hb : bindsE e = true) : Anc ops i e.on
  | more {i k : Nat} {o : Oper} {e : Edge} (ho : ops[i]? = some o) (he : e ∈ o.after.toList) (hb : bindsE e = true) (h : Anc ops e.on k) : Anc ops i k

def dstOf (ops : Array Oper) (j : Nat) : Option Tmp := (ops[j]?).bind (·.dst)

structure RowOk (P : Program) (ops : Array Oper) (r : DRow) : Prop where
  get : ops[r.i]? = some r.o
  comp : comp P r.o = .ok r.c
  kind : r.k = rowKind r.o r.c
  af : r.af = afterMask r.o.after.toList
  rd : r.rd = guardReads ops r.o ++ r.c.reads

theorem RowOk.dst {r : DRow} (h : RowOk P ops r) : dstOf ops r.i = r.o.dst := by simp [dstOf, h.get]

theorem afterMask_ok : ∀ {l : List Edge} {e : Edge}, e ∈ l → bindsE e = true → hasN (afterMask l) e.on = true
  | x :: l, e, he, hb => by
    simp only [afterMask]
    rcases List.mem_cons.1 he with rfl | he
    · rw [hb, cond_true, hasN_lor, (hasN_bit _ _).2 rfl]; rfl
    · have := afterMask_ok he hb
      cases bindsE x
      · exact this
      · rw [cond_true, hasN_lor, this, Bool.or_true]

/-- a cell of a trace: an operation, and what it was run from -/
structure Cel where
  r : DRow
  a : AAct
  h : AH

structure InvSt (ops : Array Oper) (W : Nat) (pre : List Cel) (st : DSt) : Prop where
  done : ∀ i, hasN st.done i = true → ∃ c ∈ pre, c.r.i = i
  hv : ∀ c ∈ pre, c.r.k.isHeavy = true → hasN st.hv c.r.i = true
  wr : ∀ c ∈ pre, ∀ d, c.r.o.dst = some d → hasN st.wr d = true
  tbl : ∀ i x y, st.tbl.get i = some (x, y) → (∀ j, hasN x j = true → j = i ∨ Anc ops i j) ∧ (∀ t, hasN y t = true → ∃ j, (j = i ∨ Anc ops i j) ∧ dstOf ops j = some t)
  rs : ∀ c ∈ pre, c.r.k.isRead = true → c.r ∈ st.rs ∨ ∃ c2 ∈ pre, c2.r.k.isHeavy = true ∧ (c.r.i = c2.r.i ∨ Anc ops c2.r.i c.r.i)
  old : ∀ c ∈ pre, ∀ t ∈ c.r.rd, hasN W t = true → (∃ j, Anc ops c.r.i j ∧ dstOf ops j = some t) ∨ (t, c.r.i) ∈ st.old

theorem ancOf_ok {t : PT (Nat × Nat)} (ht : ∀ i x y, t.get i = some (x, y) → (∀ j, hasN x j = true → j = i ∨ Anc ops i j) ∧ (∀ s, hasN y s = true → ∃ j, (j = i ∨ Anc ops i j) ∧ dstOf ops j = some s))
    {i : Nat} {o : Oper} (ho : ops[i]? = some o) : ∀ {l : List Edge}, (∀ e ∈ l, e ∈ o.after.toList) →
      (∀ j, hasN (ancOf t l).1 j = true → Anc ops i j) ∧ (∀ s, hasN (ancOf t l).2 s = true → ∃ j, Anc ops i j ∧ dstOf ops j = some s)
  | [], _ => by simp [ancOf, hasN_zero]
  | e :: l, hl => by
    obtain ⟨i1, i2⟩ := ancOf_ok ht ho (l := l) fun x hx => hl x (List.mem_cons_of_mem _ hx)
    simp only [ancOf]
    cases hb : bindsE e with
    | false => exact ⟨i1, i2⟩
    | true =>
      simp only [cond_true]
      split
      · rename_i x' y' hg
        obtain ⟨t1, t2⟩ := ht _ _ _ hg
        have hmem := hl e (List.mem_cons_self)
        have up : ∀ {j}, j = e.on ∨ Anc ops e.on j → Anc ops i j := by
          rintro j (rfl | hj)
          · exact .one ho hmem hb
          · exact .more ho hmem hb hj
        refine ⟨fun j hj => ?_, fun s hs => ?_⟩
        · simp only [hasN_lor, Bool.or_eq_true] at hj
          rcases hj with hj | hj
          · exact i1 _ hj
          · exact up (t1 _ hj)
        · simp only [hasN_lor, Bool.or_eq_true] at hs
          rcases hs with hs | hs
          · exact i2 _ hs
          · obtain ⟨j, hj, hd⟩ := t2 _ hs
            exact ⟨j, up hj, hd⟩
      · exact ⟨i1, i2⟩

theorem readsOk_ok {D wr : Nat} : ∀ {l : List Nat}, readsOk W D wr l = true → ∀ t ∈ l, hasN W t = true → hasN D t = true ∨ hasN wr t = false
  | x :: l, h, t, ht, hw => by
    simp only [readsOk] at h
    rcases List.mem_cons.1 ht with rfl | ht
    · rw [hw] at h
      simp only [cond_true, Bool.and_eq_true, Bool.or_eq_true, Bool.not_eq_true'] at h
      exact h.1
    · refine readsOk_ok (l := l) ?_ t ht hw
      cases hx : hasN W x
      · rw [hx] at h; exact h
      · rw [hx] at h
        simp only [cond_true, Bool.and_eq_true] at h
        exact h.2

theorem oldOf_ok {D i : Nat} : ∀ {l : List Nat}, ∀ t ∈ l, hasN W t = true → hasN D t = true ∨ (t, i) ∈ oldOf W D i l
  | x :: l, t, ht, hw => by
    simp only [oldOf]
    rcases List.mem_cons.1 ht with rfl | ht
    · cases hd : hasN D t
      · right; rw [hw]; exact List.mem_cons_self
      · exact .inl rfl
    · rcases oldOf_ok (D := D) (i := i) t ht hw with h | h
      · exact .inl h
      · right
        cases (Bool.and (hasN W x) (Bool.not (hasN D x)))
        · exact h
        · exact List.mem_cons_of_mem _ h

theorem oldOk_ok {d x i : Nat} (l : List (Nat × Nat)) : oldOk d x i l = true → ∀ j, (d, j) ∈ l → j = i ∨ hasN x j = true := by
  induction l with
  | nil => intro _ j hj; cases hj
  | cons q l ih =>
    intro h j hj
    obtain ⟨t, k⟩ := q
    simp only [oldOk] at h
    rcases List.mem_cons.1 hj with e | hj
    · cases e
      rw [Nat.beq_refl] at h
      simp only [cond_true, Bool.and_eq_true, Bool.or_eq_true] at h
      rcases h.1 with h | h
      · exact .inl (Nat.eq_of_beq_eq_true h)
      · exact .inr h
    · refine ih ?_ j hj
      cases hx : Nat.beq t d
      · rw [hx] at h; exact h
      · rw [hx] at h
        simp only [cond_true, Bool.and_eq_true] at h
        exact h.2

theorem again1_ok {x : Nat} (l : List DRow) : ∀ r ∈ l, hasN x r.i = true ∨ r ∈ again1 x l := by
  induction l with
  | nil => intro r hr; cases hr
  | cons y l ih =>
    intro r hr
    simp only [again1]
    rcases List.mem_cons.1 hr with rfl | hr
    · cases hasN x r.i
      · right; exact List.mem_cons_self
      · exact .inl rfl
    · rcases ih r hr with h | h
      · exact .inl h
      · right
        cases hasN x y.i
        · exact List.mem_cons_of_mem _ h
        · exact h

/-- what is known of an operation in its place -/
structure Fact (P : Program) (ops : Array Oper) (W : Nat) (pre : List Cel) (r : DRow) : Prop where
  row : RowOk P ops r
  hv : ∀ c ∈ pre, c.r.k.isHeavy = true → Anc ops r.i c.r.i
  rd : ∀ t ∈ r.rd, hasN W t = true → (∃ j, Anc ops r.i j ∧ dstOf ops j = some t) ∨ (r.k.isRead = false ∧ ∀ c ∈ pre, c.r.o.dst ≠ some t)
  old : ∀ d, r.o.dst = some d → hasN W d = true → ∀ c ∈ pre, d ∈ c.r.rd → (∃ j, Anc ops c.r.i j ∧ dstOf ops j = some d) ∨ c.r.i = r.i ∨ Anc ops r.i c.r.i

theorem put_ok {pre : List Cel} {st st' : DSt} {r : DRow} (I : InvSt ops W pre st) (hr : RowOk P ops r) (hp : st.put W r = .ok st') (a : AAct) (h : AH) :
    Fact P ops W pre r ∧ InvSt ops W (pre ++ [⟨r, a, h⟩]) st' := by
  unfold DSt.put at hp
  simp only [forceN_eq] at hp
  obtain ⟨A1, A2⟩ := ancOf_ok I.tbl hr.get (l := r.o.after.toList) fun e he => he
  generalize (ancOf st.tbl r.o.after.toList).1 = x at *
  generalize (ancOf st.tbl r.o.after.toList).2 = y at *
  cases hc : (subN st.hv x && (readsOk W y st.wr r.rd && (oldOkO r.o.dst x r.i (oldOf W y r.i r.rd ++ st.old) && (!r.k.isRead || emptyL (oldOf W y r.i r.rd))))) with
  | false => rw [hc] at hp; cases hp
  | true =>
    rw [hc] at hp
    cases hp
    simp only [Bool.and_eq_true] at hc
    obtain ⟨c1, c2, c3, c4⟩ := hc
    have X : ∀ j, hasN (x.lor (bitN r.i)) j = true → j = r.i ∨ Anc ops r.i j := by
      intro j hj
      rw [hasN_lor, Bool.or_eq_true, hasN_bit] at hj
      rcases hj with hj | hj
      · exact .inr (A1 _ hj)
      · exact .inl hj.symm
    have rdd : ∀ t ∈ r.rd, hasN W t = true → (∃ j, Anc ops r.i j ∧ dstOf ops j = some t) ∨ (t, r.i) ∈ oldOf W y r.i r.rd := fun t ht hw => by
      rcases oldOf_ok (D := y) (i := r.i) t ht hw with h1 | h1
      · exact .inl (A2 _ h1)
      · exact .inr h1
    refine ⟨⟨hr, fun c hc hh => A1 _ (subN_has c1 (I.hv c hc hh)), fun t ht hw => ?_, fun d hd hw c hc ht => ?_⟩, ⟨fun i hi => ?_, fun c hc hh => ?_, fun c hc d hd => ?_, fun i x' y' hg => ?_, fun c hc hh => ?_, fun c hc t ht hw => ?_⟩⟩
    · rcases rdd t ht hw with h1 | h1
      · exact .inl h1
      · rcases readsOk_ok c2 t ht hw with h2 | h2
        · exact .inl (A2 _ h2)
        · refine .inr ⟨?_, fun c hc e => ?_⟩
          · cases hk : r.k.isRead with
            | false => rfl
            | true =>
              rw [hk] at c4
              simp only [Bool.not_true, Bool.false_or] at c4
              generalize oldOf W y r.i r.rd = ol at h1 c4
              cases ol with
              | nil => cases h1
              | cons _ _ => cases c4
          · rw [I.wr c hc t e] at h2; cases h2
    · rcases I.old c hc d ht hw with h1 | h1
      · exact .inl h1
      · rw [hd] at c3
        rcases oldOk_ok _ c3 _ (List.mem_append_right _ h1) with h2 | h2
        · exact .inr (.inl h2)
        · exact .inr (.inr (A1 _ h2))
    · simp only [hasN_lor, Bool.or_eq_true, hasN_bit] at hi
      rcases hi with hi | hi
      · obtain ⟨c, h1, h2⟩ := I.done i hi
        exact ⟨c, List.mem_append_left _ h1, h2⟩
      · exact ⟨_, List.mem_append_right _ (List.mem_singleton.2 rfl), hi⟩
    · rcases List.mem_append.1 hc with hc | hc
      · have := I.hv c hc hh
        simp only
        cases r.k.isHeavy
        · exact this
        · rw [cond_true, hasN_lor, this]; rfl
      · obtain rfl := List.mem_singleton.1 hc
        simp only at hh ⊢
        rw [hh, cond_true, hasN_lor, (hasN_bit _ _).2 rfl, Bool.or_true]
    · rcases List.mem_append.1 hc with hc | hc
      · simp only [hasN_lor]; rw [I.wr c hc d hd]; rfl
      · obtain rfl := List.mem_singleton.1 hc
        simp only [hasN_lor]; rw [(hasN_bitO).2 hd, Bool.or_true]
    · rw [PT.get_set] at hg
      by_cases hi : i = r.i
      · subst hi
        rw [if_pos rfl] at hg
        cases hg
        refine ⟨X, fun t ht => ?_⟩
        rw [hasN_lor, Bool.or_eq_true] at ht
        rcases ht with ht | ht
        · obtain ⟨j, hj, hd⟩ := A2 _ ht
          exact ⟨j, .inr hj, hd⟩
        · exact ⟨r.i, .inl rfl, by rw [hr.dst]; exact hasN_bitO.1 ht⟩
      · rw [if_neg hi] at hg
        exact I.tbl _ _ _ hg
    · rcases List.mem_append.1 hc with hc | hc
      · have lift : (∃ c2 ∈ pre, c2.r.k.isHeavy = true ∧ (c.r.i = c2.r.i ∨ Anc ops c2.r.i c.r.i)) → ∃ c2 ∈ pre ++ [(⟨r, a, h⟩ : Cel)], c2.r.k.isHeavy = true ∧ (c.r.i = c2.r.i ∨ Anc ops c2.r.i c.r.i) :=
          fun ⟨c2, h1, h2⟩ => ⟨c2, List.mem_append_left _ h1, h2⟩
        rcases I.rs c hc hh with h1 | h1
        · simp only
          cases hrd : r.k.isRead with
          | true => exact .inl (List.mem_cons_of_mem _ h1)
          | false =>
            cases hhv : r.k.isHeavy with
            | false => exact .inl h1
            | true =>
              simp only [cond_false, cond_true]
              rcases again1_ok (x := x.lor (bitN r.i)) _ c.r h1 with h2 | h2
              · exact .inr ⟨_, List.mem_append_right _ (List.mem_singleton.2 rfl), hhv, X _ h2⟩
              · exact .inl h2
        · exact .inr (lift h1)
      · obtain rfl := List.mem_singleton.1 hc
        simp only at hh ⊢
        rw [hh]
        exact .inl List.mem_cons_self
    · rcases List.mem_append.1 hc with hc | hc
      · rcases I.old c hc t ht hw with h1 | h1
        · exact .inl h1
        · exact .inr (List.mem_append_right _ h1)
      · obtain rfl := List.mem_singleton.1 hc
        rcases rdd t ht hw with h1 | h1
        · exact .inl h1
        · exact .inr (List.mem_append_left _ h1)

end Go.Dr

/-
  Regions whose order is drawn: the canonical run, as a trace.
-/
namespace Go.Dr
open Go.RowKit

variable {P : Program} {call : CallF} {ops : Array Oper} {W : Nat}

theorem eqL_ok {f : AV → AV → Bool} (hf : ∀ x y, f x y = true → x = y) : ∀ (l m : List AV), eqL f l m = true → l = m
  | [], [], _ => rfl
  | [], _ :: _, h => by cases h
  | _ :: _, [], h => by cases h
  | x :: l, y :: m, h => by
    simp only [eqL, Bool.and_eq_true] at h
    rw [hf _ _ h.1, eqL_ok hf l m h.2]

theorem eqAV_ok : ∀ (d : Nat) (x y : AV), eqAV d x y = true → x = y
  | 0, _, _, h => by cases h
  | d + 1, x, y, h => by
    have ih := fun x y => eqAV_ok d x y
    have ihl := fun l m => eqL_ok ih l m
    unfold eqAV at h
    split at h <;> try (simp only [Bool.and_eq_true, beq_iff_eq, decide_eq_true_eq] at h)
    · rw [h]
    · rw [h.1, h.2]
    · rw [h]
    · rfl
    · rw [Nat.eq_of_beq_eq_true h.1, Nat.eq_of_beq_eq_true h.2]
    · rfl
    · obtain ⟨h1, h2, h3, h4, h5, h6⟩ := h
      rw [Nat.eq_of_beq_eq_true h1, Nat.eq_of_beq_eq_true h2, Nat.eq_of_beq_eq_true h3, Nat.eq_of_beq_eq_true h4, h5, Nat.eq_of_beq_eq_true h6]
    · rfl
    · rw [Nat.eq_of_beq_eq_true h]
    · rfl
    · split at h
      · simp only [Bool.and_eq_true] at h
        rw [Nat.eq_of_beq_eq_true h.1, ihl _ _ h.2.1, ihl _ _ h.2.2]
      · simp only [Bool.and_eq_true] at h
        rw [Nat.eq_of_beq_eq_true h.1, ihl _ _ h.2.1, ihl _ _ h.2.2]
      · cases h
    · rfl
    · rw [Nat.eq_of_beq_eq_true h.1, ih _ _ h.2]
    · rw [ihl _ _ h]
    · rw [ihl _ _ h]
    · rw [Nat.eq_of_beq_eq_true h]
    · cases h

/-- a read that comes out the same -/
def AgainOk (P : Program) (ops : Array Oper) (r : DRow) (a : AAct) (h : AH) : Prop :=
  wantedA ops r.o a = .ok false ∨ ∃ v h2, wantedA ops r.o a = .ok true ∧ evC P r.c a h = .ok (.value v, h2) ∧ ∀ d, r.o.dst = some d → v = a.val d

theorem again_ok {a : AAct} {h : AH} : ∀ (l : List DRow), again P ops l a h = true → ∀ r ∈ l, AgainOk P ops r a h
  | [], _, r, hr => by cases hr
  | x :: l, hh, r, hr => by
    unfold again at hh
    split at hh
    · rename_i hw
      split at hh
      · rename_i v h2 he
        simp only [Bool.and_eq_true] at hh
        rcases List.mem_cons.1 hr with rfl | hr
        · refine .inr ⟨v, h2, hw, he, fun d hd => ?_⟩
          have := hh.1
          rw [hd] at this
          exact eqAV_ok _ _ _ this
        · exact again_ok l hh.2 r hr
      · cases hh
    · rename_i hw
      rcases List.mem_cons.1 hr with rfl | hr
      · exact .inl hw
      · exact again_ok l hh r hr
    · cases hh

theorem findReady_ok {hv : Bool} {done : Nat} : ∀ {l l' : List DRow} {r : DRow}, findReady hv done l = some (r, l') → r.k.isHeavy = hv ∧ subN r.af done = true ∧ l.Perm (r :: l')
  | [], _, _, h => by cases h
  | x :: l, l', r, h => by
    simp only [findReady] at h
    cases hc : (Bool.and (x.k.isHeavy == hv) (subN x.af done)) with
    | true =>
      rw [hc] at h; cases h
      simp only [Bool.and_eq_true, beq_iff_eq] at hc
      exact ⟨hc.1, hc.2, .refl _⟩
    | false =>
      rw [hc] at h
      simp only [cond_false] at h
      split at h
      · rename_i y l2 hy
        cases h
        obtain ⟨h1, h2, h3⟩ := findReady_ok hy
        exact ⟨h1, h2, (h3.cons x).trans (.swap _ _ _)⟩
      · cases h

/-- one operation of the canonical run -/
def StepOf (P : Program) (call : CallF) (ops : Array Oper) (r : DRow) (a : AAct) (h : AH) (a1 : AAct) (h1 : AH) : Prop :=
  (wantedA ops r.o a = .ok true ∧ evOper P call r.o a h = .ok (a1, h1)) ∨ (wantedA ops r.o a = .ok false ∧ a1 = a.put r.o.dst aundef ∧ h1 = h)

inductive Trace (P : Program) (call : CallF) (ops : Array Oper) (W : Nat) : DSt → List DRow → AAct → AH → List Cel → AAct → AH → Prop
  | nil {st : DSt} {a : AAct} {h : AH} (ha : again P ops st.rs a h = true) : Trace P call ops W st [] a h [] a h
  | cons {st st' : DSt} {rem rem' : List DRow} {r : DRow} {a a1 aN : AAct} {h h1 hN : AH} {cs : List Cel} {hv : Bool} (hf : findReady hv st.done rem = some (r, rem')) (ha : hv = true → again P ops st.rs a h = true)
      (hp : st.put W r = .ok st') (hs : StepOf P call ops r a h a1 h1) (t : Trace P call ops W st' rem' a1 h1 cs aN hN) : Trace P call ops W st rem a h (⟨r, a, h⟩ :: cs) aN hN

theorem evEnts_op {o : Oper} {l : List DEnt} {a aN : AAct} {h hN : AH} (he : evEnts P call ops (.op o :: l) a h = .ok (aN, hN)) :
    ∃ a1 h1, ((wantedA ops o a = .ok true ∧ evOper P call o a h = .ok (a1, h1)) ∨ (wantedA ops o a = .ok false ∧ a1 = a.put o.dst aundef ∧ h1 = h)) ∧ evEnts P call ops l a1 h1 = .ok (aN, hN) := by
  simp only [evEnts] at he
  split at he
  · rename_i hw
    split at he
    · rename_i a1 h1 h2
      exact ⟨a1, h1, .inl ⟨hw, h2⟩, he⟩
    · cases he
  · rename_i hw
    exact ⟨_, _, .inr ⟨hw, rfl, rfl⟩, he⟩
  · cases he

theorem evEnts_stage {re : List DRow} {l : List DEnt} {a aN : AAct} {h hN : AH} (he : evEnts P call ops (.stage re :: l) a h = .ok (aN, hN)) :
    again P ops re a h = true ∧ evEnts P call ops l a h = .ok (aN, hN) := by
  simp only [evEnts] at he
  cases hb : again P ops re a h with
  | true => rw [hb] at he; exact ⟨rfl, he⟩
  | false => rw [hb] at he; cases he

theorem trace_of : ∀ (n : Nat) (st : DSt) (rem : List DRow) (ents : List DEnt) (a : AAct) (h : AH) (aN : AAct) (hN : AH), sched W n st rem = .ok ents → evEnts P call ops ents a h = .ok (aN, hN) →
    ∃ cs, Trace P call ops W st rem a h cs aN hN
  | n, st, [], ents, a, h, aN, hN, hs, he => by
    have : ents = [.stage st.rs] := by cases n <;> (simp only [sched] at hs; cases hs; rfl)
    subst this
    obtain ⟨h1, h2⟩ := evEnts_stage he
    cases h2
    exact ⟨[], .nil h1⟩
  | 0, st, _ :: _, ents, a, h, aN, hN, hs, he => by cases hs
  | n + 1, st, x :: rem, ents, a, h, aN, hN, hs, he => by
    simp only [sched] at hs
    split at hs
    · rename_i r rem' hf
      split at hs
      · rename_i st' hp
        split at hs
        · rename_i l hl; cases hs
          obtain ⟨a1, h1, hst, he⟩ := evEnts_op he
          obtain ⟨cs, t⟩ := trace_of n _ _ _ _ _ _ _ hl he
          exact ⟨_, .cons hf (fun e => by cases e) hp hst t⟩
        · cases hs
      · cases hs
    · split at hs
      · rename_i r rem' hf
        split at hs
        · rename_i st' hp
          split at hs
          · rename_i l hl; cases hs
            obtain ⟨ha, he⟩ := evEnts_stage he
            obtain ⟨a1, h1, hst, he⟩ := evEnts_op he
            obtain ⟨cs, t⟩ := trace_of n _ _ _ _ _ _ _ hl he
            exact ⟨_, .cons hf (fun _ => ha) hp hst t⟩
          · cases hs
        · cases hs
      · cases hs

theorem rowsOf_ok : ∀ (l : List Oper) (i : Nat) (rows : List DRow), rowsOf P ops l i = .ok rows → (∀ j o, l[j]? = some o → ops[i + j]? = some o) → (∀ r ∈ rows, RowOk P ops r) ∧ rows.map (·.i) = List.range' i l.length
  | [], i, rows, h, _ => by cases h; exact ⟨fun r hr => (by cases hr), rfl⟩
  | o :: l, i, rows, h, ho => by
    simp only [rowsOf] at h
    split at h
    · rename_i c hc
      split at h
      · rename_i r hr; cases h
        obtain ⟨i1, i2⟩ := rowsOf_ok l (i + 1) r hr fun j o' hj => by
          have := ho (j + 1) o' (by simpa using hj)
          rw [show i + 1 + j = i + (j + 1) from by omega]; exact this
        have h0 : ops[i]? = some o := ho 0 o rfl
        refine ⟨fun x hx => ?_, by simp only [List.map_cons, i2, List.length_cons, List.range'_succ]⟩
        rcases List.mem_cons.1 hx with rfl | hx
        · exact ⟨h0, hc, rfl, rfl, rfl⟩
        · exact i1 x hx
      · cases h
    · cases h

theorem writesOf_ok : ∀ (l : List Oper) (W : Nat), writesOf l = .ok W → (∀ (i : Nat) o d, l[i]? = some o → o.dst = some d → hasN W d = true) ∧
    (∀ (i j : Nat) o o' d, l[i]? = some o → l[j]? = some o' → o.dst = some d → o'.dst = some d → i = j) ∧ (∀ d, hasN W d = true → ∃ (i : Nat) (o : Oper), l[i]? = some o ∧ o.dst = some d)
  | [], W, h => by cases h; exact ⟨fun i o d e => (by simp at e), fun i j o o' d e => (by simp at e), fun d h => (by rw [hasN_zero] at h; cases h)⟩
  | o :: l, W, h => by
    simp only [writesOf] at h
    split at h
    · rename_i W' hW
      obtain ⟨i1, i2, i3⟩ := writesOf_ok l W' hW
      split at h
      · rename_i d hd
        cases hb : hasN W' d with
        | true => rw [hb] at h; cases h
        | false =>
          rw [hb] at h; cases h
          refine ⟨fun i o1 d1 h1 h2 => ?_, fun i j o1 o2 d1 h1 h2 h3 h4 => ?_, fun d1 h1 => ?_⟩
          · rw [hasN_lor]
            cases i with
            | zero => cases h1; rw [hd] at h2; cases h2; rw [(hasN_bit _ _).2 rfl, Bool.or_true]
            | succ i => rw [i1 i o1 d1 (by simpa using h1) h2]; rfl
          · cases i with
            | zero =>
              cases h1; rw [hd] at h3; cases h3
              cases j with
              | zero => rfl
              | succ j => rw [i1 j o2 d (by simpa using h2) h4] at hb; cases hb
            | succ i =>
              cases j with
              | zero => cases h2; rw [hd] at h4; cases h4; rw [i1 i o1 d (by simpa using h1) h3] at hb; cases hb
              | succ j => rw [i2 i j o1 o2 d1 (by simpa using h1) (by simpa using h2) h3 h4]
          · rw [hasN_lor, Bool.or_eq_true, hasN_bit] at h1
            rcases h1 with h1 | h1
            · obtain ⟨i, o1, h2, h3⟩ := i3 d1 h1
              exact ⟨i + 1, o1, by simpa using h2, h3⟩
            · subst h1; exact ⟨0, o, rfl, hd⟩
      · rename_i hd; cases h
        refine ⟨fun i o1 d1 h1 h2 => ?_, fun i j o1 o2 d1 h1 h2 h3 h4 => ?_, fun d1 h1 => ?_⟩
        · cases i with
          | zero => cases h1; rw [hd] at h2; cases h2
          | succ i => exact i1 i o1 d1 (by simpa using h1) h2
        · cases i with
          | zero => cases h1; rw [hd] at h3; cases h3
          | succ i =>
            cases j with
            | zero => cases h2; rw [hd] at h4; cases h4
            | succ j => rw [i2 i j o1 o2 d1 (by simpa using h1) (by simpa using h2) h3 h4]
        · obtain ⟨i, o1, h2, h3⟩ := i3 d1 h1
          exact ⟨i + 1, o1, by simpa using h2, h3⟩
    · cases h

def stA (cs : List Cel) (aN : AAct) : AAct := match cs with | [] => aN | c :: _ => c.a
def stH (cs : List Cel) (hN : AH) : AH := match cs with | [] => hN | c :: _ => c.h

theorem Trace.start {st : DSt} {rem : List DRow} {a aN : AAct} {h hN : AH} {cs : List Cel} (t : Trace P call ops W st rem a h cs aN hN) : stA cs aN = a ∧ stH cs hN = h := by
  cases t <;> exact ⟨rfl, rfl⟩

/-- reads that come out the same, or were surely made -/
def Reads (P : Program) (ops : Array Oper) (pre : List Cel) (a : AAct) (h : AH) : Prop :=
  ∀ c ∈ pre, c.r.k.isRead = true → AgainOk P ops c.r a h ∨ ∃ c2 ∈ pre, c2.r.k.isHeavy = true ∧ (c.r.i = c2.r.i ∨ Anc ops c2.r.i c.r.i)

structure Place (P : Program) (call : CallF) (ops : Array Oper) (W : Nat) (pre : List Cel) (c : Cel) (a1 : AAct) (h1 : AH) : Prop where
  fact : Fact P ops W pre c.r
  lin : ∀ e ∈ c.r.o.after.toList, bindsE e = true → ∃ c' ∈ pre, c'.r.i = e.on
  step : StepOf P call ops c.r c.a c.h a1 h1
  again : c.r.k.isHeavy = true → Reads P ops pre c.a c.h

theorem Trace.places {st : DSt} {rem : List DRow} {a aN : AAct} {h hN : AH} {cs : List Cel} (t : Trace P call ops W st rem a h cs aN hN) :
    ∀ pre, InvSt ops W pre st → (∀ r ∈ rem, RowOk P ops r) →
      (∀ c1 c c2, cs = c1 ++ c :: c2 → Place P call ops W (pre ++ c1) c (stA c2 aN) (stH c2 hN)) ∧ Reads P ops (pre ++ cs) aN hN ∧ (cs.map (·.r)).Perm rem := by
  induction t with
  | nil ha =>
    intro pre I hr
    refine ⟨fun c1 c c2 e => (by cases c1 <;> cases e), fun c hc hh => ?_, .refl _⟩
    rw [List.append_nil] at hc ⊢
    rcases I.rs c hc hh with h1 | h1
    · exact .inl (again_ok _ ha _ h1)
    · exact .inr h1
  | @cons st st' rem rem' r a a1 aN h h1 hN cs hv hf ha hp hs t ih =>
    intro pre I hr
    obtain ⟨f1, f2, f3⟩ := findReady_ok hf
    have hrow := hr r (f3.mem_iff.2 List.mem_cons_self)
    obtain ⟨F, I'⟩ := put_ok I hrow hp a h
    obtain ⟨i1, i2, i3⟩ := ih (pre ++ [⟨r, a, h⟩]) I' fun x hx => hr x (f3.mem_iff.2 (List.mem_cons_of_mem _ hx))
    refine ⟨fun c1 c c2 e => ?_, by simpa using i2, (i3.cons r).trans f3.symm⟩
    cases c1 with
    | nil =>
      cases e
      rw [List.append_nil]
      refine ⟨F, fun e he hb => I.done _ ?_, ?_, fun hh c hc hrd => ?_⟩
      · refine subN_has f2 ?_
        rw [hrow.af]
        exact afterMask_ok he hb
      · rw [t.start.1, t.start.2]; exact hs
      · rcases I.rs c hc hrd with h1 | h1
        · exact .inl (again_ok _ (ha (f1.symm.trans hh)) _ h1)
        · exact .inr h1
    | cons x c1 =>
      cases e
      have := i1 c1 c c2 rfl
      simpa using this

theorem inv0 : InvSt ops W [] ⟨0, 0, 0, 0, .leaf, [], []⟩ :=
  ⟨fun i h => (by rw [hasN_zero] at h; cases h), fun c hc => (by cases hc), fun c hc => (by cases hc), fun i x y h => (by cases h), fun c hc => (by cases hc), fun c hc => (by cases hc)⟩

/-- the canonical run of a region whose order is drawn -/
structure Canon (P : Program) (call : CallF) (ops : Array Oper) (a0 : AAct) (h0 : AH) (aN : AAct) (hN : AH) (W : Nat) (cs : List Cel) : Prop where
  first : stA cs aN = a0 ∧ stH cs hN = h0
  place : ∀ c1 c c2, cs = c1 ++ c :: c2 → Place P call ops W c1 c (stA c2 aN) (stH c2 hN)
  reads : Reads P ops cs aN hN
  all : (cs.map (·.r.i)).Perm (List.range ops.size)
  w1 : ∀ (i : Nat) o d, ops[i]? = some o → o.dst = some d → hasN W d = true
  w2 : ∀ (i j : Nat) o o' d, ops[i]? = some o → ops[j]? = some o' → o.dst = some d → o'.dst = some d → i = j

theorem canon_of {a0 aN : AAct} {h0 hN : AH} (he : evDraw P call ops a0 h0 = .ok (aN, hN)) : ∃ W cs, Canon P call ops a0 h0 aN hN W cs := by
  unfold evDraw at he
  split at he
  · rename_i l hl
    unfold plan at hl
    split at hl
    · rename_i W rows hW hrows
      obtain ⟨r1, r2⟩ := rowsOf_ok _ _ _ hrows fun j o hj => by rw [Nat.zero_add, ← Array.getElem?_toList]; exact hj
      obtain ⟨cs, t⟩ := trace_of _ _ _ _ _ _ _ _ hl he
      obtain ⟨t1, t2, t3⟩ := t.places [] inv0 r1
      obtain ⟨w1, w2, _⟩ := writesOf_ok _ _ hW
      refine ⟨W, cs, t.start, fun c1 c c2 e => by simpa using t1 c1 c c2 e, by simpa using t2, ?_, fun i o d h1 => w1 i o d (by rw [Array.getElem?_toList]; exact h1), fun i j o o' d h1 h2 => w2 i j o o' d (by rw [Array.getElem?_toList]; exact h1) (by rw [Array.getElem?_toList]; exact h2)⟩
      have := t3.map (·.i)
      rw [List.map_map] at this
      refine this.trans ?_
      rw [r2, List.range_eq_range']
      exact .refl _
    · cases hl
    · cases hl
  · cases he

end Go.Dr

/-
  Regions whose order is drawn: values along the canonical run.
-/
namespace Go.Dr
open Go.RowKit

variable {P : Program} {call : CallF} {ops : Array Oper} {W : Nat}

theorem wantedA_congr {o : Oper} {a a' : AAct} (hr : ∀ t ∈ guardReads ops o, a.val t = a'.val t) : wantedA ops o a = wantedA ops o a' := by
  unfold wantedA
  unfold guardReads at hr
  split
  · rfl
  · rename_i j want hg
    rw [hg] at hr
    simp only at hr
    split
    · rename_i d hd
      rw [hd] at hr
      rw [hr d (by simp)]
    · rfl

def withDs (a : AAct) (ds : List ADef) : AAct := ⟨a.n, a.ts, ds, a.rd⟩

theorem evOper_congr {o : Oper} {c : COp} {a a' a1 : AAct} {h h1 : AH} (hc : comp P o = .ok c) (hv : evC P c a h = evC P c a' h) (hds : a.ds = a'.ds) (hrd : a.rd = a'.rd)
    (he : evOper P call o a h = .ok (a1, h1)) : ∃ v ds1, a1 = (withDs a ds1).put o.dst v ∧ evOper P call o a' h = .ok ((withDs a' ds1).put o.dst v, h1) := by
  unfold evOper at he ⊢
  rw [hc] at he ⊢
  simp only at he ⊢
  rw [← hv]
  split at he
  · rename_i n h2 hr
    split at he
    · rename_i v; rw [forceV_eq] at he ⊢; cases he
      exact ⟨v, a.ds, rfl, by rw [hds]; rfl⟩
    · cases he
      exact ⟨aundef, a.ds, rfl, by rw [hds]; rfl⟩
    · rename_i d
      cases hb : a.rd with
      | true => rw [hb] at he; cases he
      | false =>
        rw [hb] at he; cases he
        refine ⟨aundef, d :: a.ds, by rw [← hb]; rfl, ?_⟩
        rw [hds, ← hrd, hb, withDs, ← hrd, hb]; rfl
    · split at he
      · rename_i v h3 hcall; rw [forceV_eq] at he; cases he
        refine ⟨v, a.ds, rfl, ?_⟩
        simp only [forceV_eq]
        rw [hds]; rfl
      · cases he
    · split at he
      · rename_i v h3 hcall; rw [forceV_eq] at he; cases he
        refine ⟨v, a.ds, rfl, ?_⟩
        simp only [forceV_eq]
        rw [hds]; rfl
      · cases he
  · cases he

theorem put_val (a : AAct) (o : Option Tmp) (v : AV) (t : Nat) : (o = some t → t < a.n → (a.put o v).val t = v) ∧ ((o ≠ some t ∨ ¬ t < a.n) → (a.put o v).val t = a.val t) := by
  cases o with
  | none => exact ⟨fun e => (by cases e), fun _ => rfl⟩
  | some d =>
    unfold AAct.put
    simp only
    cases hb : Nat.blt d a.n with
    | false =>
      have hd : ¬ d < a.n := fun e => by
        have e2 : Nat.blt d a.n = true := Nat.blt_eq.symm ▸ e
        rw [e2] at hb; cases hb
      exact ⟨fun e h => by cases e; exact absurd h hd, fun _ => rfl⟩
    | true =>
      have hd : d < a.n := Nat.blt_eq ▸ hb
      refine ⟨fun e _ => by cases e; simp only [cond_true, AAct.val, PT.get_set, if_true], fun e => ?_⟩
      simp only [cond_true, AAct.val, PT.get_set]
      rw [if_neg]
      rintro rfl
      rcases e with e | e
      · exact e rfl
      · exact e hd

theorem StepOf.shape {r : DRow} {a a1 : AAct} {h h1 : AH} (hc : comp P r.o = .ok r.c) (s : StepOf P call ops r a h a1 h1) : ∃ v ds1, a1 = (withDs a ds1).put r.o.dst v := by
  rcases s with ⟨_, s⟩ | ⟨_, s, _⟩
  · obtain ⟨v, ds1, h1, _⟩ := evOper_congr hc rfl rfl rfl s
    exact ⟨v, ds1, h1⟩
  · exact ⟨aundef, a.ds, s⟩

section
variable {a0 aN : AAct} {h0 hN : AH} {cs : List Cel}

theorem Canon.row (C : Canon P call ops a0 h0 aN hN W cs) {c : Cel} (hc : c ∈ cs) : RowOk P ops c.r := by
  obtain ⟨c1, c2, e⟩ := List.append_of_mem hc
  exact (C.place c1 c c2 e).fact.row

theorem Canon.uniq (C : Canon P call ops a0 h0 aN hN W cs) {c1 c2 : List Cel} {c : Cel} (e : cs = c1 ++ c :: c2) : (∀ c' ∈ c1, c'.r.i ≠ c.r.i) ∧ (∀ c' ∈ c2, c'.r.i ≠ c.r.i) := by
  have hn : (cs.map (·.r.i)).Nodup := C.all.nodup_iff.2 List.nodup_range
  rw [e, List.map_append, List.map_cons, List.nodup_append, List.nodup_cons] at hn
  obtain ⟨_, ⟨h2, _⟩, h3⟩ := hn
  exact ⟨fun c' hc' ee => h3 _ (List.mem_map.2 ⟨c', hc', rfl⟩) _ List.mem_cons_self ee, fun c' hc' ee => h2 (List.mem_map.2 ⟨c', hc', ee⟩)⟩

theorem Canon.skip (C : Canon P call ops a0 h0 aN hN W cs) {t : Nat} : ∀ (c1 : List Cel) (c0 c2 : List Cel), cs = c0 ++ (c1 ++ c2) → (∀ c ∈ c1, c.r.o.dst ≠ some t) → (stA (c1 ++ c2) aN).val t = (stA c2 aN).val t
  | [], c0, c2, _, _ => rfl
  | c :: c1, c0, c2, e, hw => by
    have hp := C.place c0 c (c1 ++ c2) (by rw [e]; rfl)
    obtain ⟨v, ds1, hs⟩ := hp.step.shape hp.fact.row.comp
    rw [← C.skip c1 (c0 ++ [c]) c2 (by rw [e]; simp) fun x hx => hw x (List.mem_cons_of_mem _ hx), hs, (put_val _ _ _ _).2 (.inl (hw c List.mem_cons_self))]
    rfl

theorem Canon.same (C : Canon P call ops a0 h0 aN hN W cs) : ∀ (c1 : List Cel) (c0 c2 : List Cel), cs = c0 ++ (c1 ++ c2) → (stA (c1 ++ c2) aN).n = (stA c2 aN).n ∧ (stA (c1 ++ c2) aN).rd = (stA c2 aN).rd
  | [], c0, c2, _ => ⟨rfl, rfl⟩
  | c :: c1, c0, c2, e => by
    have hp := C.place c0 c (c1 ++ c2) (by rw [e]; rfl)
    obtain ⟨v, ds1, hs⟩ := hp.step.shape hp.fact.row.comp
    obtain ⟨i1, i2⟩ := C.same c1 (c0 ++ [c]) c2 (by rw [e]; simp)
    obtain ⟨_, j2, j3⟩ := AAct.put_ds (withDs c.a ds1) c.r.o.dst v
    rw [hs] at i1 i2
    exact ⟨i1.symm.trans j3 |>.symm, i2.symm.trans j2 |>.symm⟩

theorem Canon.anc (C : Canon P call ops a0 h0 aN hN W cs) {i j : Nat} (ha : Anc ops i j) : ∀ {c1 c2 : List Cel} {c : Cel}, cs = c1 ++ c :: c2 → c.r.i = i → ∃ c' ∈ c1, c'.r.i = j := by
  induction ha with
  | one ho he hb =>
    intro c1 c2 c e hi
    have hp := C.place c1 c c2 e
    have hg := hp.fact.row.get
    rw [hi, ho] at hg; cases hg
    exact hp.lin _ he hb
  | more ho he hb _ ih =>
    intro c1 c2 c e hi
    have hp := C.place c1 c c2 e
    have hg := hp.fact.row.get
    rw [hi, ho] at hg; cases hg
    obtain ⟨c', h1, h2⟩ := hp.lin _ he hb
    obtain ⟨d1, d2, rfl⟩ := List.append_of_mem h1
    obtain ⟨c'', h3, h4⟩ := ih (c1 := d1) (c2 := d2 ++ c :: c2) (c := c') (by rw [e]; simp) h2
    exact ⟨c'', List.mem_append_left _ h3, h4⟩

theorem Canon.dst (C : Canon P call ops a0 h0 aN hN W cs) {c c' : Cel} {t : Nat} (h1 : c ∈ cs) (h2 : c' ∈ cs) (d1 : c.r.o.dst = some t) (d2 : c'.r.o.dst = some t) : c.r.i = c'.r.i :=
  C.w2 _ _ _ _ _ (C.row h1).get (C.row h2).get d1 d2

theorem Canon.cover (C : Canon P call ops a0 h0 aN hN W cs) {i : Nat} (hi : i < ops.size) : ∃ c ∈ cs, c.r.i = i := by
  have := (C.all.mem_iff (a := i)).2 (List.mem_range.2 hi)
  obtain ⟨c, h1, h2⟩ := List.mem_map.1 this
  exact ⟨c, h1, h2⟩

/-- the value that an operation leaves -/
theorem Canon.left (C : Canon P call ops a0 h0 aN hN W cs) {c1 c2 : List Cel} {c : Cel} (e : cs = c1 ++ c :: c2) {t : Nat} (hd : c.r.o.dst = some t) : aN.val t = (stA c2 aN).val t := by
  have := C.skip (t := t) c2 (c1 ++ [c]) [] (by rw [e]; simp) fun x hx hx2 =>
    (C.uniq e).2 x hx (C.dst (by rw [e]; simp [hx]) (by rw [e]; simp) hx2 hd)
  rw [List.append_nil] at this
  exact this.symm

end

end Go.Dr

/-
  Regions whose order is drawn: any order, held against the canonical run.
-/
namespace Go.Dr
open Go.RowKit

variable {P : Program} {B : Nat} {w0 : World} {call : CallF} {ops : Array Oper} {W : Nat} {a0 aN : AAct} {h0 hN : AH} {cs : List Cel}

/-- a block that the canonical run has laid, and the real one not yet -/
def Prom (P : Program) (h0 : AH) (φ : Phi) (H : AH) (c : Cel) : Prop :=
  ∃ mkv O, Shape mkv ∧ h0.next ≤ c.h.next ∧ c.h.next < H.next ∧ H.get c.h.next = some O ∧ φ c.h.next = none ∧ evC P c.r.c c.a c.h = .ok (.value (mkv c.h.next), c.h.push O) ∧
    ∀ H, evC P c.r.c c.a H = .ok (.value (mkv H.next), H.push O)

structure Pre (P : Program) (B : Nat) (w0 : World) (ops : Array Oper) (a0 aN : AAct) (h0 hN : AH) (cs : List Cel) (φ0 : Phi) (rd : Bool) (S : Nat → Prop) (c1 c2 : List Cel) (φ : Phi) (s : AAct) (tm : Array Value) (ds : List Deferred) (w : World) : Prop where
  split : cs = c1 ++ c2
  sub : ∀ i, S i → ∃ c ∈ c1, c.r.i = i
  heavies : ∀ c ∈ c1, c.r.k.isHeavy = true → S c.r.i
  closed : ∀ i o e, S i → ops[i]? = some o → e ∈ o.after.toList → bindsE e = true → S e.on
  valS : ∀ t i, S i → dstOf ops i = some t → s.val t = aN.val t
  valN : ∀ t, (∀ i, S i → dstOf ops i ≠ some t) → s.val t = a0.val t
  n : s.n = a0.n
  dsE : s.ds = (stA c2 aN).ds
  st : St P B w0 φ s (stH c2 hN) rd tm ds w
  rda : a0.rd = rd
  ext : Ext φ0 h0 φ (stH c2 hN)
  prom : ∀ c ∈ c1, ¬ S c.r.i → c.r.k = .alloc → wantedA ops c.r.o c.a = .ok true → Prom P h0 φ (stH c2 hN) c
  apart : ∀ c ∈ c1, ∀ d ∈ c1, ¬ S c.r.i → c.r.k = .alloc → wantedA ops c.r.o c.a = .ok true → ¬ S d.r.i → d.r.k = .alloc → wantedA ops d.r.o d.a = .ok true → c.r.i ≠ d.r.i → c.h.next ≠ d.h.next

def HeadHeavy (c2 : List Cel) : Prop := ∀ c c3, c2 = c :: c3 → c.r.k.isHeavy = true

theorem kind_cases (k : DKind) : k.isHeavy = true ∨ k = .pure ∨ k = .read ∨ k = .alloc := by
  cases k
  · exact .inl rfl
  · exact .inr (.inl rfl)
  · exact .inr (.inr (.inl rfl))
  · exact .inr (.inr (.inr rfl))

/-- what a light operation does to the canonical heap -/
theorem light_heap {r : DRow} {a a1 : AAct} {h h1 : AH} (hr : RowOk P ops r) (hk : r.k.isHeavy = false) (hs : StepOf P call ops r a h a1 h1) :
    a1.ds = a.ds ∧ ((h1 = h ∧ ¬ (r.k = .alloc ∧ wantedA ops r.o a = .ok true)) ∨ (r.k = .alloc ∧ wantedA ops r.o a = .ok true ∧
      ∃ mkv O, Shape mkv ∧ h1 = h.push O ∧ evC P r.c a h = .ok (.value (mkv h.next), h.push O) ∧ ∀ H, evC P r.c a H = .ok (.value (mkv H.next), H.push O))) := by
  rcases hs with ⟨hw, hs⟩ | ⟨hw, rfl, rfl⟩
  · unfold evOper at hs
    rw [hr.comp] at hs
    simp only at hs
    split at hs
    · rename_i n h2 he
      rcases kind_cases r.k with hh | hk2 | hk2 | hk2
      · rw [hh] at hk; cases hk
      · obtain ⟨v, rfl, rfl, _⟩ := pure_ok (rowKind_pure (hr.kind ▸ hk2)) he
        simp only [forceV_eq] at hs
        cases hs
        exact ⟨(AAct.put_ds _ _ _).1, .inl ⟨rfl, fun e => by rw [hk2] at e; cases e.1⟩⟩
      · obtain ⟨v, rfl, rfl⟩ := read_ok (rowKind_read (hr.kind ▸ hk2)) he
        simp only [forceV_eq] at hs
        cases hs
        exact ⟨(AAct.put_ds _ _ _).1, .inl ⟨rfl, fun e => by rw [hk2] at e; cases e.1⟩⟩
      · obtain ⟨mkv, O, e1, rfl, rfl, _, e5⟩ := alloc_ok hr.comp (hr.kind ▸ hk2) he
        simp only [forceV_eq] at hs
        cases hs
        exact ⟨(AAct.put_ds _ _ _).1, .inr ⟨hk2, hw, mkv, O, e1, rfl, e5 _, e5⟩⟩
    · cases hs
  · exact ⟨(AAct.put_ds _ _ _).1, .inl ⟨rfl, fun e => by rw [hw] at e; cases e.2⟩⟩

variable {φ0 : Phi} {rd : Bool}

/-- on to the next heavy operation -/
theorem advance (C : Canon P call ops a0 h0 aN hN W cs) {S : Nat → Prop} {φ : Phi} {s : AAct} {tm : Array Value} {ds : List Deferred} {w : World} :
    ∀ (c2 c1 : List Cel), Pre P B w0 ops a0 aN h0 hN cs φ0 rd S c1 c2 φ s tm ds w → ∃ d1 d2, HeadHeavy d2 ∧ Pre P B w0 ops a0 aN h0 hN cs φ0 rd S d1 d2 φ s tm ds w
  | [], c1, p => ⟨c1, [], fun c c3 e => (by cases e), p⟩
  | c :: c2, c1, p => by
    cases hh : c.r.k.isHeavy with
    | true => exact ⟨c1, c :: c2, fun x y e => (by cases e; exact hh), p⟩
    | false =>
      have hp := C.place c1 c c2 p.split
      obtain ⟨hds, hheap⟩ := light_heap hp.fact.row hh hp.step
      have hsplit : cs = (c1 ++ [c]) ++ c2 := by rw [p.split]; simp
      have hnS : ¬ S c.r.i := fun hS => by
        obtain ⟨x, hx, hxi⟩ := p.sub _ hS
        exact (C.uniq p.split).1 x hx hxi
      refine advance C c2 (c1 ++ [c]) ?_
      have base : ∀ (st : St P B w0 φ s (stH c2 hN) rd tm ds w) (ext : Ext φ0 h0 φ (stH c2 hN)) (prom : ∀ x ∈ c1 ++ [c], ¬ S x.r.i → x.r.k = .alloc → wantedA ops x.r.o x.a = .ok true → Prom P h0 φ (stH c2 hN) x)
          (apart : ∀ x ∈ c1, ¬ S x.r.i → x.r.k = .alloc → wantedA ops x.r.o x.a = .ok true → c.r.k = .alloc → wantedA ops c.r.o c.a = .ok true → x.h.next ≠ c.h.next),
          Pre P B w0 ops a0 aN h0 hN cs φ0 rd S (c1 ++ [c]) c2 φ s tm ds w := fun st ext prom apart =>
        ⟨hsplit, fun i hi => (let ⟨x, h1, h2⟩ := p.sub i hi; ⟨x, List.mem_append_left _ h1, h2⟩), fun x hx hxh => (by
          rcases List.mem_append.1 hx with hx | hx
          · exact p.heavies x hx hxh
          · obtain rfl := List.mem_singleton.1 hx; rw [hh] at hxh; cases hxh), p.closed, p.valS, p.valN, p.n, (by rw [p.dsE, hds]; rfl), st, p.rda, ext, prom, fun x hx y hy n1 k1 m1 n2 k2 m2 hne => (by
          rcases List.mem_append.1 hx with hx1 | hx1
          · rcases List.mem_append.1 hy with hy1 | hy1
            · exact p.apart x hx1 y hy1 n1 k1 m1 n2 k2 m2 hne
            · rw [List.mem_singleton.1 hy1] at k2 m2 ⊢
              exact apart x hx1 n1 k1 m1 k2 m2
          · rcases List.mem_append.1 hy with hy1 | hy1
            · rw [List.mem_singleton.1 hx1] at k1 m1 ⊢
              exact fun e => apart y hy1 n2 k2 m2 k1 m1 e.symm
            · exact absurd (by rw [List.mem_singleton.1 hx1, List.mem_singleton.1 hy1]) hne)⟩
      rcases hheap with ⟨e, hno⟩ | ⟨hk, hw, mkv, O, e1, e2, e3, e4⟩
      · have es : stH (c :: c2) hN = stH c2 hN := e.symm
        refine base (es ▸ p.st) (es ▸ p.ext) (fun x hx h1 h2 h3 => ?_) fun x hx n1 k1 m1 k2 m2 => absurd ⟨k2, m2⟩ hno
        rcases List.mem_append.1 hx with hx | hx
        · exact es ▸ p.prom x hx h1 h2 h3
        · obtain rfl := List.mem_singleton.1 hx
          exact absurd ⟨h2, h3⟩ hno
      · have hlow : h0.next ≤ c.h.next := p.ext.next
        have hfr : φ c.h.next = none := p.st.rel.fresh
        have X : Ext φ (stH (c :: c2) hN) φ (stH c2 hN) := by
          rw [e2]
          exact ⟨.refl _, Nat.le_succ _, fun i hi e => ⟨e, by
            have hi' : i ≠ c.h.next := Nat.ne_of_lt hi
            rw [AH.get_push, if_neg hi']; rfl⟩⟩
        refine base ⟨p.st.act, p.st.defs, ?_, p.st.glob, p.st.rd⟩ (p.ext.trans X) (fun x hx h1 h2 h3 => ?_) fun x hx n1 k1 m1 k2 m2 => (by
          obtain ⟨_, _, _, _, q3, _⟩ := p.prom x hx n1 k1 m1
          exact Nat.ne_of_lt q3)
        · rw [e2]; exact p.st.rel.promise O
        · rcases List.mem_append.1 hx with hx | hx
          · obtain ⟨mkv', O', q1, q2, q3, q4, q5, q6⟩ := p.prom x hx h1 h2 h3
            obtain ⟨_, g⟩ := X.keep _ q3 q5
            exact ⟨mkv', O', q1, q2, Nat.lt_of_lt_of_le q3 X.next, g.trans q4, q5, q6⟩
          · obtain rfl := List.mem_singleton.1 hx
            refine ⟨mkv, O, e1, hlow, ?_, ?_, hfr, e3, e4⟩
            · rw [e2]; exact Nat.lt_succ_self _
            · rw [e2, AH.get_push, if_pos rfl]

/-- what an operation that is ready reads, it reads alike -/
theorem reads_alike (C : Canon P call ops a0 h0 aN hN W cs) {S : Nat → Prop} {φ : Phi} {s : AAct} {tm : Array Value} {ds : List Deferred} {w : World} {c1 c2 : List Cel}
    (p : Pre P B w0 ops a0 aN h0 hN cs φ0 rd S c1 c2 φ s tm ds w) {e1 e2 : List Cel} {c : Cel} (e : cs = e1 ++ c :: e2) (hn : ¬ S c.r.i) (hready : ∀ j, Anc ops c.r.i j → S j) (hcl : ∀ i j, S i → Anc ops i j → S j) :
    ∀ t ∈ c.r.rd, s.val t = c.a.val t ∧ (c.r.k.isRead = true → c ∈ c1 → s.val t = (stA c2 aN).val t) := by
  intro t ht
  have hp := C.place e1 c e2 e
  have writer : ∀ x ∈ cs, x.r.o.dst = some t → hasN W t = true := fun x hx hd => C.w1 _ _ _ (C.row hx).get hd
  cases hw : hasN W t with
  | false =>
    have nw : ∀ x ∈ cs, x.r.o.dst ≠ some t := fun x hx hd => by rw [writer x hx hd] at hw; cases hw
    have h1 : s.val t = a0.val t := p.valN t fun i hi hd => by
      obtain ⟨x, hx, rfl⟩ := p.sub i hi
      have hxs : x ∈ cs := by rw [p.split]; exact List.mem_append_left _ hx
      rw [(C.row hxs).dst] at hd
      exact nw x hxs hd
    have k1 := C.skip (t := t) e1 [] (c :: e2) e fun x hx => nw x (by rw [e]; exact List.mem_append_left _ hx)
    have k2 := C.skip (t := t) c1 [] c2 p.split fun x hx => nw x (by rw [p.split]; exact List.mem_append_left _ hx)
    rw [← e, C.first.1] at k1
    rw [← p.split, C.first.1] at k2
    exact ⟨h1.trans k1, fun _ _ => h1.trans k2⟩
  | true =>
    rcases hp.fact.rd t ht hw with ⟨j, hj, hd⟩ | ⟨hnr, hnone⟩
    · have hS := hready j hj
      have h1 := p.valS t j hS hd
      obtain ⟨x, hx, hxi⟩ := C.anc hj e rfl
      have hxs : x ∈ cs := by rw [e]; exact List.mem_append_left _ hx
      have hxd : x.r.o.dst = some t := by rw [← (C.row hxs).dst, hxi]; exact hd
      obtain ⟨f1, f2, hf⟩ := List.append_of_mem hx
      have e' : cs = f1 ++ x :: (f2 ++ c :: e2) := by rw [e, hf]; simp
      have k1 := C.skip (t := t) (c :: e2) e1 [] (by rw [e]; simp) fun y hy hyd => by
        have := (C.uniq e').2 y (List.mem_append_right _ hy)
        exact this (C.dst (by rw [e]; exact List.mem_append_right _ hy) hxs hyd hxd)
      rw [List.append_nil] at k1
      refine ⟨h1.trans k1.symm, fun _ hc1 => h1.trans ?_⟩
      obtain ⟨g1, g2, hg⟩ := List.append_of_mem hc1
      have e3 : cs = g1 ++ c :: (g2 ++ c2) := by rw [p.split, hg]; simp
      have k2 := C.skip (t := t) c2 c1 [] (by rw [p.split]; simp) fun y hy hyd => by
        have hyx := C.dst (by rw [p.split]; exact List.mem_append_right _ hy) hxs hyd hxd
        obtain ⟨z, hz, hzi⟩ := C.anc hj e3 rfl
        have hy3 : y ∈ g2 ++ c2 := List.mem_append_right _ hy
        obtain ⟨q1, q2, hq⟩ := List.append_of_mem hz
        have e4 : cs = q1 ++ z :: (q2 ++ c :: (g2 ++ c2)) := by rw [e3, hq]; simp
        exact (C.uniq e4).2 y (List.mem_append_right _ (List.mem_cons_of_mem _ hy3)) (by rw [hyx, hxi, hzi])
      rw [List.append_nil] at k2
      exact k2.symm
    · have k1 := C.skip (t := t) e1 [] (c :: e2) e hnone
      rw [← e, C.first.1] at k1
      have h1 : s.val t = a0.val t := p.valN t fun i hi hd => by
        obtain ⟨x, hx, rfl⟩ := p.sub i hi
        have hxs : x ∈ cs := by rw [p.split]; exact List.mem_append_left _ hx
        have hxd : x.r.o.dst = some t := by rw [← (C.row hxs).dst]; exact hd
        have hxs2 := hxs
        rw [e] at hxs2
        rcases List.mem_append.1 hxs2 with hx1 | hx1
        · exact hnone x hx1 hxd
        · rcases List.mem_cons.1 hx1 with rfl | hx1
          · exact hn hi
          · obtain ⟨f1, f2, hf⟩ := List.append_of_mem hx1
            have e' : cs = (e1 ++ c :: f1) ++ x :: f2 := by rw [e, hf]; simp
            rcases (C.place _ _ _ e').fact.old t hxd hw c (by simp) ht with ⟨j, hj, hjd⟩ | h2 | h2
            · obtain ⟨z, hz, hzi⟩ := C.anc hj e rfl
              have hzs : z ∈ cs := by rw [e]; exact List.mem_append_left _ hz
              exact hnone z hz (by rw [← (C.row hzs).dst, hzi]; exact hjd)
            · exact (C.uniq e').1 c (by simp) h2
            · exact hn (hcl _ _ hi h2)
      exact ⟨h1.trans k1, fun hr => by rw [hnr] at hr; cases hr⟩

end Go.Dr

/-
  Regions whose order is drawn: one operation, whenever its turn comes.
-/
namespace Go.Dr
open Go.RowKit

variable {P : Program} {B : Nat} {w0 : World} {call : CallF} {ops : Array Oper} {W : Nat} {a0 aN : AAct} {h0 hN : AH} {cs : List Cel} {φ0 : Phi} {rd : Bool}
  {S : Nat → Prop} {φ : Phi} {s : AAct} {tm : Array Value} {ds : List Deferred} {w : World} {c1 c2 : List Cel}

theorem vals_update (C : Canon P call ops a0 h0 aN hN W cs) (p : Pre P B w0 ops a0 aN h0 hN cs φ0 rd S c1 c2 φ s tm ds w) {e1 e2 : List Cel} {c : Cel} (e : cs = e1 ++ c :: e2) (hn : ¬ S c.r.i) {v : AV} {da dsx : List ADef}
    (ha : stA e2 aN = (withDs c.a da).put c.r.o.dst v) {s1 : AAct} (hs : s1 = (withDs s dsx).put c.r.o.dst v) :
    (∀ t i, (S i ∨ i = c.r.i) → dstOf ops i = some t → s1.val t = aN.val t) ∧ (∀ t, (∀ i, (S i ∨ i = c.r.i) → dstOf ops i ≠ some t) → s1.val t = a0.val t) ∧ s1.n = a0.n := by
  have hcs : c ∈ cs := by rw [e]; simp
  have hrow := C.row hcs
  have hcn : c.a.n = a0.n := by
    have := (C.same e1 [] (c :: e2) e).1
    rw [← e, C.first.1] at this
    exact this.symm
  have uniq : ∀ i t, dstOf ops i = some t → c.r.o.dst = some t → i = c.r.i := by
    intro i t h1 h2
    unfold dstOf at h1
    cases ho : ops[i]? with
    | none => rw [ho] at h1; cases h1
    | some o =>
      rw [ho] at h1
      exact C.w2 _ _ _ _ _ ho hrow.get h1 h2
  have keep : ∀ t, c.r.o.dst ≠ some t → s1.val t = s.val t := fun t h => by rw [hs, (put_val _ _ _ _).2 (.inl h)]; rfl
  refine ⟨fun t i hi hd => ?_, fun t ht => ?_, by rw [hs]; exact ((withDs s dsx).put_ds _ _).2.2.trans p.n⟩
  · rcases hi with hi | rfl
    · by_cases hcd : c.r.o.dst = some t
      · rw [uniq i t hd hcd] at hi; exact absurd hi hn
      · rw [keep t hcd]; exact p.valS t i hi hd
    · rw [hrow.dst] at hd
      rw [C.left e hd, ha, hs]
      by_cases ht : t < a0.n
      · rw [(put_val _ _ _ _).1 hd (by show t < s.n; rw [p.n]; exact ht), (put_val _ _ _ _).1 hd (by show t < c.a.n; rw [hcn]; exact ht)]
      · rw [(put_val _ _ _ _).2 (.inr (by show ¬ t < s.n; rw [p.n]; exact ht)), (put_val _ _ _ _).2 (.inr (by show ¬ t < c.a.n; rw [hcn]; exact ht))]
        show s.val t = c.a.val t
        have k1 := C.skip (t := t) e1 [] (c :: e2) e fun x hx hxd => (C.uniq e).1 x hx (C.dst (by rw [e]; exact List.mem_append_left _ hx) hcs hxd hd)
        rw [← e, C.first.1] at k1
        rw [p.valN t fun i hi hid => hn (uniq i t hid hd ▸ hi)]
        exact k1
  · rw [keep t (by rw [← hrow.dst]; exact ht _ (.inr rfl))]
    exact p.valN t fun i hi => ht i (.inl hi)

theorem Anc.inS {ops : Array Oper} {S : Nat → Prop} (hcl : ∀ i o e, S i → ops[i]? = some o → e ∈ o.after.toList → bindsE e = true → S e.on) {i j : Nat} (h : Anc ops i j) : S i → S j := by
  induction h with
  | one ho he hb => exact fun hi => hcl _ _ _ hi ho he hb
  | more ho he hb _ ih => exact fun hi => ih (hcl _ _ _ hi ho he hb)

theorem exec_step (hC : CallOk P B w0 call) (hY : YieldOk P B w0 call) (C : Canon P call ops a0 h0 aN hN W cs) {b : Frame} (p : Pre P B w0 ops a0 aN h0 hN cs φ0 b.roundOf.isSome S c1 c2 φ s tm ds w)
    (hh : HeadHeavy c2) {i : Nat} {o : Oper} (ho : ops[i]? = some o) (hn : ¬ S i) (hready : ∀ e ∈ o.after.toList, bindsE e = true → S e.on) (rest : List Nat) (k : List Item) (fs : List Frame) :
    ∃ d1 d2 φ' s' tm' ds' w', Steps P (lone (mk b tm ds (.inRegion ops (i :: rest) :: k)) fs w) (lone (mk b tm' ds' (.inRegion ops rest :: k)) fs w') ∧
      Pre P B w0 ops a0 aN h0 hN cs φ0 b.roundOf.isSome (fun j => S j ∨ j = i) d1 d2 φ' s' tm' ds' w' := by
  have hi : i < ops.size := (Array.getElem?_eq_some_iff.1 ho).1
  obtain ⟨c, hc, rfl⟩ := C.cover hi
  have hrow := C.row hc
  have hgo : c.r.o = o := by have := hrow.get; rw [ho] at this; cases this; rfl
  subst hgo
  have hcl := fun i j (hi : S i) (ha : Anc ops i j) => Anc.inS p.closed ha hi
  have hanc : ∀ j, Anc ops c.r.i j → S j := by
    intro j ha
    cases ha with
    | one ho' he hb => rw [ho] at ho'; cases ho'; exact hready _ he hb
    | more ho' he hb h2 => rw [ho] at ho'; cases ho'; exact hcl _ _ (hready _ he hb) h2
  have closed' : ∀ j o e, (S j ∨ j = c.r.i) → ops[j]? = some o → e ∈ o.after.toList → bindsE e = true → (S e.on ∨ e.on = c.r.i) := by
    rintro j o e (hj | rfl) hjo he hb
    · exact .inl (p.closed _ _ _ hj hjo he hb)
    · rw [ho] at hjo; cases hjo; exact .inl (hready _ he hb)
  have guards : ∀ {a a' : AAct}, (∀ t ∈ c.r.rd, a.val t = a'.val t) → wantedA ops c.r.o a = wantedA ops c.r.o a' := fun h => wantedA_congr fun t ht => h t (by rw [hrow.rd]; exact List.mem_append_left _ ht)
  have evs : ∀ {a a' : AAct} {h : AH}, (∀ t ∈ c.r.rd, a.val t = a'.val t) → evC P c.r.c a h = evC P c.r.c a' h := fun h => evC_congr fun t ht => h t (by rw [hrow.rd]; exact List.mem_append_right _ ht)
  have hc' := hc
  rw [p.split] at hc'
  rcases List.mem_append.1 hc' with hc1 | hc2
  · -- a light operation
    obtain ⟨e1, e2, he⟩ := List.append_of_mem hc1
    have e : cs = e1 ++ c :: (e2 ++ c2) := by rw [p.split, he]; simp
    have hlight : c.r.k.isHeavy = false := by
      cases hk : c.r.k.isHeavy with
      | false => rfl
      | true => exact absurd (p.heavies c hc1 hk) hn
    have hp := C.place _ _ _ e
    have ra := reads_alike C p e hn hanc hcl
    have ra1 : ∀ t ∈ c.r.rd, s.val t = c.a.val t := fun t ht => (ra t ht).1
    have hcrd : c.a.rd = s.rd := by
      have := (C.same e1 [] _ e).2
      rw [← e, C.first.1] at this
      rw [p.st.rd, ← p.rda]; exact this.symm
    -- what is left to show, once the step is made
    have fin : ∀ v φ' tm' ds' w', stA (e2 ++ c2) aN = (withDs c.a c.a.ds).put c.r.o.dst v → Steps P (lone (mk b tm ds (.inRegion ops (c.r.i :: rest) :: k)) fs w) (lone (mk b tm' ds' (.inRegion ops rest :: k)) fs w') →
        St P B w0 φ' ((withDs s s.ds).put c.r.o.dst v) (stH c2 hN) b.roundOf.isSome tm' ds' w' → Ext φ0 h0 φ' (stH c2 hN) →
        (∀ x ∈ c1, ¬ S x.r.i → x.r.i ≠ c.r.i → x.r.k = .alloc → wantedA ops x.r.o x.a = .ok true → φ' x.h.next = none) →
        ∃ d1 d2 φ' s' tm' ds' w', Steps P (lone (mk b tm ds (.inRegion ops (c.r.i :: rest) :: k)) fs w) (lone (mk b tm' ds' (.inRegion ops rest :: k)) fs w') ∧
          Pre P B w0 ops a0 aN h0 hN cs φ0 b.roundOf.isSome (fun j => S j ∨ j = c.r.i) d1 d2 φ' s' tm' ds' w' := by
      intro v φ' tm' ds' w' hav hst st' ext' hpr
      obtain ⟨u1, u2, u3⟩ := vals_update C p e hn (dsx := s.ds) hav rfl
      refine ⟨c1, c2, φ', _, tm', ds', w', hst, ⟨p.split, ?_, fun x hx hxh => .inl (p.heavies x hx hxh), closed', u1, u2, u3, ?_, st', p.rda, ext', ?_, ?_⟩⟩
      · rintro j (hj | rfl)
        · exact p.sub j hj
        · exact ⟨c, hc1, rfl⟩
      · rw [((withDs s s.ds).put_ds _ _).1]; exact p.dsE
      · intro x hx hxn hxk hxw
        obtain ⟨mkv, O, q1, q2, q3, q4, q5, q6⟩ := p.prom x hx (fun e => hxn (.inl e)) hxk hxw
        exact ⟨mkv, O, q1, q2, q3, q4, hpr x hx (fun e => hxn (.inl e)) (fun e => hxn (.inr e)) hxk hxw, q6⟩
      · intro x hx y hy n1 k1 m1 n2 k2 m2 hne
        exact p.apart x hx y hy (fun e => n1 (.inl e)) k1 m1 (fun e => n2 (.inl e)) k2 m2 hne
    have byOper : ∀ v, stA (e2 ++ c2) aN = (withDs c.a c.a.ds).put c.r.o.dst v → evOper P call c.r.o s (stH c2 hN) = .ok ((withDs s s.ds).put c.r.o.dst v, stH c2 hN) → wantedA ops c.r.o s = .ok true →
        ∃ d1 d2 φ' s' tm' ds' w', Steps P (lone (mk b tm ds (.inRegion ops (c.r.i :: rest) :: k)) fs w) (lone (mk b tm' ds' (.inRegion ops rest :: k)) fs w') ∧
          Pre P B w0 ops a0 aN h0 hN cs φ0 b.roundOf.isSome (fun j => S j ∨ j = c.r.i) d1 d2 φ' s' tm' ds' w' := by
      intro v hav hev hw
      obtain ⟨φ1, tm1, ds1, w1, st1, s1, e1⟩ := evOper_ok hC hY hev p.st ho (wanted_ok p.st.act hw) k fs (rest := rest)
      refine fin v φ1 tm1 ds1 w1 hav st1 s1 (p.ext.trans e1) fun x hx hxn _ hxk hxw => ?_
      obtain ⟨mkv, O, q1, q2, q3, q4, q5, q6⟩ := p.prom x hx hxn hxk hxw
      exact (e1.keep _ q3 q5).1
    have byValue : ∀ v, evC P c.r.c s (stH c2 hN) = .ok (.value v, stH c2 hN) → evOper P call c.r.o s (stH c2 hN) = .ok ((withDs s s.ds).put c.r.o.dst v, stH c2 hN) := by
      intro v hv
      unfold evOper
      rw [hrow.comp]
      simp only [hv, forceV_eq]
      rfl
    rcases hp.step with ⟨hw, hst⟩ | ⟨hw, hst, _⟩
    · have hws : wantedA ops c.r.o s = .ok true := (guards ra1).trans hw
      unfold evOper at hst
      rw [hrow.comp] at hst
      simp only at hst
      split at hst
      · rename_i n h2 hev
        rcases kind_cases c.r.k with hk | hk | hk | hk
        · rw [hk] at hlight; cases hlight
        · -- pure
          obtain ⟨v, rfl, rfl, hall⟩ := pure_ok (rowKind_pure (hrow.kind ▸ hk)) hev
          simp only [forceV_eq, Except.ok.injEq, Prod.mk.injEq] at hst
          exact byOper v hst.1.symm (byValue v (by rw [evs ra1]; exact hall _)) hws
        · -- a read
          obtain ⟨v, rfl, rfl⟩ := read_ok (rowKind_read (hrow.kind ▸ hk)) hev
          simp only [forceV_eq, Except.ok.injEq, Prod.mk.injEq] at hst
          have hav : stA (e2 ++ c2) aN = (withDs c.a c.a.ds).put c.r.o.dst v := hst.1.symm
          have hrd : c.r.k.isRead = true := by rw [hk]; rfl
          have ra2 : ∀ t ∈ c.r.rd, s.val t = (stA c2 aN).val t := fun t ht => (ra t ht).2 hrd hc1
          have hreads : Reads P ops c1 (stA c2 aN) (stH c2 hN) := by
            cases c2 with
            | nil =>
              have e0 : cs = c1 := by rw [p.split, List.append_nil]
              have := C.reads
              rw [e0] at this
              exact this
            | cons x c3 => exact (C.place c1 x c3 p.split).again (hh x c3 rfl)
          have hag : AgainOk P ops c.r (stA c2 aN) (stH c2 hN) := by
            rcases hreads c hc1 hrd with h1 | ⟨x, hx, hxh, hxi⟩
            · exact h1
            · have hSx := p.heavies x hx hxh
              rcases hxi with hxi | hxi
              · rw [← hxi] at hSx; exact absurd hSx hn
              · exact absurd (hcl _ _ hSx hxi) hn
          rcases hag with h1 | ⟨v2, h3, h1, h4, h5⟩
          · rw [← guards ra2, hws] at h1; cases h1
          · rw [← evs ra2] at h4
            obtain ⟨v3, e3, rfl⟩ := read_ok (rowKind_read (hrow.kind ▸ hk)) h4
            have hval : ∀ d, c.r.o.dst = some d → v2 = aN.val d := fun d hd => by
              rw [h5 d hd]
              have := C.skip (t := d) c2 c1 [] (by rw [p.split]; simp) fun y hy hyd => by
                have hyi := C.dst (by rw [p.split]; exact List.mem_append_right _ hy) hc hyd hd
                exact (C.uniq e).2 y (List.mem_append_right _ hy) hyi
              rw [List.append_nil] at this
              exact this
            have hcn : c.a.n = a0.n := by
              have := (C.same e1 [] _ e).1
              rw [← e, C.first.1] at this
              exact this.symm
            have hput : (withDs s s.ds).put c.r.o.dst v2 = (withDs s s.ds).put c.r.o.dst v := by
              cases hd : c.r.o.dst with
              | none => rfl
              | some d =>
                by_cases hlt : d < a0.n
                · have : v2 = v := by
                    rw [hval d hd, C.left e hd, hav, (put_val _ _ _ _).1 hd (by show d < c.a.n; rw [hcn]; exact hlt)]
                  rw [this]
                · have hb : Nat.blt d (withDs s s.ds).n = false := by
                    cases hb : Nat.blt d (withDs s s.ds).n with
                    | false => rfl
                    | true =>
                      have hb2 : d < (withDs s s.ds).n := Nat.blt_eq ▸ hb
                      have hb3 : (withDs s s.ds).n = a0.n := p.n
                      rw [hb3] at hb2; exact absurd hb2 hlt
                  simp only [AAct.put, hb, cond_false]
            have hev2 := byValue v2 h4
            rw [hput] at hev2
            exact byOper v hav hev2 hws
        · -- a new block
          obtain ⟨mkv, O, q1, q2, q3, q4, q5, q6, q7⟩ := p.prom c hc1 hn hk hw
          have hev0 := q6
          rw [hev] at hev0
          simp only [Except.ok.injEq, Prod.mk.injEq] at hev0
          obtain ⟨rfl, rfl⟩ := hev0
          simp only [forceV_eq, Except.ok.injEq, Prod.mk.injEq] at hst
          have hevs : evC P c.r.c s (stH c2 hN) = .ok (.value (mkv (stH c2 hN).next), (stH c2 hN).push O) := by rw [evs ra1]; exact q7 _
          obtain ⟨mkv2, O2, r1, r2, r3, r4, r5⟩ := alloc_ok hrow.comp (hrow.kind ▸ hk) hevs
          have hO : O2 = O := by
            have h1 : ((stH c2 hN).push O).get (stH c2 hN).next = some O := by rw [AH.get_push, if_pos rfl]
            rw [r3, AH.get_push, if_pos rfl] at h1
            cases h1; rfl
          subst hO
          have hF := r4 _ _ p.st.glob p.st.act
          obtain ⟨v', w1, φ1, hrun, hcon, R1, X1⟩ := evC_sound (ds := ds) hrow.comp hevs p.st.glob p.st.act p.st.rel
          obtain ⟨pl, hc3, R3⟩ := rename q1 hF p.st.rel R1 X1 hcon q5 q3 q4
          have hnd : b.roundOf = none ∨ ∀ cc, c.r.o.op ≠ .defer cc := .inr fun cc ecc => by
            obtain ⟨d, ed⟩ := comp_defer ecc hrow.comp hevs
            cases ed
          have hle := Phi.le_set pl q5
          refine fin (mkv c.h.next) (φ.set c.h.next pl) (putT tm c.r.o.dst v') ds w1 hst.1.symm (.one (go_value ho (wanted_ok p.st.act hws) hnd hrun)) (p.st.put hle hc3 R3 _) ?_ ?_
          · refine ⟨p.ext.le.trans hle, p.ext.next, fun j hj hjn => ?_⟩
            obtain ⟨k1, k2⟩ := p.ext.keep j hj hjn
            exact ⟨by rw [Phi.set_other _ _ (by omega)]; exact k1, k2⟩
          · intro x hx hxn hxi hxk hxw
            obtain ⟨_, _, _, _, _, _, x5, _⟩ := p.prom x hx hxn hxk hxw
            rw [Phi.set_other _ _ (p.apart x hx c hc1 hxn hxk hxw hn hk hw hxi)]
            exact x5
      · cases hst
    · have hws : wantedA ops c.r.o s = .ok false := (guards ra1).trans hw
      refine fin aundef φ (putT tm c.r.o.dst undef) ds w hst (.one (go_unwanted ho (wanted_ok p.st.act hws))) (p.st.put (.refl _) undef_con p.st.rel _) p.ext fun x hx hxn _ hxk hxw => ?_
      obtain ⟨_, _, _, _, _, _, x5, _⟩ := p.prom x hx hxn hxk hxw
      exact x5
  · -- the next heavy one
    cases c2 with
    | nil => cases hc2
    | cons x c3 =>
      have hxh := hh x c3 rfl
      have hcx : c = x := by
        rcases List.mem_cons.1 hc2 with h1 | h1
        · exact h1
        · obtain ⟨f1, f2, hf⟩ := List.append_of_mem h1
          have e : cs = (c1 ++ x :: f1) ++ c :: f2 := by rw [p.split, hf]; simp
          have hS := hanc _ ((C.place _ _ _ e).fact.hv x (by simp) hxh)
          obtain ⟨y, hy, hyi⟩ := p.sub _ hS
          exact absurd hyi ((C.uniq p.split).1 y hy)
      subst hcx
      have e := p.split
      have hp := C.place _ _ _ e
      have ra1 : ∀ t ∈ c.r.rd, s.val t = c.a.val t := fun t ht => (reads_alike C p e hn hanc hcl t ht).1
      have hcrd : c.a.rd = s.rd := by
        have := (C.same c1 [] _ e).2
        rw [← e, C.first.1] at this
        rw [p.st.rd, ← p.rda]; exact this.symm
      have fin : ∀ v da φ' tm' ds' w', stA c3 aN = (withDs c.a da).put c.r.o.dst v → Steps P (lone (mk b tm ds (.inRegion ops (c.r.i :: rest) :: k)) fs w) (lone (mk b tm' ds' (.inRegion ops rest :: k)) fs w') →
          St P B w0 φ' ((withDs s da).put c.r.o.dst v) (stH c3 hN) b.roundOf.isSome tm' ds' w' → Ext φ c.h φ' (stH c3 hN) →
          ∃ d1 d2 φ' s' tm' ds' w', Steps P (lone (mk b tm ds (.inRegion ops (c.r.i :: rest) :: k)) fs w) (lone (mk b tm' ds' (.inRegion ops rest :: k)) fs w') ∧
            Pre P B w0 ops a0 aN h0 hN cs φ0 b.roundOf.isSome (fun j => S j ∨ j = c.r.i) d1 d2 φ' s' tm' ds' w' := by
        intro v da φ' tm' ds' w' hav hst st' ext'
        obtain ⟨u1, u2, u3⟩ := vals_update C p e hn (dsx := da) hav rfl
        have only : ∀ x ∈ c1 ++ [c], ¬ (S x.r.i ∨ x.r.i = c.r.i) → x ∈ c1 ∧ ¬ S x.r.i := by
          intro x hx hxn
          rcases List.mem_append.1 hx with h1 | h1
          · exact ⟨h1, fun e => hxn (.inl e)⟩
          · rw [List.mem_singleton.1 h1] at hxn
            exact absurd (.inr rfl) hxn
        refine ⟨c1 ++ [c], c3, φ', _, tm', ds', w', hst, ⟨by rw [e]; simp, ?_, ?_, closed', u1, u2, u3, ?_, st', p.rda, p.ext.trans ext', ?_, ?_⟩⟩
        · rintro j (hj | rfl)
          · obtain ⟨y, h1, h2⟩ := p.sub j hj
            exact ⟨y, List.mem_append_left _ h1, h2⟩
          · exact ⟨c, by simp, rfl⟩
        · intro y hy hyh
          rcases List.mem_append.1 hy with h1 | h1
          · exact .inl (p.heavies y h1 hyh)
          · rw [List.mem_singleton.1 h1]; exact .inr rfl
        · rw [((withDs s da).put_ds _ _).1, hav, ((withDs c.a da).put_ds _ _).1]; rfl
        · intro y hy hyn hyk hyw
          obtain ⟨h1, h2⟩ := only y hy hyn
          obtain ⟨mkv, O, q1, q2, q3, q4, q5, q6⟩ := p.prom y h1 h2 hyk hyw
          obtain ⟨k1, k2⟩ := ext'.keep _ q3 q5
          exact ⟨mkv, O, q1, q2, Nat.lt_of_lt_of_le q3 ext'.next, k2.trans q4, k1, q6⟩
        · intro y hy z hz n1 k1 m1 n2 k2 m2 hne
          obtain ⟨y1, y2⟩ := only y hy n1
          obtain ⟨z1, z2⟩ := only z hz n2
          exact p.apart y y1 z z1 y2 k1 m1 z2 k2 m2 hne
      rcases hp.step with ⟨hw, hst⟩ | ⟨hw, hst, hhe⟩
      · have hws : wantedA ops c.r.o s = .ok true := (guards ra1).trans hw
        obtain ⟨v, da, hav, hev⟩ := evOper_congr hrow.comp (evs fun t ht => (ra1 t ht).symm) p.dsE.symm hcrd hst
        obtain ⟨φ1, tm1, ds1, w1, st1, s1, x1⟩ := evOper_ok hC hY hev p.st ho (wanted_ok p.st.act hws) k fs (rest := rest)
        exact fin v da φ1 tm1 ds1 w1 hav st1 s1 x1
      · have hws : wantedA ops c.r.o s = .ok false := (guards ra1).trans hw
        have hsd : s.ds = c.a.ds := p.dsE
        refine fin aundef c.a.ds φ (putT tm c.r.o.dst undef) ds w hst (.one (go_unwanted ho (wanted_ok p.st.act hws))) ?_ (by rw [hhe]; exact .refl _ _)
        rw [hhe, ← hsd]
        exact p.st.put (.refl _) undef_con p.st.rel _

end Go.Dr

/-
  Regions whose order is drawn: whole.
-/
namespace Go.Dr
open Go.RowKit

variable {P : Program} {B : Nat} {w0 : World} {call : CallF} {ops : Array Oper} {W : Nat} {a0 aN : AAct} {h0 hN : AH} {cs : List Cel} {φ0 : Phi}

theorem binds_eq (e : Edge) : Region.binds .any e = bindsE e := by
  unfold Region.binds bindsE
  cases e.ground <;> rfl

theorem first_not (S : Nat → Prop) : ∀ l : List Cel, (∀ c ∈ l, S c.r.i) ∨ ∃ e1 c e2, l = e1 ++ c :: e2 ∧ (∀ x ∈ e1, S x.r.i) ∧ ¬ S c.r.i
  | [] => .inl fun c hc => (by cases hc)
  | c :: l => by
    by_cases h : S c.r.i
    · rcases first_not S l with h1 | ⟨e1, c', e2, h1, h2, h3⟩
      · exact .inl fun x hx => by
          rcases List.mem_cons.1 hx with rfl | hx
          · exact h
          · exact h1 x hx
      · refine .inr ⟨c :: e1, c', e2, by rw [h1]; rfl, fun x hx => ?_, h3⟩
        rcases List.mem_cons.1 hx with rfl | hx
        · exact h
        · exact h2 x hx
    · exact .inr ⟨[], c, l, rfl, fun x hx => (by cases hx), h⟩

theorem finish_ok (C : Canon P call ops a0 h0 aN hN W cs) {S : Nat → Prop} {φ : Phi} {s : AAct} {rd : Bool} {tm : Array Value} {ds : List Deferred} {w : World} {c1 c2 : List Cel}
    (p : Pre P B w0 ops a0 aN h0 hN cs φ0 rd S c1 c2 φ s tm ds w) (hall : ∀ c ∈ cs, S c.r.i) : St P B w0 φ aN hN rd tm ds w ∧ Ext φ0 h0 φ hN := by
  have hnil : c2 = [] := by
    cases c2 with
    | nil => rfl
    | cons x c3 =>
      obtain ⟨y, hy, hyi⟩ := p.sub _ (hall x (by rw [p.split]; simp))
      exact absurd hyi ((C.uniq p.split).1 y hy)
  subst hnil
  have e0 : cs = c1 := by rw [p.split, List.append_nil]
  have hn : aN.n = a0.n ∧ aN.rd = a0.rd := by
    have := C.same c1 [] [] (by rw [← p.split]; rfl)
    rw [← p.split, C.first.1] at this
    exact ⟨this.1.symm, this.2.symm⟩
  refine ⟨⟨⟨?_, fun t => ?_⟩, ?_, p.st.rel, p.st.glob, ?_⟩, p.ext⟩
  · rw [p.st.act.size, p.n, hn.1]
  · have hv : s.val t = aN.val t := by
      by_cases h : ∃ i, S i ∧ dstOf ops i = some t
      · obtain ⟨i, h1, h2⟩ := h
        exact p.valS t i h1 h2
      · rw [p.valN t fun i hi hd => h ⟨i, hi, hd⟩]
        have := C.skip (t := t) c1 [] [] (by rw [← p.split]; rfl) fun x hx hd => by
          have hxs : x ∈ cs := by rw [e0]; exact hx
          exact h ⟨x.r.i, hall x hxs, by rw [(C.row hxs).dst]; exact hd⟩
        rw [← p.split, C.first.1] at this
        exact this
    rw [← hv]; exact p.st.act.val t
  · have hd : s.ds = aN.ds := p.dsE
    rw [← hd]; exact p.st.defs
  · rw [hn.2]; exact p.rda

theorem start_ok (C : Canon P call ops a0 h0 aN hN W cs) {rd : Bool} {tm : Array Value} {ds : List Deferred} {w : World} (st : St P B w0 φ0 a0 h0 rd tm ds w) {S : Nat → Prop} (hS : ∀ i, ¬ S i) :
    Pre P B w0 ops a0 aN h0 hN cs φ0 rd S [] cs φ0 a0 tm ds w :=
  ⟨rfl, fun i hi => absurd hi (hS i), fun c hc => (by cases hc), fun i o e hi => absurd hi (hS i), fun t i hi => absurd hi (hS i), fun t _ => rfl, rfl, by rw [C.first.1], by rw [C.first.2]; exact st, st.rd, by rw [C.first.2]; exact .refl _ _,
    fun c hc => (by cases hc), fun c hc => (by cases hc)⟩

theorem count_set {listed : Array Bool} {i : Nat} (hi : i < listed.size) (hl : listed.getD i false = false) : ∀ {l : List Cel}, (∃ c ∈ l, c.r.i = i) →
    (l.countP fun c => !(listed.setIfInBounds i true).getD c.r.i false) < l.countP fun c => !listed.getD c.r.i false := by
  have hmono : ∀ l : List Cel, (l.countP fun c => !(listed.setIfInBounds i true).getD c.r.i false) ≤ l.countP fun c => !listed.getD c.r.i false := fun l => by
    refine List.countP_mono_left fun c _ h => ?_
    simp only [Bool.not_eq_true', Array.getD_eq_getD_getElem?] at h ⊢
    by_cases hc : c.r.i = i
    · rw [hc, Array.getElem?_setIfInBounds_self_of_lt hi] at h; cases h
    · rw [Array.getElem?_setIfInBounds_ne (fun e => hc e.symm)] at h; exact h
  rintro l ⟨c, hc, hci⟩
  obtain ⟨e1, e2, rfl⟩ := List.append_of_mem hc
  rw [List.countP_append, List.countP_append, List.countP_cons, List.countP_cons]
  have h1 := hmono e1
  have h2 := hmono e2
  have h3 : (!(listed.setIfInBounds i true).getD c.r.i false) = false := by
    rw [Array.getD_eq_getD_getElem?, hci, Array.getElem?_setIfInBounds_self_of_lt hi]; rfl
  have h4 : (!listed.getD c.r.i false) = true := by rw [hci, hl]; rfl
  rw [h3, h4]
  simp only [Bool.false_eq_true, if_false, if_true]
  omega

/-- a region whose order is drawn, in whatever order -/
theorem draw_ok (hC : CallOk P B w0 call) (hY : YieldOk P B w0 call) : DrawOk P B w0 call := by
  intro ops a0 h0 aN hN he φ0 b tm ds w st t k fs
  obtain ⟨W, cs, C⟩ := canon_of he
  have key : ∀ (fuel t : Nat) (listed : Array Bool) (c1 c2 : List Cel) (φ : Phi) (s : AAct) (tm : Array Value) (ds : List Deferred) (w : World), listed.size = ops.size →
      (cs.countP fun c => !listed.getD c.r.i false) ≤ fuel →
      Pre P B w0 ops a0 aN h0 hN cs φ0 b.roundOf.isSome (fun j => listed.getD j false = true) c1 c2 φ s tm ds w →
      ∃ φ' tm' ds' w', Steps P (lone (mk b tm ds (.inRegion ops (Region.linearise.go .any ops fuel t listed []) :: k)) fs w) (lone (mk b tm' ds' k) fs w') ∧
        St P B w0 φ' aN hN b.roundOf.isSome tm' ds' w' ∧ Ext φ0 h0 φ' hN := by
    intro fuel
    induction fuel with
    | zero =>
      intro t listed c1 c2 φ s tm ds w hsz hcount p
      have hall : ∀ c ∈ cs, listed.getD c.r.i false = true := by
        have : cs.countP (fun c => !listed.getD c.r.i false) = 0 := Nat.le_zero.1 hcount
        intro c hc
        have := List.countP_eq_zero.1 this c hc
        simpa using this
      obtain ⟨f1, f2⟩ := finish_ok C p hall
      exact ⟨φ, tm, ds, w, .one go_regionEnd, f1, f2⟩
    | succ fuel ih =>
      intro t listed c1 c2 φ s tm ds w hsz hcount p
      simp only [Region.linearise.go]
      change ∃ φ' tm' ds' w', Steps P (lone (mk b tm ds (.inRegion ops (match (Region.ready .any ops listed)[t % (Region.ready .any ops listed).length]? with
        | some i => Region.linearise.go .any ops fuel (t / (Region.ready .any ops listed).length) (listed.setIfInBounds i true) [i]
        | none => [].reverse) :: k)) fs w) (lone (mk b tm' ds' k) fs w') ∧ _
      cases hi : (Region.ready .any ops listed)[t % (Region.ready .any ops listed).length]? with
      | none =>
        have hnil : Region.ready .any ops listed = [] := by
          cases hr : Region.ready .any ops listed with
          | nil => rfl
          | cons x xs =>
            rw [hr] at hi
            have hlt : t % (x :: xs).length < (x :: xs).length := Nat.mod_lt _ (by simp)
            simp at hi
            simp at hlt
            omega
        have hall : ∀ c ∈ cs, listed.getD c.r.i false = true := by
          rcases first_not (fun j => listed.getD j false = true) cs with h1 | ⟨e1, c, e2, h1, h2, h3⟩
          · exact h1
          · exfalso
            have hp := C.place _ _ _ h1
            have hrow := hp.fact.row
            have hlt : c.r.i < ops.size := (Array.getElem?_eq_some_iff.1 hrow.get).1
            have : c.r.i ∈ Region.ready .any ops listed := by
              unfold Region.ready
              rw [List.mem_filter]
              refine ⟨List.mem_range.2 hlt, ?_⟩
              rw [hrow.get]
              simp only [Option.map_some, Option.getD_some, Bool.and_eq_true]
              constructor
              · simp only [Array.getD_eq_getD_getElem?] at h3 ⊢
                rw [Array.getElem?_eq_getElem (by rw [hsz]; exact hlt)] at h3 ⊢
                simpa using h3
              · rw [Array.all_eq_true']
                intro e he
                rw [binds_eq]
                cases hb : bindsE e with
                | false => rfl
                | true =>
                  obtain ⟨x, hx, hxi⟩ := hp.lin e (Array.mem_toList_iff.2 he) hb
                  have := h2 x hx
                  rw [hxi] at this
                  rw [this]; rfl
            rw [hnil] at this
            cases this
        obtain ⟨f1, f2⟩ := finish_ok C p hall
        exact ⟨φ, tm, ds, w, .one go_regionEnd, f1, f2⟩
      | some i =>
        simp only []
        rw [linearise_go_acc, List.reverse_singleton, List.singleton_append]
        have hmem := List.mem_of_getElem? hi
        unfold Region.ready at hmem
        rw [List.mem_filter, List.mem_range] at hmem
        obtain ⟨hlt, hmem⟩ := hmem
        obtain ⟨o, ho⟩ : ∃ o, ops[i]? = some o := ⟨_, Array.getElem?_eq_getElem hlt⟩
        rw [ho] at hmem
        simp only [Option.map_some, Option.getD_some, Bool.and_eq_true] at hmem
        obtain ⟨hm1, hm2⟩ := hmem
        have hli : listed.getD i false = false := by
          simp only [Array.getD_eq_getD_getElem?] at hm1 ⊢
          rw [Array.getElem?_eq_getElem (by rw [hsz]; exact hlt)] at hm1 ⊢
          simpa using hm1
        obtain ⟨d1, d2, hd, p2⟩ := advance C c2 c1 p
        obtain ⟨g1, g2, φ', s', tm', ds', w', hst, p3⟩ := exec_step hC hY C p2 hd ho (by rw [hli]; simp) (fun e he hb => by
          rw [Array.all_eq_true'] at hm2
          have := hm2 e (Array.mem_toList_iff.1 he)
          rw [binds_eq, hb] at this
          simpa using this) (Region.linearise.go .any ops fuel (t / (Region.ready .any ops listed).length) (listed.setIfInBounds i true) []) k fs
        have hS : (fun j => listed.getD j false = true ∨ j = i) = (fun j => (listed.setIfInBounds i true).getD j false = true) := by
          funext j
          apply propext
          simp only [Array.getD_eq_getD_getElem?]
          by_cases hj : j = i
          · subst hj
            rw [Array.getElem?_setIfInBounds_self_of_lt (by rw [hsz]; exact hlt)]
            simp
          · rw [Array.getElem?_setIfInBounds_ne (fun e => hj e.symm)]
            simp [hj]
        rw [hS] at p3
        have hcov := C.cover hlt
        have hdec := count_set (by rw [hsz]; exact hlt) hli hcov
        obtain ⟨φ2, tm2, ds2, w2, st2, f1, f2⟩ := ih _ _ _ _ _ _ _ _ _ (by rw [Array.size_setIfInBounds]; exact hsz) (by omega) p3
        exact ⟨φ2, tm2, ds2, w2, hst.trans st2, f1, f2⟩
  have hlen : (cs.countP fun c => !(Array.replicate ops.size false).getD c.r.i false) ≤ ops.size := by
    refine Nat.le_trans List.countP_le_length ?_
    have := C.all.length_eq
    rw [List.length_map, List.length_range] at this
    omega
  exact key ops.size t (Array.replicate ops.size false) [] cs φ0 a0 tm ds w (by simp) hlen (start_ok C st fun i h => by
    rw [Array.getD_eq_getD_getElem?, Array.getElem?_replicate] at h
    split at h <;> cases h)

/-- **every abstract call is the machine's** -/
theorem run_ok {S : FuncId → Option (List AV → AH → R (AV × AH))} {lf : Nat} (hM : P.follows .mixedOrders = true) (hN : ∀ (f : Nat) fn, P.funcs[f]? = some fn → fn.body.isSome = true → fn.name ≠ "runtime.NumGoroutine")
    (hS : SumOk P B w0 S) (n : Nat) : CallOk P B w0 (evCall P S lf n) ∧ YieldOk P B w0 (evCall P S lf n) ∧ DefOk P B w0 (noSum S (evCall P S lf n)) :=
  evCall_ok hM hN hS (fun _ hC hY => draw_ok hC hY) n

/-- the machine's call, told by the abstract one -/
theorem calls_of_ev {S : FuncId → Option (List AV → AH → R (AV × AH))} {lf n : Nat} (hM : P.follows .mixedOrders = true) (hN : ∀ (f : Nat) fn, P.funcs[f]? = some fn → fn.body.isSome = true → fn.name ≠ "runtime.NumGoroutine")
    (hS : SumOk P B w0 S) {f : FuncId} {args : List AV} {h h' : AH} {v : AV} (he : evCall P S lf n (.fn f) args h = .ok (v, h')) {φ : Phi} {w : World} {args' : List Value} (ha : ConL φ args args') (hG : GlobRel P φ) (hR : Rel B w0 φ h w) :
    Calls P f ⟨args'⟩ w fun | .returned v', w' => ∃ φ', Con φ' v v' ∧ Rel B w0 φ' h' w' ∧ Ext φ h φ' h' | _, _ => False := by
  obtain ⟨_, hK⟩ := (run_ok hM hN hS n).1 _ _ _ _ _ he φ w args' ha hG hR
  intro cs
  obtain ⟨v', w', fr, fn, hR', hst, e1, e2, e3, e4, e5, e6⟩ := hK cs
  exact ⟨.returned v', w', fr, hR', hst, e1, e2, e3, e4, fn, e5, e6⟩

end Go.Dr

/-
  From an abstract run to a law's statement: arguments that are not read.
-/
namespace Go.Dr
open Go.RowKit

variable {P : Program}

/-- where the package-level variables lie -/
def phi0 (n : Nat) (ρ : Nat → Value := fun _ => .pointer none) : Phi := ⟨fun g => if g < n then some ⟨g, 0, 0⟩ else none, ρ⟩

theorem rel0 (W : World) (n : Nat) {ρ : Nat → Value} : Rel W.heap.size W (phi0 n ρ) ⟨n, .leaf⟩ W := by
  refine ⟨fun i p e => ?_, fun i p o _ e => (by cases e), fun i p o _ e => (by cases e), fun i j p q oi oj _ _ _ e => (by cases e), .refl _ _, Nat.le_refl _⟩
  simp only [phi0] at e
  split at e
  · assumption
  · cases e

theorem glob0 (P : Program) {ρ : Nat → Value} : GlobRel P (phi0 P.globals.size ρ) := fun g hg => ⟨0, by simp only [phi0]; rw [if_pos hg]⟩

def okTrue : R (AV × AH) → Bool
  | .ok (.bool b, _) => b
  | _ => false

theorem okTrue_ok {r : R (AV × AH)} (h : okTrue r = true) : ∃ h', r = .ok (.bool true, h') := by
  unfold okTrue at h
  split at h
  · cases h; exact ⟨_, rfl⟩
  · cases h

theorem noNum {P : Program} (h : P.funcs.all (fun f => f.name != "runtime.NumGoroutine") = true) : ∀ (f : Nat) fn, P.funcs[f]? = some fn → fn.body.isSome = true → fn.name ≠ "runtime.NumGoroutine" := by
  intro f fn hf _
  rw [Array.all_eq_true'] at h
  have := h fn (Array.mem_of_getElem? hf)
  simpa using this

theorem okWide_scalar {w : World} {r : Reach} {base : Nat} {t : TypeId} {v : Value} (h : Cell.okWide P w r base t v) : scalarV v = true := by
  cases v <;> first | rfl | (unfold Cell.okWide Cell.ok at h; split at h <;> first | contradiction | (split at h <;> first | contradiction | cases h))

end Go.Dr

/-
  More fuel changes no answer.
-/
namespace Go.Dr


variable {P : Program} {c c' : CallF}

def CallLe (c c' : CallF) : Prop := ∀ t args h r, c t args h = .ok r → c' t args h = .ok r

theorem CallLe.refl (c : CallF) : CallLe c c := fun _ _ _ _ e => e

theorem evOper_mono (hc : CallLe c c') {o : Oper} {a : AAct} {h : AH} {r : AAct × AH} (he : evOper P c o a h = .ok r) : evOper P c' o a h = .ok r := by
  unfold evOper at he ⊢
  split at he
  · split at he
    · split at he
      · exact he
      · exact he
      · exact he
      · split at he
        · rename_i hcall; simp only [hc _ _ _ _ hcall]; exact he
        · cases he
      · split at he
        · rename_i hcall; simp only [hc _ _ _ _ hcall]; exact he
        · cases he
    · cases he
  · cases he

theorem evOps_mono (hc : CallLe c c') {ops : Array Oper} : ∀ (l : List Oper) {a : AAct} {h : AH} {r : AAct × AH}, evOps P c ops l a h = .ok r → evOps P c' ops l a h = .ok r
  | [], _, _, _, he => he
  | o :: l, a, h, r, he => by
    simp only [evOps] at he ⊢
    split at he
    · split at he
      · rename_i hop; simp only [evOper_mono hc hop]; exact evOps_mono hc l he
      · cases he
    · exact evOps_mono hc l he
    · cases he

theorem evEnts_mono (hc : CallLe c c') {ops : Array Oper} : ∀ (l : List DEnt) {a : AAct} {h : AH} {r : AAct × AH}, evEnts P c ops l a h = .ok r → evEnts P c' ops l a h = .ok r
  | [], _, _, _, he => he
  | .op o :: l, a, h, r, he => by
    simp only [evEnts] at he ⊢
    split at he
    · split at he
      · rename_i hop; simp only [evOper_mono hc hop]; exact evEnts_mono hc l he
      · cases he
    · exact evEnts_mono hc l he
    · cases he
  | .stage re :: l, a, h, r, he => by
    simp only [evEnts] at he ⊢
    cases hb : again P ops re a h with
    | true => rw [hb] at he; exact evEnts_mono hc l he
    | false => rw [hb] at he; cases he

theorem evDraw_mono (hc : CallLe c c') {ops : Array Oper} {a : AAct} {h : AH} {r : AAct × AH} (he : evDraw P c ops a h = .ok r) : evDraw P c' ops a h = .ok r := by
  unfold evDraw at he ⊢
  split at he
  · exact evEnts_mono hc _ he
  · cases he

theorem evLoop_mono {b b' : AAct → AH → R (AX × AAct × AH)} (hb : ∀ a h r, b a h = .ok r → b' a h = .ok r) : ∀ {n n' : Nat} {a : AAct} {h : AH} {r : AX × AAct × AH}, n ≤ n' → evLoop b n a h = .ok r → evLoop b' n' a h = .ok r
  | 0, _, _, _, _, _, he => by cases he
  | n + 1, 0, _, _, _, hn, _ => absurd hn (by omega)
  | n + 1, n' + 1, a, h, r, hn, he => by
    simp only [evLoop] at he ⊢
    split at he
    · rename_i hbody; simp only [hb _ _ _ hbody]; exact evLoop_mono hb (by omega) he
    · rename_i hnot
      have := hb _ _ _ he
      rw [this]
      split
      · rename_i e; cases e; exact absurd he (hnot _ _)
      · rfl

theorem opGo_mono (hc : CallLe c c') {f : AV} {params : Array Tmp} {assign body : Code} {a : AAct} {h : AH} {r : AX × AAct × AH} (he : opGo c f params assign body a h = .ok r) : opGo c' f params assign body a h = .ok r := by
  unfold opGo at he ⊢
  split at he
  · cases hb : a.rd with
    | true => rw [hb] at he; cases he
    | false =>
      rw [hb] at he
      simp only [cond_false, forceN_eq] at he ⊢
      split at he
      · rename_i hcall; simp only [hc _ _ _ _ hcall]; exact he
      · cases he
  · cases he

theorem evCode_mono (hc : CallLe c c') {lf lf' : Nat} (hl : lf ≤ lf') : ∀ (k : Code) {a : AAct} {h : AH} {r : AX × AAct × AH}, evCode P c lf k a h = .ok r → evCode P c' lf' k a h = .ok r
  | .skip, _, _, _, he => he
  | .label _, _, _, _, he => he
  | .exit _, _, _, _, he => he
  | .ret, _, _, _, he => he
  | .goto _, _, _, _, he => he
  | .refuse _, _, _, _, he => he
  | .region _ ops draw, a, h, r, he => by
    simp only [evCode] at he ⊢
    cases draw with
    | true =>
      simp only [cond_true] at he ⊢
      split at he
      · rename_i hop; simp only [evDraw_mono hc hop]; exact he
      · cases he
    | false =>
      simp only [cond_false] at he ⊢
      split at he
      · rename_i hop; simp only [evOps_mono hc _ hop]; exact he
      · cases he
  | .seq x y, a, h, r, he => by
    simp only [evCode] at he ⊢
    split at he
    · rename_i hx; simp only [evCode_mono hc hl x hx]; exact evCode_mono hc hl y he
    · rename_i hnot
      have := evCode_mono hc hl x he
      rw [this]
      split
      · rename_i e; cases e; exact absurd he (hnot _ _)
      · rfl
  | .cond o x y, a, h, r, he => by
    simp only [evCode] at he ⊢
    split at he
    · unfold evCond at he ⊢
      split at he
      · exact evCode_mono hc hl x he
      · exact evCode_mono hc hl y he
      · cases he
    · cases he
  | .block id k, a, h, r, he => by
    simp only [evCode] at he ⊢
    split at he
    · rename_i hx; simp only [evCode_mono hc hl k hx]; exact he
    · rename_i hnot
      have := evCode_mono hc hl k he
      rw [this]
      split
      · rename_i e; cases e; exact absurd he (hnot _ _ _)
      · rfl
  | .loop k, a, h, r, he => by
    simp only [evCode] at he ⊢
    exact evLoop_mono (fun a h r => evCode_mono hc hl k) hl he
  | .scope k, a, h, r, he => by
    simp only [evCode] at he ⊢
    split at he
    · cases he
    · rename_i hnot
      have := evCode_mono hc hl k he
      rw [this]
      split
      · rename_i e; cases e; exact absurd he (hnot _ _ _)
      · rfl
  | .rangeFunc f ps x y, a, h, r, he => by
    simp only [evCode] at he ⊢
    split at he
    · exact opGo_mono hc he
    · cases he

theorem runDefers_mono (hc : CallLe c c') : ∀ (l : List ADef) {h h' : AH}, runDefers c l h = .ok h' → runDefers c' l h = .ok h'
  | [], _, _, he => he
  | d :: l, h, h', he => by
    unfold runDefers at he ⊢
    split at he
    · split at he
      · exact runDefers_mono hc l he
      · cases he
    · split at he
      · split at he
        · rename_i hcall; simp only [hc _ _ _ _ hcall]; exact runDefers_mono hc l he
        · cases he
      · cases he
      · cases he

theorem finishCall_mono (hc : CallLe c c') {fn : Func} {x y : R (AX × AAct × AH)} (hx : ∀ r, x = .ok r → y = .ok r) {r : AV × AH} (he : finishCall P c fn x = .ok r) : finishCall P c' fn y = .ok r := by
  unfold finishCall at he
  split at he
  · rename_i x a h
    rw [hx _ rfl]
    simp only [finishCall]
    split at he
    · split at he
      · rename_i hd; simp only [runDefers_mono hc _ hd]; exact he
      · cases he
    · split at he
      · rename_i hd; simp only [runDefers_mono hc _ hd]; exact he
      · cases he
    · cases he
  · cases he

theorem aRound_mono (hc : CallLe c c') {lf lf' : Nat} (hl : lf ≤ lf') {l : Nat} {q : ALoop} {args : List AV} {h : AH} {r : AV × AH} (he : aRound P c lf l q args h = .ok r) : aRound P c' lf' l q args h = .ok r := by
  unfold aRound at he ⊢
  cases hb : Nat.beq args.length q.params.size with
  | false => rw [hb] at he; cases he
  | true =>
    rw [hb] at he
    simp only [cond_true] at he ⊢
    split at he
    · rename_i hx
      simp only [evCode_mono hc hl _ hx]
      split at he
      · split at he
        · generalize hres : evCode P c lf q.body _ _ = res at he
          unfold endRound at he
          split at he
          · rw [evCode_mono hc hl _ hres]; exact he
          · cases he
        · cases he
      · cases he
    · cases he
    · cases he

theorem noSum_mono {S : FuncId → Option (List AV → AH → R (AV × AH))} (hc : CallLe c c') : CallLe (noSum S c) (noSum S c') := by
  intro t args h r he
  unfold noSum at he ⊢
  split at he
  · split at he
    · cases he
    · exact hc _ _ _ _ he
  · exact hc _ _ _ _ he

theorem evCall_mono {S : FuncId → Option (List AV → AH → R (AV × AH))} {lf lf' : Nat} (hl : lf ≤ lf') : ∀ {n n' : Nat}, n ≤ n' → CallLe (evCall P S lf n) (evCall P S lf' n')
  | 0, _, _ => fun t args h r he => by cases t <;> cases he
  | n + 1, 0, hn => absurd hn (by omega)
  | n + 1, n' + 1, hn => fun t args h r he => by
    have ih := evCall_mono (S := S) hl (n := n) (n' := n') (by omega)
    cases t with
    | fn f =>
      unfold evCall at he ⊢
      split at he
      · exact he
      · split at he
        · split at he
          · rename_i fn _ _ k _
            cases hb : Nat.ble args.length fn.ntmps with
            | false => rw [hb] at he; cases he
            | true =>
              rw [hb] at he
              simp only [cond_true] at he ⊢
              exact finishCall_mono (noSum_mono ih) (fun r hr => evCode_mono ih hl _ hr) he
          · cases he
        · cases he
    | yield l =>
      unfold evCall at he ⊢
      split at he
      · exact aRound_mono ih hl he
      · cases he

end Go.Dr
