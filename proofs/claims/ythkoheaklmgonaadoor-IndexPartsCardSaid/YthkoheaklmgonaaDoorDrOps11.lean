/-
  One operation of the abstract run is the model's: entries, ranges, interfaces.
-/
import Derived.Test.YthkoheaklmgonaaDoorDrOps10
namespace Go.Dr
open Go.RowKit

variable {P : Program} {B : Nat} {w0 w : World} {φ : Phi} {h h' : AH}

theorem findBorn_ok {b : Int} : ∀ {l : List AEntry} {es : List MapEntry} {i k : Nat}, ConE φ l es → findBorn b l k = some i → es.findIdx? (fun e => (e.born : Int) == b) = some (i - k) ∧ k ≤ i
  | _, _, i, k, .nil, h => by cases h
  | e :: l, e' :: es, i, k, .cons _ _ hb t, h => by
    unfold findBorn at h
    rw [List.findIdx?_cons, hb]
    cases hc : ((e.born : Int) == b) with
    | true => rw [hc] at h; cases h; simp
    | false =>
      rw [hc] at h
      obtain ⟨h1, h2⟩ := findBorn_ok t h
      simp only [Bool.false_eq_true, if_false, h1, Option.map_some]
      exact ⟨by congr 1; omega, by omega⟩

theorem opEntryStore_ok {t : TypeId} {m s v : AV} {m' s' v' : Value} (hR : Rel B w0 φ h w) (hm : Con φ m m') (hs : Con φ s s') (hv : Con φ v v') (hr : opEntryStore h m s v = .ok h') :
    ∃ w', (Instr.entryStore t m' s' v').run P w = .ok () w' ∧ Rel B w0 φ h' w' ∧ Ext φ h φ h' := by
  unfold opEntryStore at hr
  split at hr
  · rename_i id _ b
    split at hr
    · rename_i l clock hg
      split at hr
      · rename_i i hi
        cases hr
        cases hs
        cases hm with
        | map hp =>
          obtain ⟨es, g1, g2⟩ := hR.obj _ _ _ hp hg
          obtain ⟨h1, h2⟩ := findBorn_ok g2 hi
          have h1' : (⟨es⟩ : Array MapEntry).findIdx? (fun e => (e.born : Int) == b) = some i := by
            rw [← List.findIdx?_toArray] at h1; simpa using h1
          refine ⟨_, ?_, setMap_ok hR hp hg g1 (g2.setVal hv), .write hp _⟩
          have ha : ∀ k, (asInt (.int k b)).run P w = .ok b w := fun _ => rfl
          simp only [Instr.entryStore, Sem.run_bind, run_getMap g1, Result.andThen_ok, ha, h1', modify_eq]
          exact run_setMap _ g1
      · cases hr
    · cases hr
  · cases hr

theorem opClear_ok {t e ty : TypeId} {es : Nat} {z x : AV} {x' : Value} {r : AN} (ht : und P t = .ok (.slice e)) (hz : zeroAV P e = .ok z) (hzl : z.cells.length = es) (hes : es ≠ 0) (hR : Rel B w0 φ h w) (hx : Con φ x x')
    (hr : opClear es z.cells x h = .ok (r, h')) : ∃ v, r = .value v ∧ ValOf P B w0 φ h (Builtin.clear_ #[t] ty #[x']) w v h' := by
  unfold opClear at hr
  split at hr
  · cases hr; cases hx
    refine ⟨_, rfl, .pure hR (v' := .tuple #[]) ?_ (.tuple .nil)⟩
    unfold Builtin.clear_
    simp only [List.getElem?_toArray, List.getElem?_cons_zero, Sem.run_bind, run_und ht, Result.andThen_ok, Sem.run_pure]
  · rename_i id off len cap xx es'
    split at hr
    · rename_i he
      subst he
      cases hx with
      | @slice _ _ _ _ c _ _ p ad hp hxx hc hlc hrm =>
        split at hr
        · rename_i h0
          subst h0
          cases hr
          refine ⟨_, rfl, .pure hR (v' := .tuple #[]) ?_ (.tuple .nil)⟩
          unfold Builtin.clear_
          simp only [List.getElem?_toArray, List.getElem?_cons_zero, Sem.run_bind, run_und ht, Result.andThen_ok, Sem.run_pure]
        · rename_i h0
          split at hr
          · rename_i h1 hst
            cases hr
            rcases hrm with hz0 | ⟨_, rfl⟩
            · omega
            obtain ⟨i, z', hi, hiz, hzc⟩ := zero_info hz
            have hcz := repl_con (φ := φ) (hzc φ).cells hzl (by omega) len
            have hzsz : z'.cells.size = es' := by have := (hzc φ).cells.length; simp at this; omega
            rw [← hzsz] at hcz
            obtain ⟨w', g1, g2, g3⟩ := storeN_ok (P := P) hst hR hp hcz
            refine ⟨_, rfl, .tuple #[], w', φ, ?_, .tuple .nil, g2, g3⟩
            unfold Builtin.clear_
            obtain ⟨n, rfl⟩ : ∃ n, len = n + 1 := ⟨len - 1, by omega⟩
            simp only [List.getElem?_toArray, List.getElem?_cons_zero, Sem.run_bind, run_und ht, Result.andThen_ok, zeroValue, run_info hi, hiz, Sem.run_pure, Builtin.zeroCells]
            rw [hzsz] at g1 ⊢
            rw [g1]
            rfl
          · cases hr
    · cases hr
  · cases hr

theorem opDelete_ok {t kt et xt ty : TypeId} {m k : AV} {m' k' : Value} {r : AN} (ht : und P t = .ok (.map kt et)) (hR : Rel B w0 φ h w) (hm : Con φ m m') (hk : Con φ k k') (hr : opDelete P kt m k h = .ok (r, h')) :
    ∃ v, r = .value v ∧ ValOf P B w0 φ h (Builtin.delete_ #[t, xt] ty #[m', k']) w v h' := by
  unfold opDelete at hr
  split at hr
  · split at hr
    · rename_i hko
      cases hr; cases hm
      have hck := keyOk_ok (P := P) (w := w) (empty := true) (show 10 ≤ 10000 from by decide) hko hk
      refine ⟨_, rfl, .pure hR (v' := .tuple #[]) ?_ (.tuple .nil)⟩
      unfold Builtin.delete_
      simp only [List.getElem?_toArray, List.getElem?_cons_zero, List.getElem?_cons_succ, Sem.run_bind, run_und ht, Result.andThen_ok, hck, Sem.run_pure]
    · cases hr
  · split at hr
    · rename_i l clock hg
      split at hr
      · rename_i hko
        obtain ⟨kind, hkind⟩ := keyOk_und hko
        cases hm with
        | @map _ p hp =>
          obtain ⟨es, g1, g2⟩ := hR.obj _ _ _ hp hg
          have hck := keyOk_ok (P := P) (w := w) (empty := (⟨es⟩ : Array MapEntry).isEmpty) (show 10 ≤ 10000 from by decide) hko hk
          split at hr
          · rename_i i v0 hf
            obtain ⟨r', h1, h2⟩ := findKey_ok (w := w) hkind hk hf g2
            cases h2 with
            | some h2 =>
              cases hr
              refine ⟨_, rfl, .tuple #[], _, φ, ?_, .tuple .nil, setMap_ok hR hp hg g1 g2.erase, .write hp _⟩
              have he : (⟨es⟩ : Array MapEntry).eraseIdxIfInBounds i = ⟨es.eraseIdx i⟩ := by apply Array.ext'; simp
              unfold Builtin.delete_
              simp only [List.getElem?_toArray, List.getElem?_cons_zero, List.getElem?_cons_succ, Sem.run_bind, run_und ht, Result.andThen_ok, run_getMap g1, hck, h1, he]
              rw [run_setMap _ g1]
              simp
          · rename_i hf
            obtain ⟨r', h1, h2⟩ := findKey_ok (w := w) hkind hk hf g2
            cases h2
            cases hr
            have hsame : Rel B w0 φ h (w.putObj p.blk (.map ⟨es⟩ clock)) := hR.world (World.putObj_below (hR.own _ _ _ hp hg rfl) _) fun j q oj e1 e2 => by
              by_cases hq : q.blk = p.blk
              · rw [hq, World.putObj_heap_same (Array.getElem?_eq_some_iff.1 g1).1, g1]
              · exact World.putObj_heap_other hq
            refine ⟨_, rfl, .tuple #[], _, φ, ?_, .tuple .nil, hsame, .refl _ _⟩
            unfold Builtin.delete_
            simp only [List.getElem?_toArray, List.getElem?_cons_zero, List.getElem?_cons_succ, Sem.run_bind, run_und ht, Result.andThen_ok, run_getMap g1, hck, h1]
            rw [run_setMap _ g1]
            simp
          · cases hr
      · cases hr
    · cases hr
  · cases hr

theorem opLenM_ok {t kt et ty : TypeId} {x v : AV} {x' : Value} (ht : und P t = .ok (.map kt et)) (hR : Rel B w0 φ h w) (hx : Con φ x x') (hr : opLenM h x = .ok v) : ∃ v', (Builtin.len_ #[t] ty #[x']).run P w = .ok v' w ∧ Con φ v v' := by
  unfold opLenM at hr
  split at hr
  · cases hr; cases hx
    exact ⟨.int .i64 0, by simp only [Builtin.len_, List.getElem?_toArray, List.getElem?_cons_zero, Sem.run_bind, run_und ht, Result.andThen_ok]; rfl, .int _ _⟩
  · split at hr
    · rename_i l clock hg; cases hr
      cases hx with
      | map hp =>
        obtain ⟨es, g1, g2⟩ := hR.obj _ _ _ hp hg
        have hlen : es.length = l.length := by
          clear hg g1
          induction g2 with
          | nil => rfl
          | cons _ _ _ _ ih => simp [ih]
        refine ⟨.int .i64 l.length, ?_, .int _ _⟩
        simp only [Builtin.len_, List.getElem?_toArray, List.getElem?_cons_zero, Sem.run_bind, run_und ht, Result.andThen_ok, run_getMap g1]
        simp [goInt, hlen]
    · cases hr
  · cases hr

theorem opLenS_ok {t ty : TypeId} {x v : AV} {x' : Value} (ht : und P t = .ok .string) (hx : Con φ x x') (hr : opLenS x = .ok v) : ∃ v', (Builtin.len_ #[t] ty #[x']).run P w = .ok v' w ∧ Con φ v v' := by
  unfold opLenS at hr
  split at hr
  · cases hr; cases hx
    exact ⟨_, by simp only [Builtin.len_, List.getElem?_toArray, List.getElem?_cons_zero, Sem.run_bind, run_und ht, Result.andThen_ok]; rfl, .int _ _⟩
  · cases hr

theorem opLenV_ok {t e ty : TypeId} {x v : AV} {x' : Value} (ht : und P t = .ok (.slice e)) (hx : Con φ x x') (hr : opLenV x = .ok v) : ∃ v', (Builtin.len_ #[t] ty #[x']).run P w = .ok v' w ∧ Con φ v v' := by
  unfold opLenV at hr
  split at hr
  · cases hr; cases hx
    exact ⟨_, by simp only [Builtin.len_, List.getElem?_toArray, List.getElem?_cons_zero, Sem.run_bind, run_und ht, Result.andThen_ok]; rfl, .int _ _⟩
  · cases hr; cases hx
    exact ⟨_, by simp only [Builtin.len_, List.getElem?_toArray, List.getElem?_cons_zero, Sem.run_bind, run_und ht, Result.andThen_ok]; rfl, .int _ _⟩
  · cases hr

theorem opCapV_ok {t e ty : TypeId} {x v : AV} {x' : Value} (ht : und P t = .ok (.slice e)) (hx : Con φ x x') (hr : opCapV x = .ok v) : ∃ v', (Builtin.cap_ #[t] ty #[x']).run P w = .ok v' w ∧ Con φ v v' := by
  unfold opCapV at hr
  split at hr
  · cases hr; cases hx
    exact ⟨_, by simp only [Builtin.cap_, List.getElem?_toArray, List.getElem?_cons_zero, Sem.run_bind, run_und ht, Result.andThen_ok]; rfl, .int _ _⟩
  · cases hr
    cases hx with
    | slice hp hxx hc hl hr =>
      have := hxx rfl
      subst this
      exact ⟨_, by simp only [Builtin.cap_, List.getElem?_toArray, List.getElem?_cons_zero, Sem.run_bind, run_und ht, Result.andThen_ok]; rfl, .int _ _⟩
  · cases hr

/-! #### ranges -/

theorem push_obj {o : AObj} {O : Obj} (hR : Rel B w0 φ h w) (ho : ObjRel (φ.set h.next ⟨w.heap.size, 0, 0⟩) (w.alloc O) ⟨w.heap.size, 0, 0⟩ o) {s : Sem Value} (hs : s.run P w = .ok (.pointer (some ⟨w.heap.size, 0, none⟩)) (w.alloc O)) :
    ValOf P B w0 φ h s w (.ptr h.next 0) (h.push o) :=
  ⟨_, _, _, hs, Con.ptr (off := 0) (Phi.set_same _ _ _), hR.push ho, Ext.push hR _ _⟩

theorem alloc_new (w : World) (O : Obj) : (w.alloc O).heap[w.heap.size]? = some O := by show (w.heap.push _)[_]? = _; simp

theorem opRangeS_ok {t : TypeId} {x : AV} {x' : Value} {r : AN} (ht : und P t = .ok .string) (hR : Rel B w0 φ h w) (hx : Con φ x x') (hr : opRangeS h x = .ok (r, h')) : ∃ v, r = .value v ∧ ValOf P B w0 φ h (Instr.range t x') w v h' := by
  unfold opRangeS at hr
  split at hr
  · rename_i s; cases hr; cases hx
    refine ⟨_, rfl, push_obj (o := .siter s 0) (O := .stringIter ⟨⟨s⟩⟩ 0) hR ⟨rfl, alloc_new _ _⟩ ?_⟩
    simp only [Instr.range, Sem.run_bind, run_und ht, Result.andThen_ok, Sem.run_pure, run_newObj]
    rfl
  · cases hr

theorem opRangeM_ok {t kt et : TypeId} {x : AV} {x' : Value} {r : AN} (ht : und P t = .ok (.map kt et)) (hR : Rel B w0 φ h w) (hx : Con φ x x') (hr : opRangeM h x = .ok (r, h')) : ∃ v, r = .value v ∧ ValOf P B w0 φ h (Instr.range t x') w v h' := by
  unfold opRangeM at hr
  split at hr
  · cases hr; cases hx
    refine ⟨_, rfl, push_obj (o := .miter none 0 [] 0) (O := .mapIter none 0 #[] 0) hR ⟨rfl, none, alloc_new _ _, rfl⟩ ?_⟩
    simp only [Instr.range, Sem.run_bind, run_und ht, Result.andThen_ok, Sem.run_pure, run_newObj]
    rfl
  · rename_i m
    split at hr
    · rename_i l clock hg
      cases hr
      cases hx with
      | @map _ p hp =>
        obtain ⟨es, g1, g2⟩ := hR.obj _ _ _ hp hg
        refine ⟨_, rfl, push_obj (o := .miter (some m) clock [] clock) (O := .mapIter (some p.blk) clock #[] clock) hR ⟨rfl, some p.blk, alloc_new _ _, p, Phi.le_set _ hR.fresh _ _ hp, rfl⟩ ?_⟩
        simp only [Instr.range, Sem.run_bind, run_und ht, Result.andThen_ok, Sem.run_pure, run_newObj, run_getMap g1]
        rfl
    · cases hr
  · cases hr

theorem opNextS_ok {ty : TypeId} {id : Nat} {p : Pl} {r : AN} (hR : Rel B w0 φ h w) (hp : φ id = some p) (hr : nextS h id = .ok (r, h')) :
    ∃ v, r = .value v ∧ ValOf P B w0 φ h (Instr.next (.pointer (some ⟨p.blk, 0, none⟩)) true ty) w v h' := by
  unfold nextS at hr
  split at hr
  · rename_i s pos hg
    obtain ⟨g0, g1⟩ := hR.obj _ _ _ hp hg
    have hget : (getObj p.blk).run P w = .ok (.stringIter ⟨⟨s⟩⟩ pos) w := by simp [getObj, Sem.run, g1]
    have hsz : (⟨⟨s⟩⟩ : ByteArray).size = s.length := rfl
    cases hb : Nat.blt pos s.length with
    | true =>
      have hlt : pos < s.length := by simpa [Nat.blt_eq] using hb
      rw [hb] at hr
      simp only [cond_true] at hr
      rw [forceN_eq] at hr
      cases hr
      have hset : ∀ o, (setObj p.blk o).run P w = .ok () (w.putObj p.blk o) := fun o => by simp [setObj, Sem.run, g1, World.putObj]
      refine ⟨_, rfl, .tuple #[.bool true, goInt pos, .int .i32 (Utf8.decode ⟨⟨s⟩⟩ pos).1], w.putObj p.blk (.stringIter ⟨⟨s⟩⟩ (pos + (Utf8.decode ⟨⟨s⟩⟩ pos).2)), φ, ?_, .tuple (.cons (.bool _) (.cons (.int _ _) (.cons (.int _ _) .nil))), ?_, .write hp _⟩
      · simp only [Instr.next, Sem.run_bind, hget, Result.andThen_ok]
        rw [hsz, if_pos hlt]
        simp only [Sem.run_bind, hset, Result.andThen_ok, Sem.run_pure]
      · exact hR.write hp hg rfl rfl (World.putObj_below (hR.own _ _ _ hp hg rfl) _) (fun k hk => World.putObj_heap_other hk) ⟨g0, World.putObj_heap_same (Array.getElem?_eq_some_iff.1 g1).1⟩
    | false =>
      have hlt : ¬ pos < s.length := by
        intro h; rw [show Nat.blt pos s.length = true from by simpa [Nat.blt_eq] using h] at hb; cases hb
      rw [hb] at hr
      cases hr
      refine ⟨_, rfl, .pure hR (v' := .tuple #[.bool false]) ?_ (.tuple (.cons (.bool _) .nil))⟩
      simp only [Instr.next, Sem.run_bind, hget, Result.andThen_ok]
      rw [hsz, if_neg hlt]
      rfl
  · cases hr

theorem ConE.filter {f : Nat → Bool} : ∀ {l : List AEntry} {es : List MapEntry}, ConE φ l es → ConE φ (l.filter fun e => f e.born) (es.filter fun e => f e.born)
  | _, _, .nil => .nil
  | e :: l, e' :: es, .cons h1 h2 h3 t => by
    rw [List.filter_cons, List.filter_cons, h3]
    split
    · exact .cons h1 h2 h3 t.filter
    · exact t.filter

theorem ConE.all {f : Nat → Bool} : ∀ {l : List AEntry} {es : List MapEntry}, ConE φ l es → (es.all fun e => f e.born) = l.all fun e => f e.born
  | _, _, .nil => rfl
  | _ :: _, _ :: _, .cons h1 h2 h3 t => by simp [h3, t.all]

theorem ConE.isEmpty : ∀ {l : List AEntry} {es : List MapEntry}, ConE φ l es → es.isEmpty = l.isEmpty
  | _, _, .nil => rfl
  | _ :: _, _ :: _, .cons .. => rfl

theorem opNextM_ok {ty : TypeId} {id : Nat} {p : Pl} {r : AN} (hR : Rel B w0 φ h w) (hp : φ id = some p) (hr : nextM h id = .ok (r, h')) :
    ∃ v, r = .value v ∧ ValOf P B w0 φ h (Instr.next (.pointer (some ⟨p.blk, 0, none⟩)) false ty) w v h' := by
  unfold nextM at hr
  split at hr
  · rename_i m since seen last hg
    obtain ⟨g0, m', g1, g2⟩ := hR.obj _ _ _ hp hg
    have hget : (getObj p.blk).run P w = .ok (.mapIter m' since ⟨seen⟩ last) w := by simp [getObj, Sem.run, g1]
    split at hr
    · cases hr
      have : m' = none := g2
      subst this
      refine ⟨_, rfl, .pure hR (v' := .tuple #[.bool false]) ?_ (.tuple (.cons (.bool _) .nil))⟩
      simp only [Instr.next, Sem.run_bind, hget, Result.andThen_ok]
      rfl
    · rename_i m
      obtain ⟨q, hq, rfl⟩ := g2
      split at hr
      · rename_i l clock hgm
        obtain ⟨es, k1, k2⟩ := hR.obj _ _ _ hq hgm
        split at hr
        · cases hr
        · rename_i hall
          have hall' : ¬ ((!(⟨seen⟩ : Array Nat).isEmpty && !(⟨es⟩ : Array MapEntry).isEmpty && (⟨es⟩ : Array MapEntry).all (fun e => decide (e.born ≥ last))) = true) := by
            intro hh
            apply hall
            rw [← hh]
            have e1 : (⟨seen⟩ : Array Nat).isEmpty = seen.isEmpty := by cases seen <;> rfl
            have e2 : (⟨es⟩ : Array MapEntry).isEmpty = l.isEmpty := by rw [← k2.isEmpty]; cases es <;> rfl
            have e3 : ((⟨es⟩ : Array MapEntry).all fun e => decide (e.born ≥ last)) = l.all fun e => Nat.ble last e.born := by
              rw [← k2.all (f := fun b => Nat.ble last b)]
              simp only [List.all_toArray]
              congr 1; funext e
              rw [Bool.eq_iff_iff]; simp
            rw [e1, e2, e3]
          have hfil := k2.filter (f := fun b => !seen.contains b)
          have hleft : (⟨es⟩ : Array MapEntry).filter (fun e => !(⟨seen⟩ : Array Nat).contains e.born) = ⟨es.filter fun e => !seen.contains e.born⟩ := by
            apply Array.ext'; simp
          generalize hL : es.filter (fun e => !seen.contains e.born) = L at hleft hfil
          split at hr
          · rename_i hl
            rw [hl] at hfil
            cases hfil
            cases hr
            refine ⟨_, rfl, .pure hR (v' := .tuple #[.bool false]) ?_ (.tuple (.cons (.bool _) .nil))⟩
            simp only [Instr.next, Sem.run_bind, hget, Result.andThen_ok, run_getMap k1]
            rw [if_neg hall']
            simp only [hleft]
            simp [Question.forced]
          · rename_i e hl
            rw [hl] at hfil
            cases hfil with
            | @cons _ e' _ _ c1 c2 c3 t =>
              cases t
              split at hr
              · rename_i hsince
                cases hr
                have hset : ∀ o, (setObj p.blk o).run P w = .ok () (w.putObj p.blk o) := fun o => by simp [setObj, Sem.run, g1, World.putObj]
                have hso : e'.born < since := by rw [c3]; exact hsince
                refine ⟨_, rfl, .tuple #[.bool true, e'.key, e'.val], w.putObj p.blk (.mapIter (some q.blk) since ((⟨seen⟩ : Array Nat).push e'.born) clock), φ, ?_, .tuple (.cons (.bool _) (.cons c1 (.cons c2 .nil))), ?_, .write hp _⟩
                rotate_left
                · refine hR.write (w' := w.putObj p.blk (.mapIter (some q.blk) since ((⟨seen⟩ : Array Nat).push e'.born) clock)) hp hg rfl rfl (World.putObj_below (hR.own _ _ _ hp hg rfl) _) (fun k hk => World.putObj_heap_other hk) ?_
                  refine ⟨g0, some q.blk, ?_, q, hq, rfl⟩
                  rw [World.putObj_heap_same (Array.getElem?_eq_some_iff.1 g1).1, c3]
                  simp
                · simp only [Instr.next, Sem.run_bind, hget, Result.andThen_ok, run_getMap k1]
                  rw [if_neg hall']
                  simp only [hleft]
                  simp [Question.forced, hso, hset]
              · cases hr
          · cases hr
      · cases hr
  · cases hr

theorem opNext_ok {ty : TypeId} {it : AV} {it' : Value} {s : Bool} {r : AN} (hR : Rel B w0 φ h w) (hi : Con φ it it') (hr : opNext h it s = .ok (r, h')) : ∃ v, r = .value v ∧ ValOf P B w0 φ h (Instr.next it' s ty) w v h' := by
  unfold opNext at hr
  split at hr
  · rename_i id
    cases hi with
    | @ptr _ _ p hp =>
      have hoff : p.off = 0 := by
        split at hr
        · unfold nextS at hr; split at hr
          · rename_i hg; exact (hR.obj _ _ _ hp hg).1
          · cases hr
        · unfold nextM at hr; split at hr
          · rename_i hg; exact (hR.obj _ _ _ hp hg).1
          · cases hr
      rw [hoff]
      split at hr
      · exact opNextS_ok hR hp hr
      · exact opNextM_ok hR hp hr
  · cases hr

end Go.Dr
