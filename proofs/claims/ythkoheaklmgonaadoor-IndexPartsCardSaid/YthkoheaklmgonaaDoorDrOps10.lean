/-
  One operation of the abstract run is the model's: maps.
-/
import Derived.Test.YthkoheaklmgonaaDoorDrOps9
import Derived.RangeFuncRecord
namespace Go.Dr
open Go.RowKit

variable {P : Program} {B : Nat} {w0 w : World} {φ : Phi} {h h' : AH}

/-! #### keys -/

def keyBody (_P : Program) (empty : Bool) (n : Nat) (cs : Array Value) (f : Field) (_ : Unit) : Sem (ForInStep Unit) :=
  if f.name ≠ "_" then do
    Instr.checkKey empty n f.type (← Go.part f.type cs f.offset)
    pure (ForInStep.yield ())
  else pure (ForInStep.yield ())

theorem keyFields_ok {d n : Nat} {empty : Bool} {cs : List AV} {cs' : List Value} (ih : ∀ {t : TypeId} {v : AV} {v' : Value}, keyOk P d t v = true → Con φ v v' → (Instr.checkKey empty n t v').run P w = .ok () w)
    (hc : ConL φ cs cs') : ∀ {l : List Field}, keyFields P (keyOk P d) cs l = true → (forIn l () (keyBody P empty n ⟨cs'⟩)).run P w = .ok () w
  | [], _ => by simp
  | f :: l, h => by
    unfold keyFields at h
    split at h
    · rename_i v hv
      rw [Bool.and_eq_true] at h
      obtain ⟨v', hrun, hcv⟩ := part_ok (w := w) hv hc
      rw [List.forIn_cons]
      by_cases hn : f.name ≠ "_"
      · simp only [keyBody, if_pos hn, Sem.run_bind, hrun, Result.andThen_ok, ih h.1 hcv, Sem.run_pure]
        exact keyFields_ok ih hc h.2
      · simp only [keyBody, if_neg hn, Sem.run_bind, Sem.run_pure, Result.andThen_ok]
        exact keyFields_ok ih hc h.2
    · cases h

theorem keyOk_ok {empty : Bool} : ∀ {d n : Nat}, d ≤ n → ∀ {t : TypeId} {v : AV} {v' : Value}, keyOk P d t v = true → Con φ v v' → (Instr.checkKey empty n t v').run P w = .ok () w
  | 0, _, _, _, _, _, h, _ => by cases h
  | d + 1, 0, hd, _, _, _, _, _ => by omega
  | d + 1, n + 1, hd, t, v, v', h, hc => by
    have ih := fun {t : TypeId} {v : AV} {v' : Value} => @keyOk_ok empty d n (by omega) t v v'
    unfold keyOk at h
    split at h
    · rename_i k ht
      have hu : (underlying t).run P w = .ok (.int k) w := by simp [underlying, ht]
      split at h
      · cases hc; simp only [Instr.checkKey, Sem.run_bind, hu, Result.andThen_ok]; rfl
      · cases h
    · rename_i ht
      have hu : (underlying t).run P w = .ok .string w := by simp [underlying, ht]
      split at h
      · cases hc; simp only [Instr.checkKey, Sem.run_bind, hu, Result.andThen_ok]; rfl
      · cases h
    · rename_i ht
      have hu : (underlying t).run P w = .ok .bool w := by simp [underlying, ht]
      split at h
      · cases hc; simp only [Instr.checkKey, Sem.run_bind, hu, Result.andThen_ok]; rfl
      · cases h
    · rename_i fields ht
      have hu : (underlying t).run P w = .ok (.struct fields) w := by simp [underlying, ht]
      split at h
      · cases hc with
        | agg hc =>
          have := keyFields_ok (empty := empty) (n := n) ih hc h
          simp only [Instr.checkKey, Sem.run_bind, hu, Result.andThen_ok]
          rw [← Array.forIn_toList]
          erw [this]
          rfl
      · cases h
    · cases h

inductive ConF (φ : Phi) : Option (Nat × AV) → Option (Nat × Value) → Prop
  | none : ConF φ none none
  | some {i : Nat} {v : AV} {v' : Value} (h : Con φ v v') : ConF φ (some (i, v)) (some (i, v'))

theorem findAsking_ok {kt : TypeId} {k : AV} {k' : Value} (hk : Con φ k k') : ∀ {l : List AEntry} {es : List MapEntry} {i : Nat} {r : Option (Nat × AV)}, findE P kt k l i = .ok r → ConE φ l es →
    ∃ r', (Instr.findAsking kt k' es i).run P w = .ok r' w ∧ ConF φ r r'
  | _, _, i, r, h, .nil => by cases h; exact ⟨none, rfl, .none⟩
  | e :: l, e' :: es, i, r, h, .cons hke hv hb t => by
    unfold findE at h
    split at h
    · rename_i he; cases h
      have := eqAt_ok (P := P) (w := w) (show 20 ≤ Op.maxDepth from by decide) he hk hke
      exact ⟨_, by simp only [Instr.findAsking, Op.equal, Sem.run_bind, this, Result.andThen_ok, if_true, Sem.run_pure], .some hv⟩
    · rename_i he
      have := eqAt_ok (P := P) (w := w) (show 20 ≤ Op.maxDepth from by decide) he hk hke
      obtain ⟨r', h1, h2⟩ := findAsking_ok hk h t
      refine ⟨r', ?_, h2⟩
      simp only [Instr.findAsking, Op.equal, Sem.run_bind, this, Result.andThen_ok, Bool.false_eq_true, if_false]
      exact h1
    · cases h

theorem sameNow_eq {D : Nat} {kt : TypeId} {kind : TypeDesc} {x y : Value} {b b0 : Bool} (ht : und P kt = .ok kind) (hs : Instr.sameNow kind x y = some b) (he : (Op.equalIn (D + 1) kt x y).run P w = .ok b0 w) : b0 = b := by
  unfold Instr.sameNow at hs
  split at hs
  · split at hs
    · rename_i hk; cases hs; subst hk
      simp only [Op.equalIn, Sem.run_bind, run_und ht, Result.andThen_ok, if_true, Sem.run_pure] at he
      cases he; rfl
    · cases hs
  · cases hs
    simp only [Op.equalIn, Sem.run_bind, run_und ht, Result.andThen_ok, Sem.run_pure] at he
    cases he; rfl
  · cases hs
    simp only [Op.equalIn, Sem.run_bind, run_und ht, Result.andThen_ok, Sem.run_pure] at he
    cases he; rfl
  · cases hs

theorem findNow_ok {kt : TypeId} {kind : TypeDesc} {k : AV} {k' : Value} (ht : und P kt = .ok kind) (hk : Con φ k k') : ∀ {l : List AEntry} {es : List MapEntry} {i : Nat} {r : Option (Nat × AV)} {r' : Option (Nat × Value)},
    findE P kt k l i = .ok r → ConE φ l es → Instr.findNow kind k' es i = some r' → ConF φ r r'
  | _, _, i, r, r', h, .nil, hn => by cases h; cases hn; exact .none
  | e :: l, e' :: es, i, r, r', h, .cons hke hv hb t, hn => by
    unfold findE at h
    unfold Instr.findNow at hn
    split at h
    · rename_i he; cases h
      have hq := eqAt_ok (P := P) (w := default) (show 20 ≤ 19 + 1 from by decide) he hk hke
      split at hn
      · cases hn; exact .some hv
      · rename_i hs; have := sameNow_eq ht hs hq; cases this
      · cases hn
    · rename_i he
      have hq := eqAt_ok (P := P) (w := default) (show 20 ≤ 19 + 1 from by decide) he hk hke
      split at hn
      · rename_i hs; have := sameNow_eq ht hs hq; cases this
      · exact findNow_ok ht hk h t hn
      · cases hn
    · cases h

theorem findKey_ok {kt : TypeId} {kind : TypeDesc} {k : AV} {k' : Value} {l : List AEntry} {es : List MapEntry} {r : Option (Nat × AV)} (ht : und P kt = .ok kind) (hk : Con φ k k') (h : findE P kt k l 0 = .ok r) (hc : ConE φ l es) :
    ∃ r', (Instr.findKey kt k' es).run P w = .ok r' w ∧ ConF φ r r' := by
  unfold Instr.findKey
  simp only [Sem.run_bind, run_und ht, Result.andThen_ok]
  cases hn : Instr.findNow kind k' es 0 with
  | some r' => exact ⟨r', rfl, findNow_ok ht hk h hc hn⟩
  | none => exact findAsking_ok hk h hc

theorem keyOk_und {d : Nat} {t : TypeId} {v : AV} (h : keyOk P d t v = true) : ∃ kind, und P t = .ok kind := by
  cases d with
  | zero => cases h
  | succ d =>
    unfold keyOk at h
    split at h
    all_goals first
      | (rename_i ht; exact ⟨_, by unfold und ofO; rw [ht]⟩)
      | cases h

theorem run_getMap {b clock : Nat} {es : Array MapEntry} (hb : w.heap[b]? = some (.map es clock)) : (getObj b).run P w = .ok (.map es clock) w := by simp [getObj, Sem.run, hb]

theorem opLookup_ok {t kt et : TypeId} {z : AV} {ok : Bool} {x k v : AV} {x' k' : Value} (ht : und P t = .ok (.map kt et)) (hz : zeroAV P et = .ok z) (hR : Rel B w0 φ h w) (hx : Con φ x x') (hk : Con φ k k') (hr : opLookup P kt z ok h x k = .ok v) :
    ∃ v', (Instr.lookup t x' k' ok).run P w = .ok v' w ∧ Con φ v v' := by
  unfold opLookup at hr
  split at hr
  · rename_i es he
    split at hr
    · rename_i hko
      obtain ⟨kind, hkind⟩ := keyOk_und hko
      obtain ⟨z', hz1, hz2⟩ := run_zero (P := P) (w := w) hz
      have hfin : ∀ r, findE P kt k es 0 = .ok r → ∀ v, v = (match r with | some (_, v) => withOk ok v true | none => withOk ok z false) → ∃ v', (Instr.lookup t x' k' ok).run P w = .ok v' w ∧ Con φ v v' := by
        intro r hf v hv
        have key : ∀ es' : List MapEntry, ConE φ es es' → ((Instr.checkKey (⟨es'⟩ : Array MapEntry).isEmpty 10000 kt k').run P w = .ok () w) ∧ ∃ r', (Instr.findKey kt k' es').run P w = .ok r' w ∧ ConF φ r r' :=
          fun es' hce => ⟨keyOk_ok (show 10 ≤ 10000 from by decide) hko hk, findKey_ok hkind hk hf hce⟩
        have hend : ∀ r', ConF φ r r' → ∃ v', ((match r' with | some (_, v) => (pure (v, true) : Sem (Value × Bool)) | none => (do pure (← zeroValue et, false))) >>= fun q => (pure (if ok = true then Value.tuple #[q.1, .bool q.2] else q.1) : Sem Value)).run P w = .ok v' w ∧ Con φ v v' := by
          intro r' hr'
          subst hv
          cases hr' with
          | none => cases ok
                    · exact ⟨z', by simp [hz1], hz2 φ⟩
                    · exact ⟨_, by simp [hz1], .tuple (.cons (hz2 φ) (.cons (.bool _) .nil))⟩
          | some hc => cases ok
                       · exact ⟨_, by simp, hc⟩
                       · exact ⟨_, by simp, .tuple (.cons hc (.cons (.bool _) .nil))⟩
        unfold entriesOf at he
        split at he
        · cases he; cases hx
          obtain ⟨h1, r', h2, h3⟩ := key [] .nil
          obtain ⟨v', h4, h5⟩ := hend r' h3
          refine ⟨v', ?_, h5⟩
          rw [← h4]
          unfold Instr.lookup
          simp only [Sem.run_bind, run_und ht, Result.andThen_ok, Sem.run_pure, h1, h2]
          cases r' <;> simp [hz1]
        · split at he
          · rename_i l0 c0 hg
            cases he
            cases hx with
            | map hp =>
              obtain ⟨es', g1, g2⟩ := hR.obj _ _ _ hp hg
              obtain ⟨h1, r', h2, h3⟩ := key es' g2
              obtain ⟨v', h4, h5⟩ := hend r' h3
              refine ⟨v', ?_, h5⟩
              rw [← h4]
              unfold Instr.lookup
              simp only [Sem.run_bind, run_und ht, Result.andThen_ok, Sem.run_pure, run_getMap g1, h1, h2]
              cases r' <;> simp [hz1]
          · cases he
        · cases he
      split at hr
      · rename_i i v0 hf; cases hr; exact hfin _ hf _ rfl
      · rename_i hf; cases hr; exact hfin _ hf _ rfl
      · cases hr
    · cases hr
  · cases hr

/-! #### writes -/

theorem World.putObj_below {b : Nat} (hB : B ≤ b) (o : Obj) : Below B w (w.putObj b o) :=
  ⟨rfl, rfl, rfl, by simp [World.putObj], fun k hk => World.putObj_heap_other (by omega)⟩

theorem run_setMap {b clock : Nat} {es : Array MapEntry} (o : Obj) (hb : w.heap[b]? = some (.map es clock)) : (setObj b o).run P w = .ok () (w.putObj b o) := by simp [setObj, Sem.run, hb, World.putObj]

theorem setMap_ok {id clock clock' : Nat} {l l' : List AEntry} {es es' : List MapEntry} {p : Pl} (hR : Rel B w0 φ h w) (hp : φ id = some p) (hg : h.get id = some (.map l clock)) (hb : w.heap[p.blk]? = some (.map ⟨es⟩ clock)) (hc : ConE φ l' es') :
    Rel B w0 φ (h.set id (.map l' clock')) (w.putObj p.blk (.map ⟨es'⟩ clock')) :=
  hR.write hp hg rfl rfl (World.putObj_below (hR.own _ _ _ hp hg rfl) _) (fun _ hk => World.putObj_heap_other hk)
    ⟨es', World.putObj_heap_same (Array.getElem?_eq_some_iff.1 hb).1, hc⟩

theorem ConE.set {k v : AV} {k' v' : Value} (hk : Con φ k k') (hv : Con φ v v') : ∀ {i : Nat} {l : List AEntry} {es : List MapEntry}, ConE φ l es → ConE φ (setVal k v i l) (es.modify i fun e => { e with key := k', val := v' })
  | 0, _, _, .nil => by simpa [setVal] using ConE.nil
  | i + 1, _, _, .nil => by simpa [setVal] using ConE.nil
  | 0, _ :: _, _ :: _, .cons h1 h2 h3 t => .cons hk hv h3 t
  | i + 1, _ :: _, _ :: _, .cons h1 h2 h3 t => .cons h1 h2 h3 (t.set hk hv)

theorem ConE.setKey {k : AV} {k' : Value} (hk : Con φ k k') : ∀ {i : Nat} {l : List AEntry} {es : List MapEntry}, ConE φ l es → ConE φ (setKey k i l) (es.modify i fun e => { e with key := k' })
  | 0, _, _, .nil => by simpa [Go.Dr.setKey] using ConE.nil
  | i + 1, _, _, .nil => by simpa [Go.Dr.setKey] using ConE.nil
  | 0, _ :: _, _ :: _, .cons h1 h2 h3 t => .cons hk h2 h3 t
  | i + 1, _ :: _, _ :: _, .cons h1 h2 h3 t => .cons h1 h2 h3 (t.setKey hk)

theorem ConE.setVal {v : AV} {v' : Value} (hv : Con φ v v') : ∀ {i : Nat} {l : List AEntry} {es : List MapEntry}, ConE φ l es → ConE φ (setValAt v i l) (es.modify i fun e => { e with val := v' })
  | 0, _, _, .nil => by simpa [setValAt] using ConE.nil
  | i + 1, _, _, .nil => by simpa [setValAt] using ConE.nil
  | 0, _ :: _, _ :: _, .cons h1 h2 h3 t => .cons h1 hv h3 t
  | i + 1, _ :: _, _ :: _, .cons h1 h2 h3 t => .cons h1 h2 h3 (t.setVal hv)

theorem ConE.erase : ∀ {i : Nat} {l : List AEntry} {es : List MapEntry}, ConE φ l es → ConE φ (eraseAt i l) (es.eraseIdx i)
  | 0, _, _, .nil => by simpa [eraseAt] using ConE.nil
  | i + 1, _, _, .nil => by simpa [eraseAt] using ConE.nil
  | 0, _ :: _, _ :: _, .cons h1 h2 h3 t => t
  | i + 1, _ :: _, _ :: _, .cons h1 h2 h3 t => .cons h1 h2 h3 t.erase

theorem ConE.append {k v : AV} {k' v' : Value} {b : Nat} (hk : Con φ k k') (hv : Con φ v v') : ∀ {l : List AEntry} {es : List MapEntry}, ConE φ l es → ConE φ (l ++ [⟨k, v, b⟩]) (es ++ [⟨k', v', b⟩])
  | _, _, .nil => .cons hk hv rfl .nil
  | _ :: _, _ :: _, .cons h1 h2 h3 t => .cons h1 h2 h3 (t.append hk hv)

theorem ConE.get {i : Nat} : ∀ {l : List AEntry} {es : List MapEntry}, ConE φ l es → ∀ {e : AEntry}, l[i]? = some e → ∃ e', es[i]? = some e' ∧ Con φ e.key e'.key ∧ Con φ e.val e'.val ∧ e'.born = e.born := by
  intro l es hc
  induction hc generalizing i with
  | nil => intro e h; simp at h
  | cons h1 h2 h3 t ih =>
    intro e h
    cases i with
    | zero => simp at h; subst h; exact ⟨_, rfl, h1, h2, h3⟩
    | succ i => simpa using ih (by simpa using h)

theorem sameS_ok {x y : AV} {x' y' : Value} {n : Nat} (h : sameS x y = true) (hx : Con φ x x') (hy : Con φ y y') : Instr.sameBits n x' y' = true := by
  unfold sameS at h
  split at h
  · split at h
    · cases hx; cases hy; cases n <;> exact h
    · cases h
  · split at h
    · cases hx; cases hy
      rw [Bool.and_eq_true] at h
      have := beq_iff_eq.1 h.1; subst this
      have := beq_iff_eq.1 h.2; subst this
      cases n <;> simp [Instr.sameBits]
    · cases h
  · split at h
    · cases hx; cases hy
      cases n <;> (unfold Instr.sameBits; rw [ba_beq]; exact h)
    · cases h
  · cases h

theorem sameSL_ok {n : Nat} : ∀ {x y : List AV} {x' y' : List Value}, sameSL x y = true → ConL φ x x' → ConL φ y y' → x'.length = y'.length ∧ (x'.zip y').all (fun (a, b) => Instr.sameBits n a b) = true
  | [], [], _, _, _, .nil, .nil => ⟨rfl, rfl⟩
  | _ :: _, _ :: _, _, _, h, .cons hx tx, .cons hy ty => by
    simp only [sameSL, Bool.and_eq_true] at h
    obtain ⟨h1, h2⟩ := sameSL_ok h.2 tx ty
    refine ⟨by simp [h1], ?_⟩
    simp only [List.zip_cons_cons, List.all_cons, Bool.and_eq_true]
    exact ⟨sameS_ok h.1 hx hy, h2⟩

theorem sameK_ok {x y : AV} {x' y' : Value} {n : Nat} (h : sameK x y = true) (hx : Con φ x x') (hy : Con φ y y') : Instr.sameBits (n + 1) x' y' = true := by
  unfold sameK at h
  split at h
  · split at h
    · cases hx with
      | agg hx => cases hy with
        | agg hy =>
          obtain ⟨h1, h2⟩ := sameSL_ok (n := n) h hx hy
          simp only [Instr.sameBits, Bool.and_eq_true]
          exact ⟨by simp [h1], h2⟩
    · cases h
  · exact sameS_ok h hx hy

theorem keyAt_get {k : AV} : ∀ {i : Nat} {l : List AEntry}, keyAt k i l = true → ∃ e, l[i]? = some e ∧ sameK e.key k = true
  | _, [], h => by simp [keyAt] at h
  | 0, e :: _, h => ⟨e, rfl, h⟩
  | i + 1, _ :: l, h => by simpa using keyAt_get (l := l) h

theorem keyStays_ok {i : Nat} {k : AV} {k' : Value} {l : List AEntry} {es : List MapEntry} (h : keyAt k i l = true) (hk : Con φ k k') (hc : ConE φ l es) :
    (Instr.keyThatStays ((((⟨es⟩ : Array MapEntry)[i]?).map (·.key)).getD k') k').run P w = .ok k' w := by
  obtain ⟨e, he, hs⟩ := keyAt_get h
  obtain ⟨e', he', h1, _, _⟩ := hc.get he
  have : (⟨es⟩ : Array MapEntry)[i]? = some e' := by simpa using he'
  rw [this]
  simp only [Option.map_some, Option.getD_some]
  unfold Instr.keyThatStays
  rw [show (10000 : Nat) = 9999 + 1 from rfl, if_pos (sameK_ok hs h1 hk)]
  rfl

theorem modify_eq (es : List MapEntry) (i : Nat) (f : MapEntry → MapEntry) : (⟨es⟩ : Array MapEntry).modify i f = ⟨es.modify i f⟩ := by
  apply Array.ext'; simp

theorem opUpd_ok {t kt et : TypeId} {m k v : AV} {m' k' v' : Value} (ht : und P t = .ok (.map kt et)) (hR : Rel B w0 φ h w) (hm : Con φ m m') (hk : Con φ k k') (hv : Con φ v v') (hr : opUpd P kt h m k v = .ok h') :
    ∃ w', (Instr.mapUpdate t m' k' v').run P w = .ok () w' ∧ Rel B w0 φ h' w' ∧ Ext φ h φ h' := by
  unfold opUpd at hr
  split at hr
  · split at hr
    · rename_i l clock hg
      split at hr
      · rename_i hko
        obtain ⟨kind, hkind⟩ := keyOk_und hko
        cases hm with
        | map hp =>
          obtain ⟨es, g1, g2⟩ := hR.obj _ _ _ hp hg
          have hck := keyOk_ok (P := P) (w := w) (empty := false) (show 10 ≤ 10000 from by decide) hko hk
          split at hr
          · rename_i i v0 hf
            obtain ⟨r', h1, h2⟩ := findKey_ok (w := w) hkind hk hf g2
            cases h2 with
            | some h2 =>
              split at hr
              · rename_i hka
                cases hr
                refine ⟨_, ?_, setMap_ok hR hp hg g1 (g2.set hk hv), .write hp _⟩
                simp only [Instr.mapUpdate, Sem.run_bind, run_und ht, Result.andThen_ok, run_getMap g1, hck, h1, keyStays_ok hka hk g2, modify_eq]
                exact run_setMap _ g1
              · cases hr
          · rename_i hf
            obtain ⟨r', h1, h2⟩ := findKey_ok (w := w) hkind hk hf g2
            cases h2
            cases hr
            refine ⟨_, ?_, setMap_ok hR hp hg g1 (g2.append hk hv), .write hp _⟩
            simp only [Instr.mapUpdate, Sem.run_bind, run_und ht, Result.andThen_ok, run_getMap g1, hck, h1]
            rw [run_setMap _ g1]
            simp
          · cases hr
      · cases hr
    · cases hr
  · cases hr

theorem opMapEntry_ok {t kt et : TypeId} {z m k : AV} {m' k' : Value} {r : AN} (ht : und P t = .ok (.map kt et)) (hz : zeroAV P et = .ok z) (hR : Rel B w0 φ h w) (hm : Con φ m m') (hk : Con φ k k') (hr : opMapEntry P kt z h m k = .ok (r, h')) :
    ∃ v, r = .value v ∧ ValOf P B w0 φ h (Instr.mapEntry t m' k') w v h' := by
  unfold opMapEntry at hr
  split at hr
  · split at hr
    · rename_i l clock hg
      split at hr
      · rename_i hko
        obtain ⟨kind, hkind⟩ := keyOk_und hko
        cases hm with
        | map hp =>
          obtain ⟨es, g1, g2⟩ := hR.obj _ _ _ hp hg
          have hck := keyOk_ok (P := P) (w := w) (empty := false) (show 10 ≤ 10000 from by decide) hko hk
          split at hr
          · rename_i i v0 hf
            obtain ⟨r', h1, h2⟩ := findKey_ok (w := w) hkind hk hf g2
            cases h2 with
            | @some _ _ v1 h2 =>
              split at hr
              · rename_i e he
                split at hr
                · rename_i hka
                  cases hr
                  obtain ⟨e', he', _, _, hborn⟩ := g2.get he
                  have heA : (⟨es⟩ : Array MapEntry)[i]? = some e' := by simpa using he'
                  refine ⟨_, rfl, .tuple #[v1, goInt e.born], _, φ, ?_, .tuple (.cons h2 (.cons (.int _ _) .nil)), setMap_ok hR hp hg g1 (g2.setKey hk), .write hp _⟩
                  simp only [Instr.mapEntry, Sem.run_bind, run_und ht, Result.andThen_ok, run_getMap g1, hck, h1, keyStays_ok hka hk g2, modify_eq]
                  rw [run_setMap _ g1]
                  simp [heA, hborn]
                · cases hr
              · cases hr
          · rename_i hf
            obtain ⟨r', h1, h2⟩ := findKey_ok (w := w) hkind hk hf g2
            cases h2
            cases hr
            obtain ⟨z', hz1, hz2⟩ := run_zero (P := P) (w := w) hz
            refine ⟨_, rfl, .tuple #[z', goInt clock], _, φ, ?_, .tuple (.cons (hz2 φ) (.cons (.int _ _) .nil)), setMap_ok hR hp hg g1 (g2.append hk (hz2 φ)), .write hp _⟩
            simp only [Instr.mapEntry, Sem.run_bind, run_und ht, Result.andThen_ok, run_getMap g1, hck, h1, hz1]
            rw [run_setMap _ g1]
            simp
          · cases hr
      · cases hr
    · cases hr
  · cases hr

end Go.Dr
