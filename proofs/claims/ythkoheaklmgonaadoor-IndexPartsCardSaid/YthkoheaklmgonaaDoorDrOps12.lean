/-
  One operation of the abstract run is the model's: interfaces, calls; all of them.
-/
import Derived.Test.YthkoheaklmgonaaDoorDrOps11
namespace Go.Dr
open Go.RowKit

variable {P : Program} {B : Nat} {w0 w : World} {φ : Phi} {h h' : AH}

theorem find_born {b : Nat} : ∀ {l : List AEntry} {es : List MapEntry} {e : AEntry}, ConE φ l es → l.find? (fun e => e.born == b) = some e → ∃ e', es.find? (·.born == b) = some e' ∧ Con φ e.key e'.key ∧ Con φ e.val e'.val
  | _, _, e, .nil, h => by cases h
  | x :: l, x' :: es, e, .cons h1 h2 h3 t, h => by
    rw [List.find?_cons] at h ⊢
    rw [h3]
    split at h
    · cases h; exact ⟨x', rfl, h1, h2⟩
    · exact find_born t h

theorem opEntry_ok {it v : AV} {it' : Value} (hR : Rel B w0 φ h w) (hi : Con φ it it') (hr : opEntry h it = .ok v) :
    ∃ v', (Instr.entry it').run P w = .ok v' w ∧ Con φ v v' := by
  unfold opEntry at hr
  split at hr
  · rename_i id
    split at hr
    · rename_i m since seen stepped hg
      cases hi with
      | @ptr _ _ p hp =>
        obtain ⟨hoff, m', g1, q, hq, rfl⟩ := hR.obj _ _ _ hp hg
        split at hr
        · rename_i b es clock hb hgm
          obtain ⟨es', k1, k2⟩ := hR.obj _ _ _ hq hgm
          split at hr
          · rename_i hcl
            split at hr
            · rename_i e he
              cases hr
              obtain ⟨e', he', c1, c2⟩ := find_born k2 he
              refine ⟨.tuple #[e'.key, e'.val], ?_, .tuple (.cons c1 (.cons c2 .nil))⟩
              have hget : (getObj p.blk).run P w = .ok (.mapIter (some q.blk) since ⟨seen⟩ stepped) w := by simp [getObj, Sem.run, g1]
              have hback : (⟨seen⟩ : Array Nat).back? = some b := by
                rw [← hb]; simp
              have hf : (⟨es'⟩ : Array MapEntry).find? (·.born == b) = some e' := by
                rw [← he']; simp
              rw [hoff]
              simp only [Nat.add_zero]
              simp only [Instr.entry, Sem.run_bind, hget, Result.andThen_ok, hback, run_getMap k1, hf]
              simp [hcl]
            · cases hr
          · cases hr
        · cases hr
    · cases hr
  · cases hr

theorem assertFails_ok {t : TypeId} {ok : Bool} {v : AV} (hr : assertFails P ok t = .ok v) : ok = true ∧ ∃ z z', zeroAV P t = .ok z ∧ (zeroValue t).run P w = .ok z' w ∧ v = .tuple [z, .bool false] ∧ Con φ v (.tuple #[z', .bool false]) := by
  unfold assertFails at hr
  split at hr
  · split at hr
    · rename_i z hz; cases hr
      obtain ⟨z', h1, h2⟩ := run_zero (P := P) (w := w) hz
      exact ⟨rfl, z, z', hz, h1, rfl, .tuple (.cons (h2 φ) (.cons (.bool _) .nil))⟩
    · cases hr
  · cases hr

theorem opTypeAssert_ok {xt t : TypeId} {ok : Bool} {x v : AV} {x' : Value} (hx : Con φ x x') (hr : opTypeAssert P x t ok = .ok v) : ∃ v', (Instr.typeAssert x' xt t ok).run P w = .ok v' w ∧ Con φ v v' := by
  unfold opTypeAssert at hr
  split at hr
  · rename_i want ht
    split at hr
    · split at hr
      · rename_i i hi
        split at hr
        · rename_i hm
          cases hr
          cases hx with
          | iface hx =>
            cases ok
            · exact ⟨_, by simp only [Instr.typeAssert, Sem.run_bind, run_und ht, Result.andThen_ok, run_info hi, hm]; rfl, .iface hx⟩
            · exact ⟨_, by simp only [Instr.typeAssert, Sem.run_bind, run_und ht, Result.andThen_ok, run_info hi, hm]; rfl, .tuple (.cons (.iface hx) (.cons (.bool _) .nil))⟩
        · rename_i s hm
          obtain ⟨rfl, z, z', h1, h2, h3, h4⟩ := assertFails_ok (φ := φ) (w := w) hr
          cases hx
          exact ⟨_, by simp only [Instr.typeAssert, Sem.run_bind, run_und ht, Result.andThen_ok, run_info hi, hm, if_true, h2]; rfl, h4⟩
      · cases hr
    · obtain ⟨rfl, z, z', h1, h2, h3, h4⟩ := assertFails_ok (φ := φ) (w := w) hr
      cases hx
      exact ⟨_, by simp only [Instr.typeAssert, Sem.run_bind, run_und ht, Result.andThen_ok, if_true, h2]; rfl, h4⟩
    · cases hr
  · rename_i td hne ht
    split at hr
    · obtain ⟨rfl, z, z', h1, h2, h3, h4⟩ := assertFails_ok (φ := φ) (w := w) hr
      cases hx
      exact ⟨_, by
        simp only [Instr.typeAssert, Sem.run_bind, run_und ht, Result.andThen_ok]
        cases td <;> first | (exact absurd rfl (hne _)) | (simp only [Sem.run_bind, if_true, h2, Result.andThen_ok]; rfl), h4⟩
    · split at hr
      · rename_i he; cases hr
        cases hx with
        | iface hx =>
          cases ok
          · exact ⟨_, by
              simp only [Instr.typeAssert, Sem.run_bind, run_und ht, Result.andThen_ok]
              cases td <;> first | (exact absurd rfl (hne _)) | (simp only [if_pos he]; rfl), hx⟩
          · exact ⟨_, by
              simp only [Instr.typeAssert, Sem.run_bind, run_und ht, Result.andThen_ok]
              cases td <;> first | (exact absurd rfl (hne _)) | (simp only [if_pos he]; rfl), .tuple (.cons hx (.cons (.bool _) .nil))⟩
      · rename_i he
        obtain ⟨rfl, z, z', h1, h2, h3, h4⟩ := assertFails_ok (φ := φ) (w := w) hr
        cases hx
        exact ⟨_, by
          simp only [Instr.typeAssert, Sem.run_bind, run_und ht, Result.andThen_ok]
          cases td <;> first | (exact absurd rfl (hne _)) | (simp only [if_neg he, Sem.run_bind, if_true, h2, Result.andThen_ok]; rfl), h4⟩
    · cases hr
  · cases hr

theorem min_ok : ∀ {l : List AV} {l' : List Value} {a v : AV} {a' : Value}, foldMM false a l = .ok v → Con φ a a' → ConL φ l l' → ∃ v', (l'.foldlM Builtin.min2 a').run P w = .ok v' w ∧ Con φ v v'
  | [], _, a, v, a', h, ha, .nil => by cases h; exact ⟨a', rfl, ha⟩
  | b :: l, b' :: l', a, v, a', h, ha, .cons hb t => by
    unfold foldMM at h
    split at h
    · rename_i c hc
      unfold mm2 at hc
      split at hc
      · split at hc
        · rename_i hh; cases hh
        · cases hc; cases ha; cases hb
          obtain ⟨v', h1, h2⟩ := min_ok h (.int _ _) t
          refine ⟨v', ?_, h2⟩
          rw [List.foldlM_cons, Sem.run_bind]
          exact h1
      · cases hc
    · cases h

theorem max_ok : ∀ {l : List AV} {l' : List Value} {a v : AV} {a' : Value}, foldMM true a l = .ok v → Con φ a a' → ConL φ l l' → ∃ v', (l'.foldlM Builtin.max2 a').run P w = .ok v' w ∧ Con φ v v'
  | [], _, a, v, a', h, ha, .nil => by cases h; exact ⟨a', rfl, ha⟩
  | b :: l, b' :: l', a, v, a', h, ha, .cons hb t => by
    unfold foldMM at h
    split at h
    · rename_i c hc
      unfold mm2 at hc
      split at hc
      · split at hc
        · cases hc; cases ha; cases hb
          obtain ⟨v', h1, h2⟩ := max_ok h (.int _ _) t
          refine ⟨v', ?_, h2⟩
          rw [List.foldlM_cons, Sem.run_bind]
          exact h1
        · rename_i hh; cases hh
      · cases hc
    · cases h

inductive DefR (φ : Phi) : ADef → Deferred → Prop
  | collected {id : Nat} {p : Pl} (h : φ id = some p) : DefR φ (.collected id) { target := .collected p.blk, args := #[] }
  | call {f : FuncId} {c a : List AV} {c' a' : List Value} (hc : ConL φ c c') (ha : ConL φ a a') : DefR φ (.call (.func f) c a) { target := .fn (.func f) ⟨c'⟩, args := ⟨a'⟩ }

theorem DefR.mono {φ ψ : Phi} (hle : φ.le ψ) {a : ADef} {d : Deferred} (h : DefR φ a d) : DefR ψ a d := by
  cases h with
  | collected h => exact .collected (hle _ _ h)
  | call hc ha => exact .call (hc.mono hle) (ha.mono hle)

/-- what an operation comes to, held against the model's -/
def OpSound (P : Program) (B : Nat) (w0 : World) (φ : Phi) (h : AH) (s : Sem Next) (w : World) (n : AN) (h' : AH) : Prop :=
  match n with
  | .value v => ∃ v' w' φ', s.run P w = .ok (.value v') w' ∧ Con φ' v v' ∧ Rel B w0 φ' h' w' ∧ Ext φ h φ' h'
  | .skip => ∃ w', s.run P w = .ok .skip w' ∧ Rel B w0 φ h' w' ∧ Ext φ h φ h'
  | .enter f args => h' = h ∧ ∃ args', ConL φ args args' ∧ s.run P w = (callFunc f ⟨args'⟩).run P w
  | .yield l args => h' = h ∧ ∃ p args', φ l = some p ∧ ConL φ args args' ∧ s.run P w = (Instr.yield p.blk ⟨args'⟩).run P w
  | .defer d => h' = h ∧ ∃ d', DefR φ d d' ∧ s.run P w = .ok (.defer d') w

theorem OpSound.val {s : Sem Value} {v : AV} (hv : ValOf P B w0 φ h s w v h') {t : Sem Next} (ht : t = (do pure (.value (← s)))) : OpSound P B w0 φ h t w (.value v) h' := by
  obtain ⟨v', w', φ', h1, h2, h3, h4⟩ := hv
  exact ⟨v', w', φ', by subst ht; simp only [Sem.run_bind, h1, Result.andThen_ok, Sem.run_pure], h2, h3, h4⟩

theorem OpSound.pure {s : Sem Value} {v : AV} (hR : Rel B w0 φ h w) (hv : ∃ v', s.run P w = .ok v' w ∧ Con φ v v') {t : Sem Next} (ht : t = (do pure (.value (← s)))) : OpSound P B w0 φ h t w (.value v) h := by
  obtain ⟨v', h1, h2⟩ := hv
  exact OpSound.val (.pure hR h1 h2) ht

theorem callFn_ok {fn : Fn} {first captured args : List AV} {v : Value} {args' : List Value} {n : AN} (hf : Con φ (.func fn first captured) v) (ha : ConL φ args args') (hr : callFn fn captured (first ++ args) h = .ok (n, h')) :
    OpSound P B w0 φ h (do let d ← Deferred.ofValue v ⟨args'⟩; invoke d.target d.args) w n h' := by
  unfold callFn at hr
  split at hr
  · cases hr
    cases hf with
    | func h1 h2 => 
      refine ⟨rfl, _, (h1.append ha).append h2, ?_⟩
      simp only [Deferred.ofValue, Sem.run_bind, Sem.run_pure, Result.andThen_ok, invoke]
      simp
  · cases hr
    cases hf with
    | yield hl =>
      refine ⟨rfl, _, args', hl, by simpa using ha, ?_⟩
      simp only [Deferred.ofValue, Sem.run_bind, Sem.run_pure, Result.andThen_ok, invoke]
      simp
  · cases hr

end Go.Dr
