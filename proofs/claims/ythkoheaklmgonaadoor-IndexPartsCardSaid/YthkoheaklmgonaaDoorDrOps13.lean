/-
  Every operation of the abstract run is the model's.
-/
import Derived.Test.YthkoheaklmgonaaDoorDrOps12
namespace Go.Dr
open Go.RowKit

variable {P : Program} {B : Nat} {w0 w : World} {φ : Phi} {h h' : AH}

theorem skipH_ok {r : R AH} {n : AN} (hr : skipH r = .ok (n, h')) : r = .ok h' ∧ n = .skip := by
  unfold skipH at hr; split at hr
  · cases hr; exact ⟨rfl, rfl⟩
  · cases hr

theorem keep_sound {r : R AV} {n : AN} {s : Sem Value} {t : Sem Next} (hR : Rel B w0 φ h w) (hr : keepH h r = .ok (n, h')) (hv : ∀ v, r = .ok v → ∃ v', s.run P w = .ok v' w ∧ Con φ v v') (ht : t = (do pure (.value (← s)))) :
    OpSound P B w0 φ h t w n h' := by
  obtain ⟨v, h1, rfl, rfl⟩ := keepH_ok hr
  exact .pure hR (hv v h1) ht

theorem val_sound {n : AN} {s : Sem Value} {t : Sem Next} (hv : ∃ v, n = .value v ∧ ValOf P B w0 φ h s w v h') (ht : t = (do pure (.value (← s)))) : OpSound P B w0 φ h t w n h' := by
  obtain ⟨v, rfl, hv⟩ := hv
  exact .val hv ht

theorem skip_sound {n : AN} {r : R AH} {s : Sem Unit} {t : Sem Next} (hr : skipH r = .ok (n, h')) (hv : r = .ok h' → ∃ w', s.run P w = .ok () w' ∧ Rel B w0 φ h' w' ∧ Ext φ h φ h') (ht : t = (do s; pure .skip)) : OpSound P B w0 φ h t w n h' := by
  obtain ⟨h1, rfl⟩ := skipH_ok hr
  obtain ⟨w', g1, g2, g3⟩ := hv h1
  exact ⟨w', by subst ht; simp only [Sem.run_bind, g1, Result.andThen_ok, Sem.run_pure], g2, g3⟩

theorem evOO_con {a : AAct} {tm : Array Value} {ds : List Deferred} (hG : GlobRel P φ) (hA : ActRel φ a tm) {x : Option Operand} {c : Option CO} (hc : cOO P x = .ok c) : ConO φ (evOO a c) (x.map (Act.eval ⟨tm, ds⟩)) := by
  rcases cOO_con (ds := ds) hG hA hc with ⟨rfl, rfl⟩ | ⟨y, d, rfl, rfl, h⟩
  · exact .none
  · exact .some h

theorem run_loadVar1 {t : TypeId} {b o : Nat} {v : Value} (ha : aggT P t = .ok false) (hc : w.cell? ⟨b, o, none⟩ = some v) : (loadVar t ⟨b, o, none⟩).run P w = .ok v w := by
  simp only [loadVar, Sem.run_bind, run_aggT ha, Result.andThen_ok, Bool.false_eq_true, if_false]
  exact run_load_at hc

theorem run_loadVarN {t : TypeId} {b o n : Nat} {vs : List Value} (ha : aggT P t = .ok true) (hs : szOf P t = .ok n) (hl : vs.length = n) (hc : ∀ j v, vs[j]? = some v → w.cell? ⟨b, o + j, none⟩ = some v) : (loadVar t ⟨b, o, none⟩).run P w = .ok (.agg ⟨vs⟩) w := by
  simp only [loadVar, Sem.run_bind, run_aggT ha, Result.andThen_ok, if_true, run_szOf hs, run_loadCells_at hl hc, Sem.run_pure]

theorem opLoad1_ok {t : TypeId} {x : AV} {x' : Value} {n : AN} (ha : aggT P t = .ok false) (hR : Rel B w0 φ h w) (hx : Con φ x x') (hr : opLoad1 x h = .ok (n, h')) : ∃ v, n = .value v ∧ ValOf P B w0 φ h (Instr.loadAt t x') w v h' := by
  unfold opLoad1 at hr
  split at hr
  · obtain ⟨v, h1, rfl, rfl⟩ := keepH_ok hr
    cases hx with
    | ptr hp =>
      obtain ⟨v', g1, g2⟩ := load1_ok h1 hR hp
      exact ⟨v, rfl, .pure hR (by simp only [Instr.loadAt, Instr.sureAddr, Sem.run_bind, Sem.run_pure, Result.andThen_ok]; exact run_loadVar1 ha g1) g2⟩
  · cases hr

theorem opLoadN_ok {t : TypeId} {k : Nat} {x : AV} {x' : Value} {n : AN} (ha : aggT P t = .ok true) (hs : szOf P t = .ok k) (hR : Rel B w0 φ h w) (hx : Con φ x x') (hr : opLoadN k x h = .ok (n, h')) : ∃ v, n = .value v ∧ ValOf P B w0 φ h (Instr.loadAt t x') w v h' := by
  unfold opLoadN at hr
  split at hr
  · split at hr
    · rename_i l hl
      cases hr
      cases hx with
      | ptr hp =>
        obtain ⟨vs, g1, g2, g3⟩ := loadN_ok hl hR hp
        exact ⟨_, rfl, .pure hR (by simp only [Instr.loadAt, Instr.sureAddr, Sem.run_bind, Sem.run_pure, Result.andThen_ok]; exact run_loadVarN ha hs g1 g2) (.agg g3)⟩
    · cases hr
  · cases hr

theorem opStore_ok {t : TypeId} {k : Nat} {x y : AV} {x' y' : Value} {n : AN} (hs : szOf P t = .ok k) (hR : Rel B w0 φ h w) (hx : Con φ x x') (hy : Con φ y y') (hr : opStore k x y h = .ok (n, h')) :
    OpSound P B w0 φ h (do Instr.storeAt t x' y'; pure .skip) w n h' := by
  unfold opStore at hr
  split at hr
  · rename_i id off
    cases hb : Nat.beq y.cells.length k with
    | false => rw [hb] at hr; cases hr
    | true =>
      rw [hb] at hr
      have hlen := Nat.eq_of_beq_eq_true hb
      refine skip_sound (s := Instr.storeAt t x' y') hr (fun h1 => ?_) rfl
      cases hx with
      | ptr hp =>
        obtain ⟨w', g1, g2, g3⟩ := storeN_ok (P := P) h1 hR hp hy.cells
        refine ⟨w', ?_, g2, g3⟩
        have hsz : y'.cells.size = k := by have := hy.cells.length; simp at this; omega
        simp only [Instr.storeAt, Instr.sureAddr, storeVar, Sem.run_bind, Sem.run_pure, Result.andThen_ok, run_szOf hs]
        rw [if_neg (by simp [hsz])]
        exact g1
  · cases hr

def nilGood (v : Value) : Bool :=
  match v with
  | .pointer (some _) => true
  | .map (some _) => true
  | .iface _ _ => true
  | .func (.func _) _ _ => true
  | .func (.yield _) _ _ => true
  | _ => false

theorem nilCheck_run {x : Operand} {o : Oper} {ρ : Operand → Value} {v : Value} (ho : o.op = .nilCheck x) (hv : ρ x = v) (hg : nilGood v = true) : (execOp ρ o).run P w = .ok (.value v) w := by
  simp only [execOp, ho, hv]
  unfold nilGood at hg
  split at hg
  all_goals first
    | rfl
    | cases hg

theorem opNilCheck_ok {x : Operand} {o : Oper} {a : AV} {ρ : Operand → Value} {n : AN} (ho : o.op = .nilCheck x) (hR : Rel B w0 φ h w) (hx : Con φ a (ρ x)) (hr : opNilCheck a h = .ok (n, h')) : OpSound P B w0 φ h (execOp ρ o) w n h' := by
  generalize hv : ρ x = v at hx
  unfold opNilCheck at hr
  split at hr
  · cases hr
    cases hx with
    | ptr hp => exact ⟨_, w, φ, nilCheck_run ho hv rfl, .ptr hp, hR, .refl _ _⟩
  · cases hr
    cases hx with
    | map hp => exact ⟨_, w, φ, nilCheck_run ho hv rfl, .map hp, hR, .refl _ _⟩
  · cases hr
    cases hx with
    | iface hp => exact ⟨_, w, φ, nilCheck_run ho hv rfl, .iface hp, hR, .refl _ _⟩
  · split at hr
    · cases hr
      cases hx with
      | func h1 h2 => exact ⟨_, w, φ, nilCheck_run ho hv rfl, .func h1 h2, hR, .refl _ _⟩
    · cases hr
      cases hx with
      | yield h1 => exact ⟨_, w, φ, nilCheck_run ho hv rfl, .yield h1, hR, .refl _ _⟩
    · cases hr
  · cases hr

theorem callMeth_ok {x : AV} {x' : Value} {name : String} {args : List AV} {args' : List Value} {n : AN} (hx : Con φ x x') (ha : ConL φ args args') (hr : callMeth P x name args h = .ok (n, h')) :
    OpSound P B w0 φ h (callMethod x' name ⟨args'⟩) w n h' := by
  unfold callMeth at hr
  split at hr
  · rename_i t v
    split at hr
    · rename_i i hi
      split at hr
      · rename_i m hm
        split at hr
        · rename_i hpath
          split at hr
          · rename_i f pr hf
            cases hx with
            | @iface _ _ v' hx =>
              have hmd : 0 < Made.depth := by decide
              obtain ⟨k, hk⟩ : ∃ k, P.types.size + Made.depth = k + 1 := ⟨P.types.size + (Made.depth - 1), by omega⟩
              have hpl : m.path.toList = [] := by simpa using hpath
              have key : ∀ d, P.underlying t = some d → ((∃ e, d = .pointer e) ∧ pr = true ∨ (∀ e, d ≠ .pointer e) ∧ pr = false) → OpSound P B w0 φ h (callMethod (.iface t v') name ⟨args'⟩) w (.enter f (v :: args)) h := by
                intro d hd hcase
                have hu : (underlying t).run P w = .ok d w := by simp [underlying, hd]
                refine ⟨rfl, v' :: args', .cons hx ha, ?_⟩
                have hmeth : (method (P.types.size + Made.depth) t v' name).run P w = .ok (f, v') w := by
                  rw [hk]
                  unfold method
                  simp only [Sem.run_bind, run_info hi, Result.andThen_ok, hm, hpl, follow, Sem.run_pure, hf]
                  rcases hcase with ⟨⟨e, rfl⟩, rfl⟩ | ⟨hne, rfl⟩
                  · simp only [receiverAt, Sem.run_bind, hu, Result.andThen_ok, Place.get, Sem.run_pure]
                  · simp only [receiverAt, Sem.run_bind, hu, Result.andThen_ok]
                    cases d <;> first | (exact absurd rfl (hne _)) | rfl
                simp only [callMethod, Sem.run_bind, run_program, Result.andThen_ok, hmeth]
                congr 2
                apply Array.ext'; simp
              split at hr
              · rename_i e hd; cases hr
                have := key _ hd (.inl ⟨⟨e, rfl⟩, rfl⟩)
                simpa [callFn] using this
              · cases hr
              · rename_i d hne1 hd; cases hr
                have := key _ hd (.inr ⟨fun e he => hne1 _ he, rfl⟩)
                simpa using this
              · cases hr
          · cases hr
        · cases hr
      · cases hr
    · cases hr
  · cases hr

theorem len_arr {t e ty : TypeId} {k : Nat} {v : Value} (ht : und P t = .ok (.array k e)) : (Builtin.len_ #[t] ty #[v]).run P w = .ok (.int .i64 k) w := by
  simp only [Builtin.len_, List.getElem?_toArray, List.getElem?_cons_zero, Sem.run_bind, run_und ht, Result.andThen_ok]; rfl
theorem cap_arr {t e ty : TypeId} {k : Nat} {v : Value} (ht : und P t = .ok (.array k e)) : (Builtin.cap_ #[t] ty #[v]).run P w = .ok (.int .i64 k) w := by
  simp only [Builtin.cap_, List.getElem?_toArray, List.getElem?_cons_zero, Sem.run_bind, run_und ht, Result.andThen_ok]; rfl

/-- the model's call operation, over a builtin -/
theorem exec_builtin {o : Oper} {c : Call} {b : Builtin} {ρ : Operand → Value} (ho : o.op = .call c) (_hb : c.callee = .builtin b) :
    execOp ρ o = (do let d ← resolve ρ c o.type; invoke d.target d.args) := by simp only [execOp, ho]

theorem builtin_run {o : Oper} {c : Call} {b : Builtin} {ρ : Operand → Value} (ho : o.op = .call c) (hb : c.callee = .builtin b) :
    execOp ρ o = builtin b c.argTypes o.type (c.args.map fun | .const _ => true | _ => false) (c.args.map ρ) := by
  simp only [execOp, ho, resolve, hb]
  rfl

theorem cCall_sound {o : Oper} {call : Call} {c : COp} {a : AAct} {tm : Array Value} {ds : List Deferred} {n : AN} (ho : o.op = .call call) (hc : cCall P call = .ok c) (hr : evC P c a h = .ok (n, h')) (hG : GlobRel P φ) (hA : ActRel φ a tm) (hR : Rel B w0 φ h w) :
    OpSound P B w0 φ h (execOp (Act.eval ⟨tm, ds⟩) o) w n h' := by
  unfold cCall at hc
  split at hc
  · -- a value
    rename_i f hcal
    obtain ⟨g, hg, hc⟩ := with1_ok hc
    split at hc
    · rename_i l hl; cases hc
      have hf := cO_con (ds := ds) hg hG hA
      have ha := cOs_con (ds := ds) hG hA hl
      have hargs : call.args.map (Act.eval ⟨tm, ds⟩) = ⟨call.args.toList.map (Act.eval ⟨tm, ds⟩)⟩ := by apply Array.ext'; simp
      have he : execOp (Act.eval ⟨tm, ds⟩) o = (do let d ← Deferred.ofValue (Act.eval ⟨tm, ds⟩ f) ⟨call.args.toList.map (Act.eval ⟨tm, ds⟩)⟩; invoke d.target d.args) := by
        simp only [execOp, ho, resolve, hcal, hargs]
      rw [he]
      simp only [evC] at hr
      unfold callVal at hr
      split at hr
      · rename_i fn first captured hfv
        rw [hfv] at hf
        exact callFn_ok hf ha hr
      · cases hr
    · cases hc
  · -- a method
    rename_i r name hcal
    obtain ⟨g, hg, hc⟩ := with1_ok hc
    split at hc
    · rename_i l hl; cases hc
      have hf := cO_con (ds := ds) hg hG hA
      have ha := cOs_con (ds := ds) hG hA hl
      have he : (execOp (Act.eval ⟨tm, ds⟩) o) = callMethod (Act.eval ⟨tm, ds⟩ r) name ⟨call.args.toList.map (Act.eval ⟨tm, ds⟩)⟩ := by
        simp only [execOp, ho, resolve, hcal]
        show invoke (.fn (.method name) #[]) (#[Act.eval ⟨tm, ds⟩ r] ++ call.args.map (Act.eval ⟨tm, ds⟩)) = _
        have e0 : (#[Act.eval ⟨tm, ds⟩ r] ++ call.args.map (Act.eval ⟨tm, ds⟩))[0]? = some (Act.eval ⟨tm, ds⟩ r) := by
          rcases call with ⟨_, ⟨args⟩, _⟩; simp
        have e1 : (#[Act.eval ⟨tm, ds⟩ r] ++ call.args.map (Act.eval ⟨tm, ds⟩)).extract 1 (#[Act.eval ⟨tm, ds⟩ r] ++ call.args.map (Act.eval ⟨tm, ds⟩)).size = ⟨call.args.toList.map (Act.eval ⟨tm, ds⟩)⟩ := by
          rcases call with ⟨_, ⟨args⟩, _⟩; apply Array.ext'; simp [List.take_of_length_le]
        simp only [invoke, e0, e1]
      rw [he]
      simp only [evC] at hr
      exact callMeth_ok hf ha hr
    · cases hc
  · -- a builtin
    rename_i b hcal
    rw [builtin_run ho hcal]
    split at hc
    · -- two arguments
      rename_i x y t u hargs htys
      have hty : call.argTypes = #[t, u] := by rcases call with ⟨_, _, ⟨tys⟩⟩; simp at htys; subst htys; rfl
      have hmap : call.args.map (Act.eval ⟨tm, ds⟩) = #[Act.eval ⟨tm, ds⟩ x, Act.eval ⟨tm, ds⟩ y] := by
        rcases call with ⟨_, ⟨args⟩, _⟩; simp at hargs; subst hargs; simp
      rw [hmap, hty]
      split at hc
      · -- append
        obtain ⟨ca, cb, ha, hb, hc⟩ := with2_ok hc
        have hca := cO_con (ds := ds) ha hG hA
        have hcb := cO_con (ds := ds) hb hG hA
        split at hc
        · rename_i e ud ht hu
          split at hc
          · rename_i es bytes z hes hby hz
            split at hc
            · cases hc
            · rename_i hne
              have hne1 : es ≠ 0 := fun e => hne (.inl e)
              have hne2 : z.cells.length = es := Decidable.byContradiction fun e => hne (.inr e)
              split at hc
              · cases hc
                exact val_sound (opAppZ_ok ht hu hes hby hz hne1 hne2 hR hca hcb hr) rfl
              · rename_i hni; cases hc
                exact val_sound (opApp_ok ht hu (by cases ud <;> first | rfl | (exact absurd rfl (hni _))) hes hby hz hne1 hne2 hR hca hcb hr) rfl
          · cases hc
        · cases hc
      · -- copy
        obtain ⟨ca, cb, ha, hb, hc⟩ := with2_ok hc
        have hca := cO_con (ds := ds) ha hG hA
        have hcb := cO_con (ds := ds) hb hG hA
        split at hc
        · rename_i e ht
          split at hc
          · rename_i es hes; cases hc
            exact val_sound (opCopy_ok ht hes hR hca hcb hr) rfl
          · cases hc
        · cases hc
      · -- delete
        obtain ⟨ca, cb, ha, hb, hc⟩ := with2_ok hc
        have hca := cO_con (ds := ds) ha hG hA
        have hcb := cO_con (ds := ds) hb hG hA
        split at hc
        · rename_i k e ht; cases hc
          exact val_sound (opDelete_ok ht hR hca hcb hr) rfl
        · cases hc
      · obtain ⟨ca, cb, ha, hb, hc⟩ := with2_ok hc
        cases hc
        exact keep_sound hR hr (fun v hv => min_ok hv (cO_con ha hG hA) (.cons (cO_con hb hG hA) .nil)) rfl
      · obtain ⟨ca, cb, ha, hb, hc⟩ := with2_ok hc
        cases hc
        exact keep_sound hR hr (fun v hv => max_ok hv (cO_con ha hG hA) (.cons (cO_con hb hG hA) .nil)) rfl
      · cases hc
    · rename_i x t hargs htys
      have hty : call.argTypes = #[t] := by rcases call with ⟨_, _, ⟨tys⟩⟩; simp at htys; subst htys; rfl
      have hmap : call.args.map (Act.eval ⟨tm, ds⟩) = #[Act.eval ⟨tm, ds⟩ x] := by
        rcases call with ⟨_, ⟨args⟩, _⟩; simp at hargs; subst hargs; simp
      rw [hmap, hty]
      split at hc
      · obtain ⟨ca, ha, hc⟩ := with1_ok hc
        have hca := cO_con (ds := ds) ha hG hA
        split at hc
        · rename_i k e ht; cases hc; cases hr
          exact .pure hR ⟨_, len_arr ht, .int _ _⟩ rfl
        · rename_i ht; cases hc
          exact keep_sound hR hr (fun v hv => opLenS_ok ht hca hv) rfl
        · rename_i e ht; cases hc
          exact keep_sound hR hr (fun v hv => opLenV_ok ht hca hv) rfl
        · rename_i k e ht; cases hc
          exact keep_sound hR hr (fun v hv => opLenM_ok ht hR hca hv) rfl
        · cases hc
      · obtain ⟨ca, ha, hc⟩ := with1_ok hc
        have hca := cO_con (ds := ds) ha hG hA
        split at hc
        · rename_i k e ht; cases hc; cases hr
          exact .pure hR ⟨_, cap_arr ht, .int _ _⟩ rfl
        · rename_i e ht; cases hc
          exact keep_sound hR hr (fun v hv => opCapV_ok ht hca hv) rfl
        · cases hc
      · -- clear
        obtain ⟨ca, ha, hc⟩ := with1_ok hc
        have hca := cO_con (ds := ds) ha hG hA
        split at hc
        · rename_i e ht
          split at hc
          · rename_i es z hes hz
            split at hc
            · cases hc
            · rename_i hne
              have hne1 : es ≠ 0 := fun e => hne (.inl e)
              have hne2 : z.cells.length = es := Decidable.byContradiction fun e => hne (.inr e)
              cases hc
              exact val_sound (opClear_ok ht hz hne2 hne1 hR hca hr) rfl
          · cases hc
        · cases hc
      · cases hc
    · rename_i x l hargs _ _
      have hmap : call.args.map (Act.eval ⟨tm, ds⟩) = ⟨Act.eval ⟨tm, ds⟩ x :: l.map (Act.eval ⟨tm, ds⟩)⟩ := by
        rcases call with ⟨_, ⟨args⟩, _⟩; simp at hargs; subst hargs; simp
      rw [hmap]
      split at hc
      · obtain ⟨ca, ha, hc⟩ := with1_ok hc
        split at hc
        · rename_i ll hll; cases hc
          exact keep_sound hR hr (fun v hv => min_ok hv (cO_con ha hG hA) (cOs_con hG hA hll)) rfl
        · cases hc
      · obtain ⟨ca, ha, hc⟩ := with1_ok hc
        split at hc
        · rename_i ll hll; cases hc
          exact keep_sound hR hr (fun v hv => max_ok hv (cO_con ha hG hA) (cOs_con hG hA hll)) rfl
        · cases hc
      · cases hc
    · cases hc

end Go.Dr
