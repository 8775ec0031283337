/-
  Every operation of the abstract run is the model's: joined.
-/
import Derived.Test.YthkoheaklmgonaaDoorDrOps13
namespace Go.Dr
open Go.RowKit

variable {P : Program} {B : Nat} {w0 w : World} {φ : Phi} {h h' : AH}

theorem evC_sound {o : Oper} {c : COp} {a : AAct} {tm : Array Value} {ds : List Deferred} {n : AN} (hc : comp P o = .ok c) (hr : evC P c a h = .ok (n, h')) (hG : GlobRel P φ) (hA : ActRel φ a tm) (hR : Rel B w0 φ h w) :
    OpSound P B w0 φ h (execOp (Act.eval ⟨tm, ds⟩) o) w n h' := by
  have con := fun {x : Operand} {c : CO} (hx : cO P x = .ok c) => cO_con (ds := ds) hx hG hA
  have conO := fun {x : Option Operand} {c : Option CO} (hx : cOO P x = .ok c) => evOO_con (ds := ds) hG hA hx
  unfold comp at hc
  split at hc
  · rename_i x ho
    obtain ⟨ca, ha, hc⟩ := with1_ok hc
    cases hc; cases hr
    exact ⟨_, w, φ, by simp only [execOp, ho]; rfl, con ha, hR, .refl _ _⟩
  · rename_i x ho
    obtain ⟨ca, ha, hc⟩ := with1_ok hc
    cases hc; cases hr
    exact ⟨_, w, φ, by simp only [execOp, ho]; rfl, con ha, hR, .refl _ _⟩
  · rename_i q x y ho
    obtain ⟨cq, cx, cy, hq, hx, hy, hc⟩ := with3_ok hc
    cases hc
    simp only [evC] at hr
    obtain ⟨v, h1, rfl, rfl⟩ := keepH_ok hr
    have hqc := con hq
    unfold opPick at h1
    split at h1
    · rename_i hb; cases h1
      rw [hb] at hqc
      generalize hv : Act.eval ⟨tm, ds⟩ q = qv at hqc
      cases hqc
      exact ⟨_, w, φ, by simp only [execOp, ho, hv]; rfl, con hx, hR, .refl _ _⟩
    · rename_i hb; cases h1
      rw [hb] at hqc
      generalize hv : Act.eval ⟨tm, ds⟩ q = qv at hqc
      cases hqc
      exact ⟨_, w, φ, by simp only [execOp, ho, hv]; rfl, con hy, hR, .refl _ _⟩
    · cases h1
  · rename_i e ho
    split at hc
    · rename_i z hz; cases hc; cases hr
      obtain ⟨z', hz1, hz2⟩ := run_zero (P := P) (w := w) hz
      refine .val (s := Instr.alloc e true (.tuple #[])) (new_ok (e := e) (v' := z') hR (hz2 φ).cells ?_) (by simp only [execOp, ho])
      simp only [Instr.alloc, Sem.run_bind, hz1, Result.andThen_ok, newVar, newRow, run_newObj, Sem.run_pure]
      rfl
    · cases hc
  · rename_i e x ho
    obtain ⟨ca, ha, hc⟩ := with1_ok hc
    cases hc; cases hr
    refine .val (s := Instr.box e (Act.eval ⟨tm, ds⟩ x)) (new_ok (e := e) (v' := Act.eval ⟨tm, ds⟩ x) hR (con ha).cells ?_) (by simp only [execOp, ho])
    simp only [Instr.box, Sem.run_bind, Result.andThen_ok, newVar, newRow, run_newObj, Sem.run_pure]
    rfl
  · rename_i t parts ho
    have hex : execOp (Act.eval ⟨tm, ds⟩) o = (do pure (.value (← Instr.build t (parts.map fun (i, x) => (i, Act.eval ⟨tm, ds⟩ x))))) := by simp only [execOp, ho]
    split at hc
    · rename_i fields z ht hz
      split at hc
      · rename_i pl hpl
        split at hc
        · rename_i l hl; cases hc
          exact keep_sound hR hr (fun v hv => build_ok hG hA ht hz hpl hl hv) hex
        · cases hc
      · cases hc
    · rename_i k e z ht hz
      split at hc
      · rename_i size hs
        split at hc
        · rename_i l hl; cases hc
          exact keep_sound hR hr (fun v hv => buildA_ok hG hA ht hz hs hl hv) hex
        · cases hc
      · cases hc
    · cases hc
  · rename_i t len parts ho
    split at hc
    · rename_i e ht
      split at hc
      · rename_i es z hs hz
        split at hc
        · cases hc
        · rename_i hne
          split at hc
          · rename_i l hl; cases hc
            exact val_sound (buildSlice_ok (ds := ds) hG hA hR ht hz hs (fun e => hne (.inl e)) (fun e => hne (.inr (.inl e))) (Decidable.byContradiction fun e => hne (.inr (.inr e))) hl hr) (by simp only [execOp, ho])
          · cases hc
      · cases hc
    · cases hc
  · rename_i t x ho
    obtain ⟨ca, ha, hc⟩ := with1_ok hc
    split at hc
    · rename_i hagg
      split at hc
      · rename_i k hk; cases hc
        exact val_sound (opLoadN_ok hagg hk hR (con ha) hr) (by simp only [execOp, ho])
      · cases hc
    · rename_i hagg; cases hc
      exact val_sound (opLoad1_ok hagg hR (con ha) hr) (by simp only [execOp, ho])
    · cases hc
  · rename_i t x y ho
    obtain ⟨ca, cb, ha, hb, hc⟩ := with2_ok hc
    split at hc
    · rename_i k hk; cases hc
      have := opStore_ok (B := B) (w0 := w0) hk hR (con ha) (con hb) hr
      simpa only [execOp, ho] using this
    · cases hc
  · rename_i x ho
    obtain ⟨ca, ha, hc⟩ := with1_ok hc
    cases hc
    exact opNilCheck_ok ho hR (con ha) hr
  · rename_i op t x y yt ho
    obtain ⟨ca, cb, ha, hb, hc⟩ := with2_ok hc
    cases hc
    exact keep_sound hR hr (fun v hv => opBin_ok hv (con ha) (con hb)) (by simp only [execOp, ho])
  · rename_i op t x ho
    obtain ⟨ca, ha, hc⟩ := with1_ok hc
    cases hc
    exact keep_sound hR hr (fun v hv => opUn_ok hv (con ha)) (by simp only [execOp, ho])
  · rename_i s d x ho
    obtain ⟨ca, ha, hc⟩ := with1_ok hc
    have hex : execOp (Act.eval ⟨tm, ds⟩) o = (do pure (.value (← convert s d (Act.eval ⟨tm, ds⟩ x)))) := by simp only [execOp, ho]
    split at hc
    · rename_i sd k hs hd; cases hc
      exact val_sound (conv_int_ok hs hd hr (con ha) hR) hex
    · rename_i sd hs hd
      split at hc
      · rename_i e hse
        split at hc
        · rename_i he; cases hc
          exact val_sound (conv_strB_ok hse he hd hr (con ha) hR) hex
        · cases hc
      · rename_i hss; cases hc
        exact val_sound (conv_str_ok hss hd (.inl rfl) hr (con ha) hR) hex
      · rename_i k hss; cases hc
        exact val_sound (conv_str_ok hss hd (.inr ⟨k, rfl⟩) hr (con ha) hR) hex
      · cases hc
    · rename_i e hs hd
      split at hc
      · rename_i he; cases hc
        exact val_sound (conv_bytes_ok hs hd he hr (con ha) hR) hex
      · cases hc
    · cases hc
  · rename_i t x ho
    obtain ⟨ca, ha, hc⟩ := with1_ok hc
    split at hc
    · cases hc
    · rename_i td hne ht; cases hc; cases hr
      refine .pure hR (s := Instr.makeInterface t (Act.eval ⟨tm, ds⟩ x)) ⟨_, ?_, .iface (con ha)⟩ (by simp only [execOp, ho])
      simp only [Instr.makeInterface, Sem.run_bind, run_und ht, Result.andThen_ok]
      cases td <;> first | (exact absurd rfl (hne _)) | rfl
    · cases hc
  · rename_i fn first captured ho
    split at hc
    · rename_i f
      split at hc
      · rename_i l1 l2 h1 h2; cases hc; cases hr
        refine .pure hR (s := Instr.makeFunc (.func f) (first.map (Act.eval ⟨tm, ds⟩)) (captured.map (Act.eval ⟨tm, ds⟩))) ⟨.func (.func f) ⟨first.toList.map (Act.eval ⟨tm, ds⟩)⟩ ⟨captured.toList.map (Act.eval ⟨tm, ds⟩)⟩, ?_, .func (cOs_con hG hA h1) (cOs_con hG hA h2)⟩ (by simp only [execOp, ho])
        rcases first with ⟨first⟩; rcases captured with ⟨captured⟩
        simp [Instr.makeFunc]
      · cases hc
    · cases hc
  · rename_i t r ho
    split at hc
    · rename_i kt et r' ht hr'; cases hc
      have hrr := conO hr'
      simp only [evC] at hr
      generalize evOO a r' = ro at hr hrr
      have key : ∀ n, opMkM ro h = .ok (n, h') → n = .value (.map h.next) ∧ h' = h.push (.map [] 0) ∧ (Instr.makeMap t (r.map (Act.eval ⟨tm, ds⟩))).run P w = .ok (.map (some w.heap.size)) (w.alloc (.map #[] 0)) := by
        intro n hn
        generalize r.map (Act.eval ⟨tm, ds⟩) = rv at hrr
        unfold opMkM at hn
        cases hrr with
        | none =>
          cases hn
          exact ⟨rfl, rfl, by simp [Instr.makeMap]⟩
        | some hcv =>
          split at hn
          · rename_i e; cases e
          · rename_i e; cases hn; cases e
            cases hcv
            refine ⟨rfl, rfl, ?_⟩
            simp [Instr.makeMap, run_und ht, asInt, asIntOf]
          · cases hn
      obtain ⟨rfl, rfl, hrun⟩ := key _ hr
      refine .val (s := Instr.makeMap t (r.map (Act.eval ⟨tm, ds⟩))) ⟨_, _, _, hrun, ?_, hR.push (room := 0) (o := .map [] 0) (O := .map #[] 0) ⟨[], alloc_new _ _, .nil⟩, Ext.push hR _ _⟩ (by simp only [execOp, ho])
      exact .map (p := ⟨w.heap.size, 0, 0⟩) (Phi.set_same _ _ _)
    · cases hc
  · rename_i t l k ho
    obtain ⟨ca, cb, ha, hb, hc⟩ := with2_ok hc
    split at hc
    · rename_i e ht
      split at hc
      · rename_i es bytes z hs hby hz
        split at hc
        · cases hc
        · rename_i hne; cases hc
          exact val_sound (opMkS_ok ht hs hby hz (fun e => hne (.inl e)) (Decidable.byContradiction fun e => hne (.inr e)) hr (con ha) (con hb) hR) (by simp only [execOp, ho])
      · cases hc
    · cases hc
  · rename_i t x lo hi mx ho
    obtain ⟨ca, ha, hc⟩ := with1_ok hc
    have hex : execOp (Act.eval ⟨tm, ds⟩) o = (do pure (.value (← Instr.sliceAt t (Act.eval ⟨tm, ds⟩ x) (lo.map (Act.eval ⟨tm, ds⟩)) (hi.map (Act.eval ⟨tm, ds⟩)) (mx.map (Act.eval ⟨tm, ds⟩))))) := by simp only [execOp, ho]
    split at hc
    · rename_i lo' hi' mx' hlo hhi hmx
      split at hc
      · rename_i ht
        split at hc
        · cases hc
          have hm := conO hmx
          simp only [evOO] at hm
          generalize hmv : mx.map (Act.eval ⟨tm, ds⟩) = mv at hm
          cases hm
          rw [hmv] at hex
          exact keep_sound hR hr (fun v hv => opSliceS_ok ht hv (con ha) (conO hlo) (conO hhi)) hex
        · cases hc
      · rename_i e ht
        split at hc
        · rename_i es hs; cases hc
          exact keep_sound hR hr (fun v hv => opSliceV_ok ht hs hv (con ha) (conO hlo) (conO hhi) (conO hmx)) hex
        · cases hc
      · rename_i k e ht
        split at hc
        · rename_i es hs
          split at hc
          · cases hc
          · cases hc
            exact keep_sound hR hr (fun v hv => opSliceA_ok ht hs hv (con ha) hR (conO hlo) (conO hhi) (conO hmx)) hex
        · cases hc
      · cases hc
    · cases hc
  · rename_i s x f ho
    obtain ⟨ca, ha, hc⟩ := with1_ok hc
    split at hc
    · rename_i fields ht
      split at hc
      · rename_i fd hf
        split at hc
        · cases hc
        · rename_i k hk0 hk; cases hc
          exact keep_sound hR hr (fun v hv => opFieldAddr_ok ht hf hk (fun e => hk0 (by rw [e])) hv (con ha)) (by simp only [execOp, ho])
        · cases hc
      · cases hc
    · cases hc
  · rename_i t x f ho
    obtain ⟨ca, ha, hc⟩ := with1_ok hc
    split at hc
    · rename_i fields ht
      split at hc
      · rename_i fd hf
        split at hc
        · rename_i k hagg hk; cases hc
          exact keep_sound hR hr (fun v hv => fieldN_ok ht hf hagg hk hv (con ha)) (by simp only [execOp, ho])
        · rename_i hagg; cases hc
          exact keep_sound hR hr (fun v hv => field1_ok ht hf hagg hv (con ha)) (by simp only [execOp, ho])
        · cases hc
      · cases hc
    · cases hc
  · rename_i t x i ho
    obtain ⟨ca, cb, ha, hb, hc⟩ := with2_ok hc
    split at hc
    · rename_i k e ht
      split at hc
      · rename_i es hs; cases hc
        exact keep_sound hR hr (fun v hv => opIdxA_ok ht hs hv (con ha) (con hb)) (by simp only [execOp, ho])
      · cases hc
    · rename_i e ht
      split at hc
      · rename_i es hs; cases hc
        exact keep_sound hR hr (fun v hv => opIdxV_ok ht hs hv (con ha) (con hb)) (by simp only [execOp, ho])
      · cases hc
    · cases hc
  · rename_i t x i ho
    obtain ⟨ca, cb, ha, hb, hc⟩ := with2_ok hc
    split at hc
    · rename_i k e ht
      split at hc
      · rename_i es hagg hs; cases hc
        exact keep_sound hR hr (fun v hv => opIndexN_ok ht hagg hs hv (con ha) (con hb)) (by simp only [execOp, ho])
      · rename_i es hagg hs; cases hc
        exact keep_sound hR hr (fun v hv => opIndex1_ok ht hagg hs hv (con ha) (con hb)) (by simp only [execOp, ho])
      · cases hc
    · rename_i ht; cases hc
      exact keep_sound hR hr (fun v hv => opIndexS_ok ht hv (con ha) (con hb)) (by simp only [execOp, ho])
    · cases hc
  · rename_i t x k ok ho
    obtain ⟨ca, cb, ha, hb, hc⟩ := with2_ok hc
    split at hc
    · rename_i kt et ht
      split at hc
      · rename_i z hz; cases hc
        exact keep_sound hR hr (fun v hv => opLookup_ok ht hz hR (con ha) (con hb) hv) (by simp only [execOp, ho])
      · cases hc
    · cases hc
  · rename_i t m k v ho
    obtain ⟨cm, ck, cv, hm, hk, hv, hc⟩ := with3_ok hc
    split at hc
    · rename_i kt et ht; cases hc
      exact skip_sound hr (fun h1 => opUpd_ok ht hR (con hm) (con hk) (con hv) h1) (by simp only [execOp, ho])
    · cases hc
  · rename_i t m k v ho
    obtain ⟨cm, ck, cv, hm, hk, hv, hc⟩ := with3_ok hc
    split at hc
    · rename_i kt et ht; cases hc
      exact skip_sound hr (fun h1 => opUpd_ok ht hR (con hm) (con hk) (con hv) h1) (by simp only [execOp, ho])
    · cases hc
  · rename_i t m k ho
    obtain ⟨ca, cb, ha, hb, hc⟩ := with2_ok hc
    split at hc
    · rename_i kt et ht
      split at hc
      · rename_i z hz; cases hc
        exact val_sound (opMapEntry_ok ht hz hR (con ha) (con hb) hr) (by simp only [execOp, ho])
      · cases hc
    · cases hc
  · rename_i t m s v ho
    obtain ⟨cm, cs, cv, hm, hs, hv, hc⟩ := with3_ok hc
    cases hc
    exact skip_sound hr (fun h1 => opEntryStore_ok (t := t) hR (con hm) (con hs) (con hv) h1) (by simp only [execOp, ho])
  · rename_i t x ho
    obtain ⟨ca, ha, hc⟩ := with1_ok hc
    split at hc
    · rename_i ht; cases hc
      exact val_sound (opRangeS_ok ht hR (con ha) hr) (by simp only [execOp, ho])
    · rename_i kt et ht; cases hc
      exact val_sound (opRangeM_ok ht hR (con ha) hr) (by simp only [execOp, ho])
    · cases hc
  · rename_i it s ho
    obtain ⟨ca, ha, hc⟩ := with1_ok hc
    cases hc
    exact val_sound (opNext_ok (ty := o.type) hR (con ha) hr) (by simp only [execOp, ho])
  · rename_i it ho
    obtain ⟨ca, ha, hc⟩ := with1_ok hc
    cases hc
    exact keep_sound hR hr (fun v hv => opEntry_ok hR (con ha) hv) (by simp only [execOp, ho])
  · rename_i x xt t ok ho
    obtain ⟨ca, ha, hc⟩ := with1_ok hc
    cases hc
    exact keep_sound hR hr (fun v hv => opTypeAssert_ok (xt := xt) (con ha) hv) (by simp only [execOp, ho])
  · rename_i x i ho
    obtain ⟨ca, ha, hc⟩ := with1_ok hc
    cases hc
    refine keep_sound (s := Instr.extract (Act.eval ⟨tm, ds⟩ x) i) hR hr (fun v hv => ?_) (by simp only [execOp, ho])
    have hx := con ha
    unfold opExtract at hv
    split at hv
    · rename_i l hl
      rw [hl] at hx
      generalize hxv : Act.eval ⟨tm, ds⟩ x = xv at hx
      cases hx with
      | tuple hx =>
        rename_i l2
        unfold ofO at hv
        split at hv
        · rename_i y hy; cases hv
          obtain ⟨z, h1, h2⟩ := hx.get _ _ hy
          refine ⟨z, ?_, h2⟩
          have : (⟨l2⟩ : Array Value)[i]? = some z := by simpa using h1
          simp only [Instr.extract, this]
          rfl
        · cases hv
    · cases hv
  · rename_i call ho
    exact cCall_sound ho hc hr hG hA hR
  · rename_i call ho
    split at hc
    · rename_i f hcal
      obtain ⟨g, hg, hc⟩ := with1_ok hc
      split at hc
      · rename_i l hl; cases hc
        have hf := con hg
        have ha := cOs_con (ds := ds) hG hA hl
        simp only [evC] at hr
        unfold opDefer at hr
        split at hr
        · rename_i fn first captured hfv
          split at hr
          · cases hr
            rw [hfv] at hf
            generalize hv : Act.eval ⟨tm, ds⟩ f = fv at hf
            cases hf with
            | func h1 h2 =>
              refine ⟨rfl, _, .call h2 (h1.append ha), ?_⟩
              have hargs : call.args.map (Act.eval ⟨tm, ds⟩) = ⟨call.args.toList.map (Act.eval ⟨tm, ds⟩)⟩ := by apply Array.ext'; simp
              simp only [execOp, ho, resolve, hcal, hv, Deferred.ofValue, Sem.run_bind, Sem.run_pure, Result.andThen_ok, hargs]
              simp
          · cases hr
        · cases hr
      · cases hc
    · cases hc
  · cases hc

end Go.Dr
