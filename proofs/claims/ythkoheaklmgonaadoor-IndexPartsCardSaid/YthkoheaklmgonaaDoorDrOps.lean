/-
  One operation of the abstract run is the model's.
-/
import Derived.Test.YthkoheaklmgonaaDoorDrRel
namespace Go.Dr
open Go.RowKit

structure ActRel (φ : Phi) (a : AAct) (tm : Array Value) : Prop where
  size : tm.size = a.n
  val : ∀ i, Con φ (a.val i) (tm.getD i undef)

theorem ActRel.mono {φ ψ : Phi} (hle : φ.le ψ) {a : AAct} {tm : Array Value} (h : ActRel φ a tm) : ActRel ψ a tm := ⟨h.size, fun i => (h.val i).mono hle⟩

def GlobRel (P : Program) (φ : Phi) : Prop := ∀ g, g < P.globals.size → ∃ room, φ g = some ⟨g, 0, room⟩
theorem GlobRel.mono {P : Program} {φ ψ : Phi} (hle : φ.le ψ) (h : GlobRel P φ) : GlobRel P ψ := fun g hg => let ⟨r, e⟩ := h g hg; ⟨r, hle _ _ e⟩

section basics
variable {P : Program} {φ : Phi} {w : World}

theorem run_und {t : TypeId} {d : TypeDesc} (h : und P t = .ok d) : (underlying t).run P w = .ok d w := by
  unfold und ofO at h
  split at h
  · rename_i x hx; cases h; simp [underlying, hx]
  · cases h
theorem und_eq {t : TypeId} {d : TypeDesc} (h : und P t = .ok d) : P.underlying t = some d := by
  unfold und ofO at h
  split at h
  · rename_i x hx; cases h; exact hx
  · cases h
theorem run_info {t : TypeId} {i : TypeInfo} (h : P.info? t = some i) : (typeInfo t).run P w = .ok i w := by simp [typeInfo, h]
theorem szOf_info {t : TypeId} {n : Nat} (h : szOf P t = .ok n) : ∃ i, P.info? t = some i ∧ i.size = n := by
  unfold szOf at h; split at h
  · cases h; exact ⟨_, by assumption, rfl⟩
  · cases h
theorem byOf_info {t : TypeId} {n : Nat} (h : byOf P t = .ok n) : ∃ i, P.info? t = some i ∧ i.bytes = n := by
  unfold byOf at h; split at h
  · cases h; exact ⟨_, by assumption, rfl⟩
  · cases h
theorem run_szOf {t : TypeId} {n : Nat} (h : szOf P t = .ok n) : (sizeOf t).run P w = .ok n w := by
  obtain ⟨i, hi, rfl⟩ := szOf_info h
  simp [sizeOf, run_info hi]

theorem mapR_toAV {d : Nat} (ih : ∀ {v : Value} {a : AV}, toAV d v = .ok a → Con φ a v) : ∀ {vs : List Value} {l : List AV}, mapR (toAV d) vs = .ok l → ConL φ l vs
  | [], _, h => by cases h; exact .nil
  | v :: vs, l, h => by
    unfold mapR at h
    split at h
    · rename_i a ha
      split at h
      · rename_i as has; cases h; exact .cons (ih ha) (mapR_toAV ih has)
      · cases h
    · cases h

theorem toAVf_con {fn : Fn} {x y : Array Value} {a : AV} (h : toAVf fn x y = .ok a) : Con φ a (.func fn x y) := by
  unfold toAVf at h
  split at h
  · rcases x with ⟨x⟩; rcases y with ⟨y⟩
    cases x <;> cases y <;> simp at h
    subst h; exact .func .nil .nil
  · cases h

theorem toAV_con : ∀ {d : Nat} {v : Value} {a : AV}, toAV d v = .ok a → Con φ a v
  | 0, _, _, h => by cases h
  | d + 1, v, a, h => by
    unfold toAV at h
    split at h
    all_goals first
      | (cases h; done)
      | (cases h; first | exact .bool _ | exact .int _ _ | exact .nilp | exact .nils | exact .nilm | exact .nilf | exact .nili)
      | (cases h; rename_i s; rcases s with ⟨⟨s⟩⟩; exact .str s)
      | exact toAVf_con h
      | skip
    · split at h
      · rename_i a' ha; cases h; exact .iface (toAV_con ha)
      · cases h
    · split at h
      · rename_i cs _ l hl; rcases cs with ⟨cs⟩; cases h; exact .agg (mapR_toAV toAV_con hl)
      · cases h
    · split at h
      · rename_i cs _ l hl; rcases cs with ⟨cs⟩; cases h; exact .tuple (mapR_toAV toAV_con hl)
      · cases h

theorem run_zero {t : TypeId} {z : AV} (h : zeroAV P t = .ok z) : ∃ z', (zeroValue t).run P w = .ok z' w ∧ ∀ φ, Con φ z z' := by
  unfold zeroAV at h
  split at h
  · rename_i i hi
    split at h
    · rename_i v hv
      exact ⟨v, by simp [zeroValue, run_info hi, hv], fun φ => toAV_con h⟩
    · cases h
  · cases h

theorem zero_info {t : TypeId} {z : AV} (h : zeroAV P t = .ok z) : ∃ i z', P.info? t = some i ∧ i.zero = some z' ∧ ∀ φ, Con φ z z' := by
  unfold zeroAV at h
  split at h
  · rename_i i hi
    split at h
    · rename_i v hv
      exact ⟨i, v, hi, hv, fun φ => toAV_con h⟩
    · cases h
  · cases h

theorem run_aggT {t : TypeId} {b : Bool} (h : aggT P t = .ok b) : (isAgg t).run P w = .ok b w := by
  unfold aggT at h
  split at h
  · cases h; rename_i h; simp [isAgg, underlying, h]
  · cases h; rename_i h; simp [isAgg, underlying, h]
  · cases h; rename_i d h1 h2 hd
    simp only [isAgg, underlying, Sem.run_bind, run_program, Result.andThen_ok, hd, Sem.run_pure]
  · cases h

theorem cO_con {x : Operand} {c : CO} {a : AAct} {tm : Array Value} {ds : List Deferred} (h : cO P x = .ok c) (hG : GlobRel P φ) (hA : ActRel φ a tm) : Con φ (c.ev a) (Act.eval ⟨tm, ds⟩ x) := by
  cases x with
  | tmp t => cases h; exact hA.val _
  | const v =>
    simp only [cO] at h
    split at h
    · rename_i hv; cases h; exact toAV_con hv
    · cases h
  | global g =>
    simp only [cO] at h
    cases hlt : Nat.blt g P.globals.size with
    | false => rw [hlt] at h; cases h
    | true =>
      rw [hlt] at h; cases h
      have hg : g < P.globals.size := by simpa [Nat.blt_eq] using hlt
      obtain ⟨room, e⟩ := hG _ hg
      exact Con.ptr (off := 0) e
  | func f => cases h; exact .func .nil .nil

theorem with1_ok {α : Type} {x : Operand} {f : CO → R α} {r : α} (h : with1 P x f = .ok r) : ∃ c, cO P x = .ok c ∧ f c = .ok r := by
  unfold with1 at h; split at h
  · exact ⟨_, by assumption, h⟩
  · cases h
theorem with2_ok {α : Type} {x y : Operand} {f : CO → CO → R α} {r : α} (h : with2 P x y f = .ok r) : ∃ c d, cO P x = .ok c ∧ cO P y = .ok d ∧ f c d = .ok r := by
  obtain ⟨c, hc, h⟩ := with1_ok h
  obtain ⟨d, hd, h⟩ := with1_ok h
  exact ⟨c, d, hc, hd, h⟩
theorem with3_ok {α : Type} {x y z : Operand} {f : CO → CO → CO → R α} {r : α} (h : with3 P x y z f = .ok r) : ∃ c d e, cO P x = .ok c ∧ cO P y = .ok d ∧ cO P z = .ok e ∧ f c d e = .ok r := by
  obtain ⟨c, hc, h⟩ := with1_ok h
  obtain ⟨d, hd, h⟩ := with1_ok h
  obtain ⟨e, he, h⟩ := with1_ok h
  exact ⟨c, d, e, hc, hd, he, h⟩

theorem cOs_con {a : AAct} {tm : Array Value} {ds : List Deferred} (hG : GlobRel P φ) (hA : ActRel φ a tm) : ∀ {l : List Operand} {cs : List CO}, cOs P l = .ok cs → ConL φ (evL a cs) (l.map (Act.eval ⟨tm, ds⟩))
  | [], _, h => by cases h; exact .nil
  | x :: l, cs, h => by
    unfold cOs mapR at h
    split at h
    · rename_i c hc
      split at h
      · rename_i bs hb; cases h
        exact .cons (cO_con hc hG hA) (cOs_con hG hA hb)
      · cases h
    · cases h

theorem cOO_con {a : AAct} {tm : Array Value} {ds : List Deferred} (hG : GlobRel P φ) (hA : ActRel φ a tm) {x : Option Operand} {c : Option CO} (h : cOO P x = .ok c) :
    (x = none ∧ c = none) ∨ ∃ y d, x = some y ∧ c = some d ∧ Con φ (d.ev a) (Act.eval ⟨tm, ds⟩ y) := by
  unfold cOO at h
  split at h
  · cases h; exact .inl ⟨rfl, rfl⟩
  · rename_i y
    split at h
    · rename_i d hd; cases h; exact .inr ⟨y, d, rfl, rfl, cO_con hd hG hA⟩
    · cases h

end basics

/-! ### what an operation comes to -/

variable {P : Program} {B : Nat} {w0 w : World} {φ : Phi} {h h' : AH}

def ValOf (P : Program) (B : Nat) (w0 : World) (φ : Phi) (h : AH) (s : Sem Value) (w : World) (v : AV) (h' : AH) : Prop :=
  ∃ v' w' φ', s.run P w = .ok v' w' ∧ Con φ' v v' ∧ Rel B w0 φ' h' w' ∧ Ext φ h φ' h'

theorem ValOf.pure {s : Sem Value} {v : AV} {v' : Value} (hR : Rel B w0 φ h w) (hs : s.run P w = .ok v' w) (hc : Con φ v v') : ValOf P B w0 φ h s w v h :=
  ⟨v', w, φ, hs, hc, hR, .refl _ _⟩

theorem keepH_ok {r : R AV} {n : AN} (hr : keepH h r = .ok (n, h')) : ∃ v, r = .ok v ∧ n = .value v ∧ h' = h := by
  unfold keepH at hr; split at hr
  · cases hr; exact ⟨_, rfl, rfl, rfl⟩
  · cases hr

/-! #### loads and stores -/

theorem load1_ok {id off : Nat} {v : AV} {p : Pl} (hl : load1 h id off = .ok v) (hR : Rel B w0 φ h w) (hp : φ id = some p) :
    ∃ v', w.cell? ⟨p.blk, p.off + off, none⟩ = some v' ∧ Con φ v v' := by
  unfold load1 at hl
  split at hl
  · rename_i vs ro hg
    obtain ⟨c, e, lo, hi, h1, h2, h3, h4, h5⟩ := hR.obj _ _ _ hp hg
    split at hl
    · rename_i x hx; cases hl
      obtain ⟨y, hy, hc⟩ := h4 _ _ hx
      exact ⟨y, by rw [cell?_of h1]; exact hy, hc⟩
    · cases hl
  · cases hl

theorem loadN_ok {id off n : Nat} {l : List AV} {p : Pl} (hl : loadN h id off n = .ok l) (hR : Rel B w0 φ h w) (hp : φ id = some p) :
    ∃ vs : List Value, vs.length = n ∧ (∀ j v, vs[j]? = some v → w.cell? ⟨p.blk, p.off + off + j, none⟩ = some v) ∧ ConL φ l vs := by
  unfold loadN at hl
  split at hl
  · rename_i vs ro hg
    obtain ⟨c, e, lo, hi, h1, h2, h3, h4, h5⟩ := hR.obj _ _ _ hp hg
    cases hb : Nat.ble (off + n) vs.length with
    | false => rw [hb] at hl; cases hl
    | true =>
      rw [hb] at hl
      have hle : off + n ≤ vs.length := Nat.le_of_ble_eq_true hb
      cases hl
      have hsz : p.off + off + n ≤ c.size := by omega
      have key : ∀ (i : Nat) (x : AV), ((vs.drop off).take n)[i]? = some x → ∃ y, ((c.toList.drop (p.off + off)).take n)[i]? = some y ∧ Con φ x y := by
        intro i x hx
        rw [List.getElem?_take] at hx ⊢
        split at hx
        · rename_i hi'
          rw [if_pos hi']
          rw [List.getElem?_drop] at hx ⊢
          obtain ⟨y, hy, hc⟩ := h4 _ _ hx
          exact ⟨y, by rw [Array.getElem?_toList, ← hy]; congr 1; omega, hc⟩
        · cases hx
      refine ⟨(c.toList.drop (p.off + off)).take n, by simp; omega, fun j v hv => ?_, ConL.of_get (by simp; omega) key⟩
      rw [List.getElem?_take] at hv
      split at hv
      · rw [List.getElem?_drop, Array.getElem?_toList] at hv
        rw [cell?_of h1]; exact hv
      · cases hv
  · cases hl

theorem splice_get (vs l : List AV) (off i : Nat) (hle : off + l.length ≤ vs.length) : (splice vs off l)[i]? = if off ≤ i ∧ i < off + l.length then l[i - off]? else vs[i]? := by
  unfold splice
  by_cases h1 : i < off
  · rw [List.getElem?_append_left (by simp; omega), if_neg (by omega), List.getElem?_take, if_pos h1]
  · rw [List.getElem?_append_right (by simp; omega)]
    have e : (vs.take off).length = off := by simp; omega
    rw [e]
    by_cases h2 : i < off + l.length
    · rw [if_pos (by omega), List.getElem?_append_left (by omega)]
    · rw [if_neg (by omega), List.getElem?_append_right (by omega), List.getElem?_drop]; congr 1; omega

theorem splice_length (vs l : List AV) (off : Nat) (hle : off + l.length ≤ vs.length) : (splice vs off l).length = vs.length := by
  unfold splice; simp; omega

theorem allScalar_con : ∀ {l : List AV} {vs : List Value}, allScalar l = true → ConL φ l vs → ∀ v ∈ vs, v.oneCell' = true
  | _, _, _, .nil => by simp
  | _, _, hs, .cons hc t => by
    simp only [allScalar, Bool.and_eq_true] at hs
    intro v hv
    rcases List.mem_cons.1 hv with rfl | hv
    · exact hc.scalar hs.1
    · exact allScalar_con hs.2 t v hv

theorem storeN_ok {id off : Nat} {l : List AV} {vs : List Value} {p : Pl} (hl : storeN h id off l = .ok h') (hR : Rel B w0 φ h w) (hp : φ id = some p) (hc : ConL φ l vs) :
    ∃ w', (storeCells ⟨p.blk, p.off + off, none⟩ vs).run P w = .ok () w' ∧ Rel B w0 φ h' w' ∧ Ext φ h φ h' := by
  cases hc with
  | nil => cases hl; exact ⟨w, by simp [storeCells], hR, .refl _ _⟩
  | @cons a v l l' hcv ht =>
    have hcL : ConL φ (a :: l) (v :: l') := .cons hcv ht
    simp only [storeN] at hl
    split at hl
    · rename_i old hg
      have hlen := hcL.length
      cases hb : (Nat.ble (off + (a :: l).length) old.length && allScalar (a :: l)) with
      | false => rw [hb] at hl; cases hl
      | true =>
        rw [hb] at hl; cases hl
        rw [Bool.and_eq_true] at hb
        have hle : off + (a :: l).length ≤ old.length := Nat.le_of_ble_eq_true hb.1
        obtain ⟨c, e, lo, hi, h1, h2, h3, h4, h5⟩ := hR.obj _ _ _ hp hg
        have hsz : p.off + off + (v :: l').length ≤ c.size := by rw [← hlen]; omega
        have hrun := run_storeCells_at (P := P) (v :: l') (p.off + off) 0 w c h1 (by omega)
          (fun j ha hb' => h5 rfl j (by omega) (by rw [← hlen] at hb'; omega)) (allScalar_con hb.2 hcL)
        obtain ⟨c', g1, g2, g3⟩ := putCells_heap (v :: l') (p.off + off) w c h1
        refine ⟨_, hrun, ?_, .write hp _⟩
        refine hR.write hp hg rfl rfl (putCells_below (hR.own _ _ _ hp hg rfl) _ _ _) (fun k hk => putCells_other _ _ _ _ hk) ?_
        refine ⟨c', e, lo, hi, g1, by rw [splice_length _ _ _ hle]; exact h2, by rw [g2]; exact h3, fun i x hx => ?_, h5⟩
        rw [splice_get _ _ _ _ hle] at hx
        rw [g3]
        by_cases hin : off ≤ i ∧ i < off + (a :: l).length
        · rw [if_pos hin] at hx
          obtain ⟨y, hy, hcy⟩ := hcL.get _ _ hx
          refine ⟨y, ?_, hcy⟩
          rw [if_pos (by rw [← hlen]; omega), ← hy]; congr 1; omega
        · rw [if_neg hin] at hx
          obtain ⟨y, hy, hcy⟩ := h4 _ _ hx
          refine ⟨y, ?_, hcy⟩
          rw [if_neg (by rw [← hlen]; omega), hy]
    · cases hl

/-- new cells, and room behind them -/
theorem push_cells {e : TypeId} {l : List AV} {vs rest : List Value} (hR : Rel B w0 φ h w) (hc : ConL φ l vs) (lo hi : Nat) (hf : ∀ i, i < vs.length + rest.length → ¬ (lo ≤ i ∧ i < hi)) :
    Rel B w0 (φ.set h.next ⟨w.heap.size, 0, vs.length + rest.length⟩) (h.push (.cells l false)) (w.alloc (.cells ⟨vs ++ rest⟩ e (lo, hi))) := by
  refine hR.push ⟨⟨vs ++ rest⟩, e, lo, hi, ?_, ?_, ?_, fun i x hx => ?_, fun _ i _ hi' => ?_⟩
  · show (w.heap.push _)[w.heap.size]? = _; simp
  · rw [hc.length]; show _ ≤ vs.length + rest.length; omega
  · simp
  · obtain ⟨y, hy, hcy⟩ := hc.get _ _ hx
    refine ⟨y, ?_, hcy.mono (Phi.le_set _ hR.fresh)⟩
    show (⟨vs ++ rest⟩ : Array Value)[0 + i]? = _
    rw [Nat.zero_add, List.getElem?_toArray]
    rw [List.getElem?_append_left]
    · exact hy
    · exact (List.getElem?_eq_some_iff.1 hy).1
  · simp only [Nat.zero_add] at hi'; exact hf _ hi'

theorem push_cells0 {e : TypeId} {l : List AV} {vs : List Value} (hR : Rel B w0 φ h w) (hc : ConL φ l vs) :
    Rel B w0 (φ.set h.next ⟨w.heap.size, 0, vs.length⟩) (h.push (.cells l false)) (w.alloc (.cells ⟨vs⟩ e)) := by
  refine hR.push ⟨⟨vs⟩, e, 0, 0, ?_, ?_, ?_, fun i x hx => ?_, fun _ i _ hi' => ?_⟩
  · show (w.heap.push _)[w.heap.size]? = _; simp
  · exact Nat.le_of_eq hc.length
  · simp
  · obtain ⟨y, hy, hcy⟩ := hc.get _ _ hx
    refine ⟨y, ?_, hcy.mono (Phi.le_set _ hR.fresh)⟩
    show (⟨vs⟩ : Array Value)[0 + i]? = _
    rw [Nat.zero_add, List.getElem?_toArray]; exact hy
  · omega

theorem new_ok {e : TypeId} {l : List AV} {v' : Value} (hR : Rel B w0 φ h w) (hc : ConL φ l v'.cells.toList) {s : Sem Value}
    (hs : s.run P w = .ok (.pointer (some ⟨w.heap.size, 0, none⟩)) (w.alloc (.cells v'.cells e))) : ValOf P B w0 φ h s w (.ptr h.next 0) (h.push (.cells l false)) := by
  have := push_cells0 (e := e) hR hc
  exact ⟨_, _, _, hs, Con.ptr (off := 0) (Phi.set_same _ _ _), this, Ext.push hR _ _⟩

end Go.Dr
