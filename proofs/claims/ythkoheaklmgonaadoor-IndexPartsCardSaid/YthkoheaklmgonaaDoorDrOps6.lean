/-
  One operation of the abstract run is the model's: indexes, fields, conversions, what is made.
-/
import Derived.Test.YthkoheaklmgonaaDoorDrOps5
namespace Go.Dr
open Go.RowKit

variable {P : Program} {B : Nat} {w0 w : World} {φ : Phi} {h h' : AH}

theorem con_ptr_add {id : Nat} {p : Pl} (hp : φ id = some p) (off n : Nat) : Con φ (.ptr id (off + n)) (.pointer (some ((⟨p.blk, p.off + off, none⟩ : Addr).add n))) := by
  rw [Addr.add_none, Nat.add_assoc]; exact .ptr hp

theorem opIdxA_ok {t e : TypeId} {n es : Nat} {x i v : AV} {x' i' : Value} (ht : und P t = .ok (.array n e)) (hs : szOf P e = .ok es) (hr : opIdxA n es x i = .ok v) (hx : Con φ x x') (hi : Con φ i i') :
    ∃ v', (Instr.indexAt t x' i').run P w = .ok v' w ∧ Con φ v v' := by
  unfold opIdxA at hr
  split at hr
  · split at hr
    · split at hr
      · rename_i hb; cases hr
        cases hi
        cases hx with
        | ptr hp =>
          refine ⟨_, ?_, con_ptr_add hp _ _⟩
          simp only [Instr.indexAt, asIntOf, Instr.sureAddr, Sem.run_bind, run_und ht, Result.andThen_ok, Sem.run_pure]
          rw [if_pos hb]
          simp only [Sem.run_bind, run_szOf hs, Result.andThen_ok, Sem.run_pure]
      · cases hr
    · cases hr
  · cases hr

theorem opIdxV_ok {t e : TypeId} {es : Nat} {x i v : AV} {x' i' : Value} (ht : und P t = .ok (.slice e)) (hs : szOf P e = .ok es) (hr : opIdxV es x i = .ok v) (hx : Con φ x x') (hi : Con φ i i') :
    ∃ v', (Instr.indexAt t x' i').run P w = .ok v' w ∧ Con φ v v' := by
  unfold opIdxV at hr
  split at hr
  · split at hr
    · split at hr
      · rename_i hes; subst hes
        split at hr
        · rename_i hb; cases hr
          cases hi
          cases hx with
          | @slice id off len cap c _ _ p ad hp hxx hc hl hrm =>
            rcases hrm with hz | ⟨hroom, had⟩
            · omega
            · subst had
              refine ⟨_, ?_, con_ptr_add hp _ _⟩
              simp only [Instr.indexAt, asIntOf, Sem.run_bind, run_und ht, Result.andThen_ok, Sem.run_pure]
              rw [if_pos hb]
              simp only [Sem.run_bind, run_szOf hs, Result.andThen_ok, Sem.run_pure]
        · cases hr
      · cases hr
    · cases hr
  · cases hr

theorem opIndex1_ok {t e : TypeId} {n es : Nat} {x i v : AV} {x' i' : Value} (ht : und P t = .ok (.array n e)) (ha : aggT P e = .ok false) (hs : szOf P e = .ok es) (hr : opIndex true n es x i = .ok v) (hx : Con φ x x') (hi : Con φ i i') :
    ∃ v', (Instr.index t x' i').run P w = .ok v' w ∧ Con φ v v' := by
  unfold opIndex at hr
  split at hr
  · split at hr
    · rename_i hb
      cases hi
      obtain ⟨l', v', rfl, hv, hc⟩ := aggOne_ok hr hx
      refine ⟨v', ?_, hc⟩
      simp only [Instr.index, asIntOf, Sem.run_bind, Sem.run_pure, run_und ht, Result.andThen_ok]
      rw [if_pos hb]
      simp only [Sem.run_bind, run_szOf hs, Result.andThen_ok]
      exact run_part_one ha (by simpa using hv)
    · cases hr
  · cases hr

theorem opIndexN_ok {t e : TypeId} {n es : Nat} {x i v : AV} {x' i' : Value} (ht : und P t = .ok (.array n e)) (ha : aggT P e = .ok true) (hs : szOf P e = .ok es) (hr : opIndex false n es x i = .ok v) (hx : Con φ x x') (hi : Con φ i i') :
    ∃ v', (Instr.index t x' i').run P w = .ok v' w ∧ Con φ v v' := by
  unfold opIndex at hr
  split at hr
  · split at hr
    · rename_i hb
      cases hi
      obtain ⟨l', rfl, hc⟩ := aggPart_ok hr hx
      refine ⟨_, ?_, hc⟩
      simp only [Instr.index, asIntOf, Sem.run_bind, Sem.run_pure, run_und ht, Result.andThen_ok]
      rw [if_pos hb]
      simp only [Sem.run_bind, run_szOf hs, Result.andThen_ok]
      exact run_part_agg ha hs
    · cases hr
  · cases hr

theorem opIndexS_ok {t : TypeId} {x i v : AV} {x' i' : Value} (ht : und P t = .ok .string) (hr : opIndexS x i = .ok v) (hx : Con φ x x') (hi : Con φ i i') :
    ∃ v', (Instr.index t x' i').run P w = .ok v' w ∧ Con φ v v' := by
  unfold opIndexS at hr
  split at hr
  · rename_i s
    split at hr
    · rename_i k i
      split at hr
      · rename_i h0
        split at hr
        · rename_i b hb; cases hr
          cases hx; cases hi
          refine ⟨.int .u8 b.toNat, ?_, .int _ _⟩
          simp only [Instr.index, asIntOf, Sem.run_bind, Sem.run_pure, run_und ht, Result.andThen_ok]
          rw [if_pos h0]
          have : (⟨⟨s⟩⟩ : ByteArray)[i.toNat]? = some b := by
            rw [List.getElem?_eq_some_iff] at hb
            obtain ⟨hlt, hb⟩ := hb
            have hsz : i.toNat < (⟨⟨s⟩⟩ : ByteArray).size := hlt
            rw [getElem?_pos (⟨⟨s⟩⟩ : ByteArray) i.toNat hsz, ← hb]; rfl
          rw [this]; rfl
        · cases hr
      · cases hr
    · cases hr
  · cases hr

theorem opFieldAddr_ok {s : TypeId} {fields : Array Field} {f : Nat} {fd : Field} {n : Nat} {x v : AV} {x' : Value} (ht : und P s = .ok (.struct fields)) (hf : fields[f]? = some fd) (hs : szOf P fd.type = .ok n) (hn : n ≠ 0)
    (hr : opFieldAddr fd.offset x = .ok v) (hx : Con φ x x') : ∃ v', (Instr.fieldAt s x' f).run P w = .ok v' w ∧ Con φ v v' := by
  unfold opFieldAddr at hr
  split at hr
  · cases hr
    cases hx with
    | ptr hp =>
      refine ⟨_, ?_, con_ptr_add hp _ _⟩
      simp only [Instr.fieldAt, Sem.run_bind, run_und ht, Result.andThen_ok, hf, Instr.sureAddr, Sem.run_pure, fieldPlace, run_szOf hs, if_neg hn]
  · cases hr

theorem field1_ok {t : TypeId} {fields : Array Field} {f : Nat} {fd : Field} {x v : AV} {x' : Value} (ht : und P t = .ok (.struct fields)) (hf : fields[f]? = some fd) (ha : aggT P fd.type = .ok false)
    (hr : aggOne x fd.offset = .ok v) (hx : Con φ x x') : ∃ v', (Instr.field t x' f).run P w = .ok v' w ∧ Con φ v v' := by
  obtain ⟨l', v', rfl, hv, hc⟩ := aggOne_ok hr hx
  refine ⟨v', ?_, hc⟩
  simp only [Instr.field, Sem.run_bind, run_und ht, Result.andThen_ok, hf, asAgg, Sem.run_pure]
  exact run_part_one ha (by simpa using hv)

theorem fieldN_ok {t : TypeId} {fields : Array Field} {f n : Nat} {fd : Field} {x v : AV} {x' : Value} (ht : und P t = .ok (.struct fields)) (hf : fields[f]? = some fd) (ha : aggT P fd.type = .ok true) (hs : szOf P fd.type = .ok n)
    (hr : aggPart x fd.offset n = .ok v) (hx : Con φ x x') : ∃ v', (Instr.field t x' f).run P w = .ok v' w ∧ Con φ v v' := by
  obtain ⟨l', rfl, hc⟩ := aggPart_ok hr hx
  refine ⟨_, ?_, hc⟩
  simp only [Instr.field, Sem.run_bind, run_und ht, Result.andThen_ok, hf, asAgg, Sem.run_pure]
  exact run_part_agg ha hs

/-! #### bytes -/

theorem bytesAV_con : ∀ (s : List UInt8), ConL φ (bytesAV s) (s.map fun b => Value.int .u8 b.toNat)
  | [] => .nil
  | _ :: s => .cons (.int _ _) (bytesAV_con s)

theorem avBytes_con : ∀ {l : List AV} {vs : List Value} {s : List UInt8}, avBytes l = .ok s → ConL φ l vs → ∃ ns : List Int, vs = ns.map (Value.int .u8) ∧ s = ns.map fun n => UInt8.ofNat n.toNat
  | _, _, _, h, .nil => by cases h; exact ⟨[], rfl, rfl⟩
  | _ :: _, _ :: _, s, h, .cons hc t => by
    unfold avBytes at h
    split at h
    · cases hc
      split at h
      · rename_i n _ r hr; cases h
        obtain ⟨ns, rfl, rfl⟩ := avBytes_con hr t
        exact ⟨n :: ns, rfl, rfl⟩
      · cases h
    · cases h

theorem push_bytes (l : List Int) : ∀ (r : ByteArray), l.foldl (fun r n => r.push (UInt8.ofNat n.toNat)) r = ⟨⟨r.data.toList ++ l.map fun n => UInt8.ofNat n.toNat⟩⟩ := by
  induction l with
  | nil => intro r; rcases r with ⟨⟨r⟩⟩; simp
  | cons n l ih => intro r; rw [List.foldl_cons, ih]; rcases r with ⟨⟨r⟩⟩; simp [ByteArray.push]

theorem conv_int_ok {s d : TypeId} {sd : TypeDesc} {k : IntKind} {x : AV} {x' : Value} {n : AN} (hs : und P s = .ok sd) (hd : und P d = .ok (.int k)) (hr : opConv (.int k) x h = .ok (n, h')) (hx : Con φ x x') (hR : Rel B w0 φ h w) :
    ∃ v, n = .value v ∧ ValOf P B w0 φ h (convert s d x') w v h' := by
  simp only [opConv] at hr
  split at hr
  · rename_i k0 i; cases hr; cases hx
    refine ⟨_, rfl, .pure hR ?_ (v' := .int k (k.wrap i)) (by rw [wrapF_eq]; exact .int _ _)⟩
    simp only [convert, Sem.run_bind, run_und hs, run_und hd, Result.andThen_ok]
    cases sd <;> rfl
  · cases hr

theorem conv_str_ok {s d : TypeId} {sd : TypeDesc} {x : AV} {x' : Value} {n : AN} (hs : und P s = .ok sd) (hd : und P d = .ok .string) (hsd : sd = .string ∨ ∃ k, sd = .int k) (hr : opConv .str x h = .ok (n, h')) (hx : Con φ x x') (hR : Rel B w0 φ h w) :
    ∃ v, n = .value v ∧ ValOf P B w0 φ h (convert s d x') w v h' := by
  simp only [opConv] at hr
  split at hr
  · rename_i k0 i; cases hr; cases hx
    refine ⟨_, rfl, .pure hR ?_ (v' := .string (Utf8.encode i)) ?_⟩
    · simp only [convert, Sem.run_bind, run_und hs, run_und hd, Result.andThen_ok]
      rcases hsd with rfl | ⟨k, rfl⟩ <;> rfl
    · cases Utf8.encode i with | mk b => rcases b with ⟨b⟩; exact .str _
  · cases hr; cases hx
    refine ⟨_, rfl, .pure hR ?_ (.str _)⟩
    simp only [convert, Sem.run_bind, run_und hs, run_und hd, Result.andThen_ok]
    rcases hsd with rfl | ⟨k, rfl⟩ <;> rfl
  · cases hr

theorem conv_strB_ok {s d e : TypeId} {x : AV} {x' : Value} {n : AN} (hs : und P s = .ok (.slice e)) (he : und P e = .ok (.int .u8)) (hd : und P d = .ok .string) (hr : opConv .strB x h = .ok (n, h')) (hx : Con φ x x') (hR : Rel B w0 φ h w) :
    ∃ v, n = .value v ∧ ValOf P B w0 φ h (convert s d x') w v h' := by
  simp only [opConv] at hr
  split at hr
  · cases hr; cases hx
    refine ⟨_, rfl, .pure hR ?_ (.str [])⟩
    simp only [convert, Sem.run_bind, run_und hs, run_und hd, run_und he, Result.andThen_ok]
    rfl
  · rename_i id off len cap xx es
    split at hr
    · rename_i hes; subst hes
      split at hr
      · rename_i l hl
        split at hr
        · rename_i s' hs'
          cases hr
          cases hx with
          | @slice _ _ _ _ c _ _ p ad hp hxx hc hlc hrm =>
            obtain ⟨vs, hlen, hcells, hcon⟩ := loadN_ok hl hR hp
            obtain ⟨ns, rfl, rfl⟩ := avBytes_con hs' hcon
            have hrun : (loadCells ad len).run P w = .ok (ns.map (Value.int .u8)).toArray w := by
              by_cases h0 : len = 0
              · subst h0
                have : ns = [] := by cases ns with | nil => rfl | cons _ _ => simp at hlen
                subst this
                simp [loadCells, loadCellsFrom]
              · rcases hrm with hz | ⟨_, had⟩
                · omega
                · subst had; exact run_loadCells_at hlen hcells
            refine ⟨_, rfl, .pure hR ?_ (.str _)⟩
            simp only [convert, Sem.run_bind, run_und hs, run_und hd, run_und he, Result.andThen_ok]
            rw [run_bytesToString w ad len c ns hrun, push_bytes]
            rfl
        · cases hr
      · cases hr
    · cases hr
  · cases hr

theorem conv_bytes_ok {s d e : TypeId} {x : AV} {x' : Value} {n : AN} (hs : und P s = .ok .string) (hd : und P d = .ok (.slice e)) (he : und P e = .ok (.int .u8)) (hr : opConv .bytes x h = .ok (n, h')) (hx : Con φ x x') (hR : Rel B w0 φ h w) :
    ∃ v, n = .value v ∧ ValOf P B w0 φ h (convert s d x') w v h' := by
  simp only [opConv] at hr
  split at hr
  · rename_i s'; cases hr; cases hx
    have hrun := run_bytes_of_string (P := P) w s d e ⟨⟨s'⟩⟩ (und_eq hs) (und_eq hd) (und_eq he)
    generalize hgc : grownCap w (⟨⟨s'⟩⟩ : ByteArray).size 0 e = c at hrun
    have hge : s'.length ≤ c := by rw [← hgc]; exact grownCap_ge w _ _ _
    have hrow : bytesRow (⟨⟨s'⟩⟩ : ByteArray) c = ⟨s'.map (fun b => Value.int .u8 b.toNat) ++ List.replicate (c - s'.length) (.int .u8 0)⟩ := by
      unfold bytesRow; apply Array.ext'; simp; rfl
    have hsz : (bytesRow (⟨⟨s'⟩⟩ : ByteArray) c).size = c := by rw [hrow]; simp; omega
    rw [hsz, hrow] at hrun
    have hp := push_cells (e := e) (rest := List.replicate (c - s'.length) (.int .u8 0)) hR.drew (bytesAV_con (φ := φ) s') c (c + 1) (by intro i hi'; simp at hi'; omega)
    refine ⟨_, rfl, _, _, _, hrun, ?_, hp, Ext.push hR _ _⟩
    refine .slice (Phi.set_same _ _ _) (fun e => by cases e) (by exact hge) (by exact hge) (.inr ⟨?_, by simp⟩)
    simp; omega
  · cases hr

end Go.Dr
