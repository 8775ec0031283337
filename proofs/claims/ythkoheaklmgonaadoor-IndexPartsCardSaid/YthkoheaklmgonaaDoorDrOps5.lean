/-
  One operation of the abstract run is the model's: conversions, cuts, indexes, fields, what is made.
-/
import Derived.Test.YthkoheaklmgonaaDoorDrOps4
import Derived.Laws.BytesString
import Derived.Laws.MakeOwn
import Derived.Laws.IdiomStrings
import Derived.Lib.Strings
namespace Go.Dr
open Go.RowKit

variable {P : Program} {B : Nat} {w0 w : World} {φ : Phi} {h h' : AH}

/-! #### bounds -/

theorem boundA_ok {v : AV} {v' : Value} {y y' n : Nat} {code : BoundsCode} (hr : boundA v y = .ok n) (hc : Con φ v v') (hy : y ≤ y') : n ≤ y ∧ (Instr.sliceBound v' y' code).run P w = .ok n w := by
  unfold boundA at hr
  split at hr
  · cases hc
    split at hr
    · rename_i i hi; cases hr
      refine ⟨by omega, ?_⟩
      simp only [Instr.sliceBound, asIntOf, Sem.run_bind, Sem.run_pure, Result.andThen_ok]
      rw [if_pos ⟨hi.1, by omega⟩]; rfl
    · cases hr
  · cases hr

inductive ConO (φ : Phi) : Option AV → Option Value → Prop
  | none : ConO φ none none
  | some {v : AV} {v' : Value} (h : Con φ v v') : ConO φ (some v) (some v')

theorem boundsA_ok {len cap c l hi m : Nat} {lo high mx : Option AV} {lo' high' mx' : Option Value} {b : Bool} (hr : boundsA len cap lo high mx = .ok (l, hi, m)) (hcap : cap ≤ c) (hlen : len ≤ c)
    (hl : ConO φ lo lo') (hh : ConO φ high high') (hm : ConO φ mx mx') :
    ∃ m', (Instr.sliceBounds b len c lo' high' mx').run P w = .ok (l, hi, m') w ∧ l ≤ hi ∧ hi ≤ m' ∧ m ≤ m' ∧ m' ≤ c ∧ (mx = none → m' = c ∧ m = cap) ∧ (mx.isSome = true → m' = m) := by
  unfold boundsA at hr
  split at hr
  · rename_i m0 hm0
    split at hr
    · rename_i hi0 hhi0
      split at hr
      · rename_i lo0 hlo0
        split at hr
        · cases hr
        · rename_i hne
          cases hr
          have key : ∃ m', (match mx' with | some v => Instr.sliceBound v c (if b then .slice3Acap else .slice3Alen) | none => (pure c : Sem Nat)).run P w = .ok m' w ∧ m ≤ m' ∧ m' ≤ c ∧ (mx = none → m' = c ∧ m = cap) ∧ (mx.isSome = true → m' = m) := by
            cases hm with
            | none => simp only [boundO] at hm0; cases hm0; exact ⟨c, by simp, hcap, Nat.le_refl _, fun _ => ⟨rfl, rfl⟩, fun e => by cases e⟩
            | some hm =>
              simp only [boundO] at hm0
              obtain ⟨h1, h2⟩ := boundA_ok (P := P) (w := w) (code := if b then .slice3Acap else .slice3Alen) hm0 hm hcap
              exact ⟨m, h2, Nat.le_refl _, by omega, fun e => (by cases e), fun _ => rfl⟩
          obtain ⟨m', k1, k2, k3, k4, k5⟩ := key
          have key2 : (match high', mx' with | some v, some _ => Instr.sliceBound v m' .slice3B | some v, none => Instr.sliceBound v m' (if b then .sliceAcap else .sliceAlen) | none, none => (pure len : Sem Nat) | none, some _ => stuck "Slice: max without high").run P w = .ok hi w ∧ hi ≤ m' := by
            cases hh with
            | none =>
              simp only [boundO] at hhi0; cases hhi0
              cases hm with
              | none => exact ⟨by simp, by rw [(k4 rfl).1]; exact hlen⟩
              | some _ => simp at hne
            | some hh =>
              simp only [boundO] at hhi0
              cases hm with
              | none => obtain ⟨h1, h2⟩ := boundA_ok (P := P) (w := w) (code := if b then .sliceAcap else .sliceAlen) hhi0 hh k2; exact ⟨h2, by omega⟩
              | some _ => obtain ⟨h1, h2⟩ := boundA_ok (P := P) (w := w) (code := .slice3B) hhi0 hh k2; exact ⟨h2, by omega⟩
          have key3 : (match lo' with | some v => Instr.sliceBound v hi (if mx'.isSome then .slice3C else .sliceB) | none => (pure 0 : Sem Nat)).run P w = .ok l w ∧ l ≤ hi := by
            cases hl with
            | none => simp only [boundO] at hlo0; cases hlo0; exact ⟨by simp, Nat.zero_le _⟩
            | some hl =>
              simp only [boundO] at hlo0
              obtain ⟨h1, h2⟩ := boundA_ok (P := P) (w := w) (code := if mx'.isSome then .slice3C else .sliceB) hlo0 hl (Nat.le_refl _)
              exact ⟨h2, h1⟩
          refine ⟨m', ?_, key3.2, key2.2, k2, k3, k4, k5⟩
          obtain ⟨key2, _⟩ := key2
          obtain ⟨key3, _⟩ := key3
          clear hl hh hm hlo0 hm0 hhi0 hne k4 k5
          unfold Instr.sliceBounds
          cases mx' <;> cases high' <;> cases lo' <;> simp only [Option.isSome_some, Option.isSome_none, if_true, Bool.false_eq_true, if_false] at k1 key2 key3 ⊢ <;>
            first
            | (simp only [Sem.run_bind, k1, key2, key3, Result.andThen_ok, Sem.run_pure]; done)
            | (simp at key2; done)
            | (simp only [Sem.run_pure, Result.ok.injEq, and_true] at k1 key2 key3; subst_vars; simp only [Sem.run_bind, *, Result.andThen_ok, Sem.run_pure])
      · cases hr
    · cases hr
  · cases hr

theorem opSliceS_ok {t : TypeId} {x v : AV} {x' : Value} {lo hi : Option AV} {lo' hi' : Option Value} (ht : und P t = .ok .string) (hr : opSliceS x lo hi = .ok v) (hx : Con φ x x') (hl : ConO φ lo lo') (hh : ConO φ hi hi') :
    ∃ v', (Instr.sliceAt t x' lo' hi' none).run P w = .ok v' w ∧ Con φ v v' := by
  unfold opSliceS at hr
  split at hr
  · rename_i s
    split at hr
    · rename_i l h0 m hb
      cases hr; cases hx
      obtain ⟨m', h1, h2, h3, h4, h5, h6, h7⟩ := boundsA_ok (P := P) (w := w) (b := false) hb (Nat.le_refl s.length) (Nat.le_refl _) hl hh .none
      have hsz : (⟨⟨s⟩⟩ : ByteArray).size = s.length := rfl
      refine ⟨.string ⟨⟨(s.drop l).take (h0 - l)⟩⟩, ?_, .str _⟩
      simp only [Instr.sliceAt, Instr.slice, Sem.run_bind, run_und ht, Result.andThen_ok, Option.isSome_none, Bool.false_eq_true, if_false, hsz, h1, Sem.run_pure]
      congr 2
      have := Lib.extract_data ⟨⟨s⟩⟩ l h0
      cases e : (⟨⟨s⟩⟩ : ByteArray).extract l h0 with
      | mk d => rw [e] at this; rcases d with ⟨d⟩; simp at this; subst this; rfl
    · cases hr
  · cases hr

theorem opSliceV_ok {t e : TypeId} {es : Nat} {x v : AV} {x' : Value} {lo hi mx : Option AV} {lo' hi' mx' : Option Value} (ht : und P t = .ok (.slice e)) (hs : szOf P e = .ok es) (hr : opSliceV es x lo hi mx = .ok v) (hx : Con φ x x')
    (hl : ConO φ lo lo') (hh : ConO φ hi hi') (hm : ConO φ mx mx') : ∃ v', (Instr.sliceAt t x' lo' hi' mx').run P w = .ok v' w ∧ Con φ v v' := by
  unfold opSliceV at hr
  split at hr
  · split at hr
    · rename_i q hb; rcases q with ⟨l, h0, m⟩
      cases hr; cases hx
      · obtain ⟨m', h1, h2, h3, h4, h5, h6, h7⟩ := boundsA_ok (P := P) (w := w) (b := true) hb (Nat.le_refl 0) (Nat.le_refl _) hl hh hm
        refine ⟨.slice none 0 0, ?_, .nils⟩
        obtain rfl : m' = 0 := by omega
        obtain rfl : h0 = 0 := by omega
        obtain rfl : l = 0 := by omega
        simp only [Instr.sliceAt, Instr.slice, Sem.run_bind, run_und ht, Result.andThen_ok, h1, run_szOf hs, Sem.run_pure]
        rfl
    · cases hr
  · rename_i id off len cap xx es'
    split at hr
    · rename_i hes; subst hes
      split at hr
      · rename_i l h0 m hb
        cases hr
        cases hx with
        | @slice _ _ _ _ c _ _ p ad hp hx hc hlc hrm =>
          obtain ⟨m', h1, h2, h3, h4, h5, h6, h7⟩ := boundsA_ok (P := P) (w := w) (b := true) hb hc hlc hl hh hm
          refine ⟨.slice (some (if m' = l then ad else ad.add (l * es))) (h0 - l) (m' - l), ?_, ?_⟩
          · simp only [Instr.sliceAt, Instr.slice, Sem.run_bind, run_und ht, Result.andThen_ok, h1, run_szOf hs, Sem.run_pure]
            split <;> rfl
          · refine .slice hp (fun hxx => ?_) (by omega) (by omega) ?_
            · cases hmx : mx.isSome with
              | true => rw [h7 hmx]
              | false =>
                rw [hmx, Bool.or_false] at hxx
                have e1 := hx hxx
                have e2 := h6 (by cases mx <;> simp_all)
                omega
            · by_cases hml : m' = l
              · left; omega
              · right
                rcases hrm with hz | ⟨hroom, had⟩
                · omega
                · rw [if_neg hml, had, Addr.add_none]
                  refine ⟨?_, by rw [Nat.add_assoc]⟩
                  have : off + l * es + (m' - l) * es = off + m' * es := by
                    rw [Nat.add_assoc, ← Nat.add_mul]; congr 2; omega
                  rw [this]
                  have := Nat.mul_le_mul_right es h5
                  omega
      · cases hr
    · cases hr
  · cases hr

theorem opSliceA_ok {t e : TypeId} {n es : Nat} {x v : AV} {x' : Value} {lo hi mx : Option AV} {lo' hi' mx' : Option Value} (ht : und P t = .ok (.array n e)) (hs : szOf P e = .ok es) (hr : opSliceA n es h x lo hi mx = .ok v) (hx : Con φ x x')
    (hR : Rel B w0 φ h w) (hl : ConO φ lo lo') (hh : ConO φ hi hi') (hm : ConO φ mx mx') : ∃ v', (Instr.sliceAt t x' lo' hi' mx').run P w = .ok v' w ∧ Con φ v v' := by
  unfold opSliceA at hr
  split at hr
  · rename_i id off
    split at hr
    · rename_i vs ro hg
      cases hb0 : Nat.ble (off + n * es) vs.length with
      | false => rw [hb0] at hr; cases hr
      | true =>
        rw [hb0] at hr
        have hle : off + n * es ≤ vs.length := Nat.le_of_ble_eq_true hb0
        simp only [cond_true] at hr
        split at hr
        · rename_i l h0 m hb
          cases hr
          cases hx with
          | @ptr _ _ p hp =>
            obtain ⟨c, _, _, _, _, hroom, _⟩ := hR.obj _ _ _ hp hg
            obtain ⟨m', h1, h2, h3, h4, h5, h6, h7⟩ := boundsA_ok (P := P) (w := w) (b := false) hb (Nat.le_refl n) (Nat.le_refl n) hl hh hm
            have hmm : m' = m := by
              cases hmx : mx with
              | none => have := h6 hmx; omega
              | some q => exact h7 (by rw [hmx]; rfl)
            subst hmm
            refine ⟨.slice (some (if m' = l then ⟨p.blk, p.off + off, none⟩ else (⟨p.blk, p.off + off, none⟩ : Addr).add (l * es))) (h0 - l) (m' - l), ?_, ?_⟩
            · simp only [Instr.sliceAt, Instr.sureAddr, Sem.run_bind, run_und ht, Result.andThen_ok, h1, run_szOf hs, Sem.run_pure]
            · refine .slice hp (fun _ => rfl) (Nat.le_refl _) (by omega) ?_
              by_cases hml : m' = l
              · left; omega
              · right
                rw [if_neg hml, Addr.add_none]
                refine ⟨?_, by rw [Nat.add_assoc]⟩
                have : off + l * es + (m' - l) * es = off + m' * es := by
                  rw [Nat.add_assoc, ← Nat.add_mul]; congr 2; omega
                rw [this]
                have := Nat.mul_le_mul_right es h5
                omega
        · cases hr
    · cases hr
  · cases hr

end Go.Dr
