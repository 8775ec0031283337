/-
  Regions whose order is drawn: what an operation reads, and what kind it is of.
-/
import Derived.Test.YthkoheaklmgonaaDoorDrDraw1
namespace Go.Dr
open Go.RowKit

variable {P : Program} {B : Nat} {w0 w w' : World} {φ φ' : Phi} {h h' : AH} {a a' : AAct}

theorem CO.ev_congr {x : CO} (hx : ∀ t ∈ x.reads, a.val t = a'.val t) : x.ev a = x.ev a' := by
  cases x with
  | t i => exact hx i (by simp [CO.reads])
  | c v => rfl

theorem evL_congr : ∀ {l : List CO}, (∀ t ∈ readsL l, a.val t = a'.val t) → evL a l = evL a' l
  | [], _ => rfl
  | x :: l, hx => by
    simp only [readsL, List.mem_append] at hx
    rw [evL, evL, CO.ev_congr fun t ht => hx t (.inl ht), evL_congr fun t ht => hx t (.inr ht)]

theorem evOO_congr {x : Option CO} (hx : ∀ t ∈ readsO x, a.val t = a'.val t) : evOO a x = evOO a' x := by
  cases x with
  | none => rfl
  | some x => simp only [evOO]; rw [CO.ev_congr hx]

theorem fillA_congr : ∀ {pl : List (Nat × Nat × CO)} {z : List AV}, (∀ t ∈ readsP pl, a.val t = a'.val t) → fillA a z pl = fillA a' z pl
  | [], _, _ => rfl
  | (o, s, x) :: pl, z, hx => by
    simp only [readsP, List.mem_append] at hx
    simp only [fillA]
    rw [CO.ev_congr fun t ht => hx t (.inl ht)]
    simp only [fillA_congr (pl := pl) fun t ht => hx t (.inr ht)]

theorem evC_congr {c : COp} (hx : ∀ t ∈ c.reads, a.val t = a'.val t) : evC P c a h = evC P c a' h := by
  cases c <;> simp only [COp.reads, List.mem_append] at hx <;> simp only [evC, opBuild, opBuildSlice] <;>
    first
      | rfl
      | rw [CO.ev_congr hx]
      | rw [evOO_congr hx]
      | rw [fillA_congr hx]
      | rw [CO.ev_congr fun t ht => hx t (.inl ht), CO.ev_congr fun t ht => hx t (.inr ht)]
      | rw [CO.ev_congr fun t ht => hx t (.inl ht), evL_congr fun t ht => hx t (.inr ht)]
      | rw [evL_congr fun t ht => hx t (.inl ht), evL_congr fun t ht => hx t (.inr ht)]
      | rw [CO.ev_congr fun t ht => hx t (.inl ht), CO.ev_congr fun t ht => hx t (.inr (.inl ht)), CO.ev_congr fun t ht => hx t (.inr (.inr ht))]
      | rw [CO.ev_congr fun t ht => hx t (.inl ht), evOO_congr fun t ht => hx t (.inr (.inl ht)), evOO_congr fun t ht => hx t (.inr (.inr ht))]
      | rw [CO.ev_congr fun t ht => hx t (.inl ht), evOO_congr fun t ht => hx t (.inr (.inl ht)), evOO_congr fun t ht => hx t (.inr (.inr (.inl ht))), evOO_congr fun t ht => hx t (.inr (.inr (.inr ht)))]

theorem keepH_pure {r : R AV} {n : AN} (hr : keepH h r = .ok (n, h')) : ∃ v, n = .value v ∧ h' = h ∧ ∀ H, keepH H r = .ok (.value v, H) := by
  obtain ⟨v, h1, h2, h3⟩ := keepH_ok hr
  exact ⟨v, h2, h3, fun H => by rw [h1]; rfl⟩

theorem okV_pure {v : AV} {n : AN} (hr : okV v h = .ok (n, h')) : ∃ v', n = .value v' ∧ h' = h ∧ ∀ H, okV v H = .ok (.value v', H) := by
  cases hr; exact ⟨_, rfl, rfl, fun _ => rfl⟩

theorem nilCheck_pure {x : AV} {n : AN} (hr : opNilCheck x h = .ok (n, h')) : ∃ v', n = .value v' ∧ h' = h ∧ ∀ H, opNilCheck x H = .ok (.value v', H) := by
  unfold opNilCheck at hr ⊢
  split at hr
  · exact okV_pure hr
  · exact okV_pure hr
  · exact okV_pure hr
  · split at hr
    · exact okV_pure hr
    · exact okV_pure hr
    · cases hr
  · cases hr

theorem pure_ok {c : COp} {n : AN} (hk : c.kind = .pure) (hr : evC P c a h = .ok (n, h')) : ∃ v, n = .value v ∧ h' = h ∧ ∀ H, evC P c a H = .ok (.value v, H) := by
  cases c <;> simp only [COp.kind] at hk <;> simp only [evC] at hr ⊢ <;>
    first
      | exact keepH_pure hr
      | exact okV_pure hr
      | exact nilCheck_pure hr
      | (cases hk; done)
      | skip
  rename_i cv x
  cases cv <;> simp only [opConv] at hr ⊢ <;> first | (cases hk; done) | skip
  · split at hr
    · exact okV_pure hr
    · cases hr
  · split at hr
    · exact okV_pure hr
    · exact okV_pure hr
    · cases hr

theorem keepH_read {r : R AV} {n : AN} (hr : keepH h r = .ok (n, h')) : ∃ v, n = .value v ∧ h' = h := by
  obtain ⟨v, _, h2, h3⟩ := keepH_ok hr
  exact ⟨v, h2, h3⟩

theorem okV_read {v : AV} {n : AN} (hr : okV v h = .ok (n, h')) : ∃ v', n = .value v' ∧ h' = h := by
  cases hr; exact ⟨_, rfl, rfl⟩

theorem read_ok {c : COp} {n : AN} (hk : c.kind = .read) (hr : evC P c a h = .ok (n, h')) : ∃ v, n = .value v ∧ h' = h := by
  cases c <;> simp only [COp.kind] at hk <;> simp only [evC] at hr ⊢ <;>
    first
      | exact keepH_read hr
      | (cases hk; done)
      | skip
  · rename_i x
    unfold opLoad1 at hr
    split at hr
    · exact keepH_read hr
    · cases hr
  · unfold opLoadN at hr
    split at hr
    · split at hr
      · exact okV_read hr
      · cases hr
    · cases hr
  · rename_i cv x
    cases cv <;> simp only [opConv] at hr ⊢ <;> first | (cases hk; done) | skip
    split at hr
    · exact okV_read hr
    · split at hr
      · split at hr
        · split at hr
          · exact okV_read hr
          · cases hr
        · cases hr
      · cases hr
    · cases hr

theorem rowKind_alloc {o : Oper} {c : COp} (hk : rowKind o c = .alloc) : c.kind = .alloc ∧ isAllocOp o.op = true := by
  unfold rowKind at hk
  split at hk
  · rename_i e
    cases hb : isAllocOp o.op with
    | true => exact ⟨e, rfl⟩
    | false => rw [hb] at hk; cases hk
  · rename_i hn; exact absurd hk hn

theorem rowKind_pure {o : Oper} {c : COp} (hk : rowKind o c = .pure) : c.kind = .pure := by
  unfold rowKind at hk
  split at hk
  · cases hb : isAllocOp o.op <;> rw [hb] at hk <;> cases hk
  · exact hk

theorem rowKind_read {o : Oper} {c : COp} (hk : rowKind o c = .read) : c.kind = .read := by
  unfold rowKind at hk
  split at hk
  · cases hb : isAllocOp o.op <;> rw [hb] at hk <;> cases hk
  · exact hk

/-- an operation that lays a block -/
def AllocA (P : Program) (c : COp) (a : AAct) (h : AH) (n : AN) (h' : AH) : Prop :=
  ∃ mkv O, Shape mkv ∧ n = .value (mkv h.next) ∧ h' = h.push O ∧ (∀ φ tm, GlobRel P φ → ActRel φ a tm → Fresh φ O) ∧ ∀ H, evC P c a H = .ok (.value (mkv H.next), H.push O)

theorem alloc_ok {o : Oper} {c : COp} {n : AN} (hc : comp P o = .ok c) (hk : rowKind o c = .alloc) (hr : evC P c a h = .ok (n, h')) :
    AllocA P c a h n h' := by
  obtain ⟨hk, ho⟩ := rowKind_alloc hk
  unfold isAllocOp at ho
  split at ho
  · rename_i e hop
    simp only [comp, hop] at hc
    split at hc
    · rename_i z hz; cases hc
      simp only [evC, opNew] at hr ⊢
      cases hr
      obtain ⟨z', _, hz2⟩ := run_zero (P := P) (w := default) hz
      exact ⟨_, _, .inl rfl, rfl, rfl, fun φ tm hG hA => .inr ⟨_, _, rfl, (hz2 φ).cells⟩, fun H => rfl⟩
    · cases hc
  · rename_i e x hop
    simp only [comp, hop] at hc
    obtain ⟨ca, ha, hc⟩ := with1_ok hc
    cases hc
    simp only [evC, opNew] at hr ⊢
    cases hr
    exact ⟨_, _, .inl rfl, rfl, rfl, fun φ tm hG hA => .inr ⟨_, _, rfl, (cO_con (ds := []) ha hG hA).cells⟩, fun H => rfl⟩
  · rename_i t len parts hop
    simp only [comp, hop] at hc
    split at hc
    · rename_i e ht
      split at hc
      · rename_i es z hs hz
        split at hc
        · cases hc
        · rename_i hne
          split at hc
          · rename_i l hl; cases hc
            simp only [evC, opBuildSlice] at hr ⊢
            split at hr
            · rename_i q hq; cases hr
              obtain ⟨z', hz1, hz2⟩ := run_zero (P := P) (w := default) hz
              refine ⟨fun i => .slice i 0 len len true es, _, .inr (.inr ⟨_, _, _, _, rfl⟩), rfl, rfl, fun φ tm hG hA => ?_, fun H => by simp only [evC, opBuildSlice]; rw [hq]; rfl⟩
              have hcz := repl_con (φ := φ) (hz2 φ).cells (Decidable.byContradiction fun e => hne (.inr (.inr e))) (by have := fun e => hne (.inr (.inl e)); omega) len
              obtain ⟨l', g1, g2⟩ := fillA_ok (ds := []) hG hA hl hq hcz
              exact .inr ⟨_, _, rfl, g2⟩
            · cases hr
          · cases hc
      · cases hc
    · cases hc
  · rename_i t r hop
    simp only [comp, hop] at hc
    split at hc
    · rename_i r' ht hr'; cases hc
      simp only [evC] at hr
      unfold opMkM at hr
      split at hr
      · rename_i hv; cases hr; exact ⟨_, _, .inr (.inl rfl), rfl, rfl, fun _ _ _ _ => .inl rfl, fun H => by simp only [evC, opMkM, hv]; rfl⟩
      · rename_i hv; cases hr; exact ⟨_, _, .inr (.inl rfl), rfl, rfl, fun _ _ _ _ => .inl rfl, fun H => by simp only [evC, opMkM, hv]; rfl⟩
      · cases hr
    · cases hc
  · rename_i t l k hop
    simp only [comp, hop] at hc
    obtain ⟨ca, cb, ha, hb, hc⟩ := with2_ok hc
    split at hc
    · rename_i e ht
      split at hc
      · rename_i es bytes z hs hby hz
        split at hc
        · cases hc
        · rename_i hne; cases hc
          simp only [evC] at hr
          unfold opMkS at hr
          split at hr
          · rename_i hv1 hv2
            split at hr
            · rename_i hcond; cases hr
              obtain ⟨z', hz1, hz2⟩ := run_zero (P := P) (w := default) hz
              have hcz := fun φ n => repl_con (φ := φ) (hz2 φ).cells (Decidable.byContradiction fun e => hne (.inr e)) (by have := fun e => hne (.inl e); omega) n
              exact ⟨fun i => .slice i 0 _ _ true es, _, .inr (.inr ⟨_, _, _, _, rfl⟩), rfl, rfl, fun φ _ _ _ => .inr ⟨_, _, rfl, hcz φ _⟩, fun H => by simp only [evC, opMkS, hv1, hv2]; rw [if_pos hcond]; rfl⟩
            · cases hr
          · cases hr
      · cases hc
    · cases hc
  · rename_i s d x hop
    simp only [comp, hop] at hc
    obtain ⟨ca, ha, hc⟩ := with1_ok hc
    have key : ∀ cv, c = .conv cv ca → AllocA P c a h n h' := by
      rintro cv rfl
      cases cv with
      | bytes =>
        simp only [evC, opConv] at hr
        split at hr
        · rename_i hv; cases hr
          exact ⟨fun i => .slice i 0 _ _ false 1, _, .inr (.inr ⟨_, _, _, _, rfl⟩), rfl, rfl, fun _ _ _ _ => .inr ⟨_, _, rfl, bytesAV_con _⟩, fun H => by simp only [evC, opConv, hv]; rfl⟩
        · cases hr
      | int k => cases hk
      | str => cases hk
      | strB => cases hk
    split at hc
    · cases hc; exact key _ rfl
    · split at hc
      · split at hc
        · cases hc; exact key _ rfl
        · cases hc
      · cases hc; exact key _ rfl
      · cases hc; exact key _ rfl
      · cases hc
    · split at hc
      · cases hc; exact key _ rfl
      · cases hc
    · cases hc
  · cases ho

end Go.Dr
