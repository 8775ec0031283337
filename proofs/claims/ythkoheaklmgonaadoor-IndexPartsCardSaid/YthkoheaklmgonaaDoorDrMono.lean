/-
  More fuel changes no answer.
-/
import Derived.Test.YthkoheaklmgonaaDoorDrEv
namespace Go.Dr


variable {P : Program} {c c' : CallF}

def CallLe (c c' : CallF) : Prop := ∀ t args h r, c t args h = .ok r → c' t args h = .ok r

theorem CallLe.refl (c : CallF) : CallLe c c := fun _ _ _ _ e => e

theorem evOper_mono (hc : CallLe c c') {o : Oper} {a : AAct} {h : AH} {r : AAct × AH} (he : evOper P c o a h = .ok r) : evOper P c' o a h = .ok r := by
  unfold evOper at he ⊢
  split at he
  · split at he
    · split at he
      · exact he
      · exact he
      · exact he
      · split at he
        · rename_i hcall; simp only [hc _ _ _ _ hcall]; exact he
        · cases he
      · split at he
        · rename_i hcall; simp only [hc _ _ _ _ hcall]; exact he
        · cases he
    · cases he
  · cases he

theorem evOps_mono (hc : CallLe c c') {ops : Array Oper} : ∀ (l : List Oper) {a : AAct} {h : AH} {r : AAct × AH}, evOps P c ops l a h = .ok r → evOps P c' ops l a h = .ok r
  | [], _, _, _, he => he
  | o :: l, a, h, r, he => by
    simp only [evOps] at he ⊢
    split at he
    · split at he
      · rename_i hop; simp only [evOper_mono hc hop]; exact evOps_mono hc l he
      · cases he
    · exact evOps_mono hc l he
    · cases he

theorem evEnts_mono (hc : CallLe c c') {ops : Array Oper} : ∀ (l : List DEnt) {a : AAct} {h : AH} {r : AAct × AH}, evEnts P c ops l a h = .ok r → evEnts P c' ops l a h = .ok r
  | [], _, _, _, he => he
  | .op o :: l, a, h, r, he => by
    simp only [evEnts] at he ⊢
    split at he
    · split at he
      · rename_i hop; simp only [evOper_mono hc hop]; exact evEnts_mono hc l he
      · cases he
    · exact evEnts_mono hc l he
    · cases he
  | .stage re :: l, a, h, r, he => by
    simp only [evEnts] at he ⊢
    cases hb : again P ops re a h with
    | true => rw [hb] at he; exact evEnts_mono hc l he
    | false => rw [hb] at he; cases he

theorem evDraw_mono (hc : CallLe c c') {ops : Array Oper} {a : AAct} {h : AH} {r : AAct × AH} (he : evDraw P c ops a h = .ok r) : evDraw P c' ops a h = .ok r := by
  unfold evDraw at he ⊢
  split at he
  · exact evEnts_mono hc _ he
  · cases he

theorem evLoop_mono {b b' : AAct → AH → R (AX × AAct × AH)} (hb : ∀ a h r, b a h = .ok r → b' a h = .ok r) : ∀ {n n' : Nat} {a : AAct} {h : AH} {r : AX × AAct × AH}, n ≤ n' → evLoop b n a h = .ok r → evLoop b' n' a h = .ok r
  | 0, _, _, _, _, _, he => by cases he
  | n + 1, 0, _, _, _, hn, _ => absurd hn (by omega)
  | n + 1, n' + 1, a, h, r, hn, he => by
    simp only [evLoop] at he ⊢
    split at he
    · rename_i hbody; simp only [hb _ _ _ hbody]; exact evLoop_mono hb (by omega) he
    · rename_i hnot
      have := hb _ _ _ he
      rw [this]
      split
      · rename_i e; cases e; exact absurd he (hnot _ _)
      · rfl

theorem opGo_mono (hc : CallLe c c') {f : AV} {params : Array Tmp} {assign body : Code} {a : AAct} {h : AH} {r : AX × AAct × AH} (he : opGo c f params assign body a h = .ok r) : opGo c' f params assign body a h = .ok r := by
  unfold opGo at he ⊢
  split at he
  · cases hb : a.rd with
    | true => rw [hb] at he; cases he
    | false =>
      rw [hb] at he
      simp only [cond_false, forceN_eq] at he ⊢
      split at he
      · rename_i hcall; simp only [hc _ _ _ _ hcall]; exact he
      · cases he
  · cases he

theorem evCode_mono (hc : CallLe c c') {lf lf' : Nat} (hl : lf ≤ lf') : ∀ (k : Code) {a : AAct} {h : AH} {r : AX × AAct × AH}, evCode P c lf k a h = .ok r → evCode P c' lf' k a h = .ok r
  | .skip, _, _, _, he => he
  | .label _, _, _, _, he => he
  | .exit _, _, _, _, he => he
  | .ret, _, _, _, he => he
  | .goto _, _, _, _, he => he
  | .refuse _, _, _, _, he => he
  | .region _ ops draw, a, h, r, he => by
    simp only [evCode] at he ⊢
    cases draw with
    | true =>
      simp only [cond_true] at he ⊢
      split at he
      · rename_i hop; simp only [evDraw_mono hc hop]; exact he
      · cases he
    | false =>
      simp only [cond_false] at he ⊢
      split at he
      · rename_i hop; simp only [evOps_mono hc _ hop]; exact he
      · cases he
  | .seq x y, a, h, r, he => by
    simp only [evCode] at he ⊢
    split at he
    · rename_i hx; simp only [evCode_mono hc hl x hx]; exact evCode_mono hc hl y he
    · rename_i hnot
      have := evCode_mono hc hl x he
      rw [this]
      split
      · rename_i e; cases e; exact absurd he (hnot _ _)
      · rfl
  | .cond o x y, a, h, r, he => by
    simp only [evCode] at he ⊢
    split at he
    · unfold evCond at he ⊢
      split at he
      · exact evCode_mono hc hl x he
      · exact evCode_mono hc hl y he
      · cases he
    · cases he
  | .block id k, a, h, r, he => by
    simp only [evCode] at he ⊢
    split at he
    · rename_i hx; simp only [evCode_mono hc hl k hx]; exact he
    · rename_i hnot
      have := evCode_mono hc hl k he
      rw [this]
      split
      · rename_i e; cases e; exact absurd he (hnot _ _ _)
      · rfl
  | .loop k, a, h, r, he => by
    simp only [evCode] at he ⊢
    exact evLoop_mono (fun a h r => evCode_mono hc hl k) hl he
  | .scope k, a, h, r, he => by
    simp only [evCode] at he ⊢
    split at he
    · cases he
    · rename_i hnot
      have := evCode_mono hc hl k he
      rw [this]
      split
      · rename_i e; cases e; exact absurd he (hnot _ _ _)
      · rfl
  | .rangeFunc f ps x y, a, h, r, he => by
    simp only [evCode] at he ⊢
    split at he
    · exact opGo_mono hc he
    · cases he

theorem runDefers_mono (hc : CallLe c c') : ∀ (l : List ADef) {h h' : AH}, runDefers c l h = .ok h' → runDefers c' l h = .ok h'
  | [], _, _, he => he
  | d :: l, h, h', he => by
    unfold runDefers at he ⊢
    split at he
    · split at he
      · exact runDefers_mono hc l he
      · cases he
    · split at he
      · split at he
        · rename_i hcall; simp only [hc _ _ _ _ hcall]; exact runDefers_mono hc l he
        · cases he
      · cases he
      · cases he

theorem finishCall_mono (hc : CallLe c c') {fn : Func} {x y : R (AX × AAct × AH)} (hx : ∀ r, x = .ok r → y = .ok r) {r : AV × AH} (he : finishCall P c fn x = .ok r) : finishCall P c' fn y = .ok r := by
  unfold finishCall at he
  split at he
  · rename_i x a h
    rw [hx _ rfl]
    simp only [finishCall]
    split at he
    · split at he
      · rename_i hd; simp only [runDefers_mono hc _ hd]; exact he
      · cases he
    · split at he
      · rename_i hd; simp only [runDefers_mono hc _ hd]; exact he
      · cases he
    · cases he
  · cases he

theorem aRound_mono (hc : CallLe c c') {lf lf' : Nat} (hl : lf ≤ lf') {l : Nat} {q : ALoop} {args : List AV} {h : AH} {r : AV × AH} (he : aRound P c lf l q args h = .ok r) : aRound P c' lf' l q args h = .ok r := by
  unfold aRound at he ⊢
  cases hb : Nat.beq args.length q.params.size with
  | false => rw [hb] at he; cases he
  | true =>
    rw [hb] at he
    simp only [cond_true] at he ⊢
    split at he
    · rename_i hx
      simp only [evCode_mono hc hl _ hx]
      split at he
      · split at he
        · generalize hres : evCode P c lf q.body _ _ = res at he
          unfold endRound at he
          split at he
          · rw [evCode_mono hc hl _ hres]; exact he
          · cases he
        · cases he
      · cases he
    · cases he
    · cases he

theorem noSum_mono {S : FuncId → Option (List AV → AH → R (AV × AH))} (hc : CallLe c c') : CallLe (noSum S c) (noSum S c') := by
  intro t args h r he
  unfold noSum at he ⊢
  split at he
  · split at he
    · cases he
    · exact hc _ _ _ _ he
  · exact hc _ _ _ _ he

theorem evCall_mono {S : FuncId → Option (List AV → AH → R (AV × AH))} {lf lf' : Nat} (hl : lf ≤ lf') : ∀ {n n' : Nat}, n ≤ n' → CallLe (evCall P S lf n) (evCall P S lf' n')
  | 0, _, _ => fun t args h r he => by cases t <;> cases he
  | n + 1, 0, hn => absurd hn (by omega)
  | n + 1, n' + 1, hn => fun t args h r he => by
    have ih := evCall_mono (S := S) hl (n := n) (n' := n') (by omega)
    cases t with
    | fn f =>
      unfold evCall at he ⊢
      split at he
      · exact he
      · split at he
        · split at he
          · rename_i fn _ _ k _
            cases hb : Nat.ble args.length fn.ntmps with
            | false => rw [hb] at he; cases he
            | true =>
              rw [hb] at he
              simp only [cond_true] at he ⊢
              exact finishCall_mono (noSum_mono ih) (fun r hr => evCode_mono ih hl _ hr) he
          · cases he
        · cases he
    | yield l =>
      unfold evCall at he ⊢
      split at he
      · exact aRound_mono ih hl he
      · cases he

end Go.Dr
