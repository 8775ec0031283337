import Derived.Test.YthkoheaklmgonaaFmD
namespace Go.Proofs.Ythkoheaklmgonaa
open Go Go.Dr
set_option maxRecDepth 100000

/-- the rank of the one before -/
def rankB (l : List Ft) : Nat → Int
  | 0 => 0
  | j + 1 => match l[j]? with | some f => f.rank | none => 0

theorem num_pos {n : Int} (h : num n = true) : 1 ≤ n := by
  simp [num] at h; exact h.1

theorem can1_rank {f : Ft} (h : can1 f = true) : 1 ≤ f.rank := by
  simp [can1] at h
  exact num_pos h.2.1

theorem can16 {h : AH} {v : AV} {l : List Ft} {n : Nat} (hv : Sl h 8 n v (feet l)) (hn : l.length = n) (hp : ∀ f ∈ l, f.par.scalar = true) (hb : n < 2 ^ 62) :
    Ev Try.prog S0 (.fn 16) [v] h (fun r h' => r = .bool (canFrom [] 0 l) ∧ Fr h h') := by
  refine ev_fn comp16 rfl rfl ?_
  simp [cc16, hv.len]
  refine w_count (n := n) (by rfl) (fun j σ ds h' => ds = [] ∧ σ 0 = v ∧ σ 7 = v ∧ σ 8 = .int .i64 (n : Int) ∧ Fr h h' ∧ canFrom ((l.take j).map Ft.num) (rankB l j) (l.drop j) = canFrom [] 0 l) (by omega) (by simp) ?_ (fun j σ ds h' hJ => by simp [hJ.2.2.2.1]) ?_ ?_
  · simp [Fr.refl, rankB]
  · rintro j σ ds h' hj hi ⟨rfl, h0, h7, h8, hf, hc⟩
    have hjl : j < l.length := by omega
    obtain ⟨id, o, g1, g2, _⟩ := foot_at (hv.fr hf) hn hjl
    have hpar : l[j].par.scalar = true := hp _ (List.getElem_mem hjl)
    have hnext : rankB l (j + 1) = l[j].rank := by simp [rankB, List.getElem?_eq_getElem hjl]
    have htake : (l.take (j + 1)).map Ft.num = (l.take j).map Ft.num ++ [l[j].num] := by
      rw [List.take_add_one, List.getElem?_eq_getElem hjl, Option.toList_some, List.map_append, List.map_singleton]
    have hdrop : l.drop j = l[j] :: l.drop (j + 1) := by rw [List.drop_eq_getElem_cons hjl]
    rw [hdrop] at hc
    generalize l[j] = f at g2 hpar hnext htake hc
    have s1 := store_foot h' hpar
    have ld0 : load1 (h'.push (.cells f.cells false)) h'.next 0 = .ok (.int .i64 f.num) := load1_of (get_push_new _)
    have ld1 : load1 (h'.push (.cells f.cells false)) h'.next 1 = .ok (.int .i64 f.gen) := load1_of (get_push_new _)
    have ld2 : load1 (h'.push (.cells f.cells false)) h'.next 2 = .ok (.int .i64 f.level) := load1_of (get_push_new _)
    have ld3 : load1 (h'.push (.cells f.cells false)) h'.next 3 = .ok (.int .i64 f.rank) := load1_of (get_push_new _)
    have ld4 : load1 (h'.push (.cells f.cells false)) h'.next 4 = .ok (.int .i64 f.min) := load1_of (get_push_new _)
    have ld5 : load1 (h'.push (.cells f.cells false)) h'.next 5 = .ok (.int .i64 f.max) := load1_of (get_push_new _)
    have ld6 : load1 (h'.push (.cells f.cells false)) h'.next 6 = .ok (.int .i64 f.bytes) := load1_of (get_push_new _)
    have hF : Fr h (h'.push (.cells f.cells false)) := hf.push _
    simp only [wpC_seq]
    refine w_mono (Q := fun x σ' ds' h2 => x = .normal ∧ σ' 0 = v ∧ σ' 3 = .int .i64 (j : Int) ∧ σ' 4 = .ptr h'.next 0 ∧ σ' 7 = v ∧ σ' 8 = .int .i64 (n : Int) ∧ σ' 9 = .int .i64 (j : Int) ∧ ds' = [] ∧ h2 = h'.push (.cells f.cells false))
      (by simp [h0, h7, h8, hi, g1, g2, s1]) ?_
    rintro x σ0 ds0 h2 ⟨rfl, z0, z3, z4, z7, z8, z9, rfl, rfl⟩
    simp only [Kseq_normal, wpC_seq]
    refine w_mono (Q := fun x σ' ds' h2 => x = .normal ∧ σ' 56 = .bool (!can1 f) ∧ σ' 0 = v ∧ σ' 3 = .int .i64 (j : Int) ∧ σ' 4 = .ptr h'.next 0 ∧ σ' 7 = v ∧ σ' 8 = .int .i64 (n : Int) ∧ σ' 9 = .int .i64 (j : Int) ∧ ds' = [] ∧ h2 = h'.push (.cells f.cells false)) ?_ ?_
    · cases h1 : num f.num
      · simp [z0, z3, z4, z7, z8, z9, ld0, ld1, ld2, ld3, ld4, ld5, ld6, number25, h1, can1]
      cases h2 : num f.rank
      · simp [z0, z3, z4, z7, z8, z9, ld0, ld1, ld2, ld3, ld4, ld5, ld6, number25, h1, h2, can1]
      cases h3 : num f.gen
      · simp [z0, z3, z4, z7, z8, z9, ld0, ld1, ld2, ld3, ld4, ld5, ld6, number25, h1, h2, h3, can1]
      by_cases h4 : f.level < 1
      · simp [z0, z3, z4, z7, z8, z9, ld0, ld1, ld2, ld3, ld4, ld5, ld6, number25, h1, h2, h3, h4, can1, show ¬ 1 ≤ f.level by omega]
      by_cases h5 : 3 < f.level
      · simp [z0, z3, z4, z7, z8, z9, ld0, ld1, ld2, ld3, ld4, ld5, ld6, number25, h1, h2, h3, h4, h5, can1, show ¬ f.level ≤ 3 by omega]
      by_cases h6 : f.bytes < 0
      · simp [z0, z3, z4, z7, z8, z9, ld0, ld1, ld2, ld3, ld4, ld5, ld6, number25, h1, h2, h3, h4, h5, h6, can1, show ¬ 0 ≤ f.bytes by omega]
      by_cases h7' : 2147483647 < f.bytes
      · simp [z0, z3, z4, z7, z8, z9, ld0, ld1, ld2, ld3, ld4, ld5, ld6, number25, h1, h2, h3, h4, h5, h6, h7', can1, show ¬ f.bytes ≤ 2147483647 by omega]
      by_cases h8' : f.max < f.min
      · simp [z0, z3, z4, z7, z8, z9, ld0, ld1, ld2, ld3, ld4, ld5, ld6, number25, h1, h2, h3, h4, h5, h6, h7', h8', can1, show ¬ f.min ≤ f.max by omega]
      · simp [z0, z3, z4, z7, z8, z9, ld0, ld1, ld2, ld3, ld4, ld5, ld6, number25, h1, h2, h3, h4, h5, h6, h7', h8', can1, show 1 ≤ f.level by omega, show f.level ≤ 3 by omega, show 0 ≤ f.bytes by omega, show f.bytes ≤ 2147483647 by omega, show f.min ≤ f.max by omega]
    · rintro x σ1 ds1 h2 ⟨rfl, a56, a0, a3, a4, a7, a8, a9, rfl, rfl⟩
      cases c1 : can1 f
      · simp only [canFrom, c1, Bool.false_and] at hc
        simp [a56, c1, ← hc, hF]
      have hr1 := can1_rank c1
      simp only [canFrom, c1, Bool.true_and] at hc
      simp only [Kseq_normal, wpC_cond, CO.evS_t, a56, c1, Bool.not_true, wpB_false, wpC_skip, wpC_seq]
      refine w_mono (Q := fun x σ' ds' h2 => x = .normal ∧ σ' 69 = .bool (decide (¬ rankB l j < f.rank)) ∧ σ' 0 = v ∧ σ' 3 = .int .i64 (j : Int) ∧ σ' 4 = .ptr h'.next 0 ∧ σ' 7 = v ∧ σ' 8 = .int .i64 (n : Int) ∧ σ' 9 = .int .i64 (j : Int) ∧ ds' = [] ∧ h2 = h'.push (.cells f.cells false)) ?_ ?_
      · cases j with
        | zero =>
          have : rankB l 0 < f.rank := by simp only [rankB]; omega
          simp [a0, a3, a4, a7, a8, a9, this]
        | succ j =>
          obtain ⟨id2, o2, k1, _, k3⟩ := foot_at (hv.fr hF) hn (show j < l.length by omega)
          have w1 : wrapF .i64 (j : Int) = (j : Int) := wrap_i64 (by omega) (by omega)
          have k4 : load1 (h'.push (.cells f.cells false)) id2 (o2 + 3) = .ok (.int .i64 (rankB l (j + 1))) := by
            rw [k3 3 (by omega)]; simp [Ft.cells, rankB, List.getElem?_eq_getElem (show j < l.length by omega)]
          have p1 : (0 : Int) < (j : Int) + 1 := by omega
          by_cases hr : f.rank ≤ rankB l (j + 1)
          · have hr' : ¬ rankB l (j + 1) < f.rank := by omega
            simp [a0, a3, a4, a7, a8, a9, p1, w1, k1, k4, ld3, hr, hr']
          · have hr' : rankB l (j + 1) < f.rank := by omega
            simp [a0, a3, a4, a7, a8, a9, p1, w1, k1, k4, ld3, hr, hr']
      · rintro x σ2 ds2 h2 ⟨rfl, b69, b0, b3, b4, b7, b8, b9, rfl, rfl⟩
        by_cases hr : rankB l j < f.rank
        case neg =>
          simp only [hr, decide_false, Bool.false_and] at hc
          simp [b69, hr, ← hc, hF]
        simp only [hr, decide_true, Bool.true_and] at hc
        obtain ⟨u, e1, s2⟩ := (hv.fr hF).slice (lo := none) (hi := some (.int .i64 (j : Int))) (a := 0) (b := j) (.inl ⟨rfl, rfl⟩) (.inr ⟨.i64, rfl⟩) (by omega) (by omega)
        have s2' : Sl (h'.push (.cells f.cells false)) 8 j u (feet (l.take j)) := by
          have : (feet l).take (j * 8) = feet (l.take j) := by
            have h1 : feet l = feet (l.take j) ++ feet (l.drop j) := by
              unfold feet; rw [← List.flatten_append, ← List.map_append, List.take_append_drop]
            rw [h1, List.take_left' (by rw [feet_length, List.length_take, Nat.min_eq_left (by omega)])]
          simpa [this] using s2
        simp [b69, hr, b0, b3, e1, s2'.len]
        refine w_count (n := j) (by rfl) (fun i σ ds h3 => ds = [] ∧ σ 0 = v ∧ σ 3 = .int .i64 (j : Int) ∧ σ 4 = .ptr h'.next 0 ∧ σ 7 = v ∧ σ 8 = .int .i64 (n : Int) ∧ σ 9 = .int .i64 (j : Int) ∧ σ 72 = u ∧ σ 73 = .int .i64 (j : Int) ∧ Fr (h'.push (.cells f.cells false)) h3 ∧ ∀ k, k < i → ∀ g, l[k]? = some g → g.num ≠ f.num) (by omega) (by simp) ?_ (fun i σ ds h' hJ => by simp [hJ.2.2.2.2.2.2.2.2.1]) ?_ ?_
        · simp [b0, b3, b4, b7, b8, b9, Fr.refl]
        · rintro i σ ds h3 hij hi ⟨rfl, d0, d3, d4, d7, d8, d9, d72, d73, hf3, hall⟩
          have hil : i < (l.take j).length := by simp; omega
          obtain ⟨id3, o3, m1, m2, _⟩ := foot_at (s2'.fr hf3) (by simp; omega) hil
          have hgi : l[i]? = some (l.take j)[i] := by
            rw [List.getElem_take, List.getElem?_eq_getElem]
          have hpar2 : (l.take j)[i].par.scalar = true := hp _ (List.mem_of_mem_take (List.getElem_mem hil))
          generalize (l.take j)[i] = q at m2 hgi hpar2
          have s3 := store_foot h3 hpar2
          have hn3 := hf3.next
          simp at hn3
          have lq : load1 (h3.push (.cells q.cells false)) h3.next 0 = .ok (.int .i64 q.num) := load1_of (get_push_new _)
          have lf : load1 (h3.push (.cells q.cells false)) h'.next 0 = .ok (.int .i64 f.num) := by
            rw [load1_of (vs := f.cells) (ro := false) (by rw [get_push_old (by omega), hf3.get _ (by simp), get_push_new])]; rfl
          by_cases hq : q.num = f.num
          · have hcon : ((l.take j).map Ft.num).contains f.num = true := by
              simp only [List.contains_eq_mem, List.mem_map, decide_eq_true_eq]
              refine ⟨q, ?_, hq⟩
              rw [List.mem_take_iff_getElem]
              exact ⟨i, by omega, by rw [List.getElem?_eq_getElem (by omega)] at hgi; exact Option.some.inj hgi⟩
            simp only [hcon, Bool.not_true, Bool.false_and] at hc
            simp [d0, d72, hi, m1, m2, s3, lq, lf, d4, hq, ← hc]
            exact hF.trans (hf3.push _)
          · simp [d0, d3, d4, d7, d8, d9, d72, d73, hi, m1, m2, s3, lq, lf, hq]
            refine ⟨hf3.push _, fun k hk g hg => ?_⟩
            by_cases hki : k = i
            · subst hki; rw [hgi] at hg; cases hg; exact hq
            · exact hall k (by omega) g hg
        · rintro σ ds h3 ⟨rfl, d0, d3, d4, d7, d8, d9, d72, d73, hf3, hall⟩
          have hcon : ((l.take j).map Ft.num).contains f.num = false := by
            rw [Bool.eq_false_iff]
            simp only [ne_eq, List.contains_eq_mem, List.mem_map, decide_eq_true_eq]
            rintro ⟨g, hg, hgn⟩
            obtain ⟨k, hk, rfl⟩ := List.mem_take_iff_getElem.1 hg
            exact hall k (by omega) _ (List.getElem?_eq_getElem (by omega)) hgn
          simp only [hcon, Bool.not_false, Bool.true_and] at hc
          simp [d0, d7, d8, d9, hF.trans hf3, hnext, htake]
          rw [← hc]
          refine canFrom_perm _ _ _ _ fun a => ?_
          have e := congrArg (fun x => a ∈ x) htake
          simp only [List.map_take] at e ⊢
          rw [e]
          simp [or_comm]
  · rintro σ ds h' ⟨rfl, h0, h7, h8, hf, hc⟩
    rw [List.drop_of_length_le (by omega)] at hc
    simp [← hc, canFrom, hf]

theorem man7 {h : AH} {v : AV} {l : List Ft} {n : Nat} (hv : Sl h 8 n v (feet l)) (hn : l.length = n) (hp : ∀ f ∈ l, f.par.scalar = true) (hb : n < 2 ^ 62) :
    Ev Try.prog S0 (.fn 7) [v] h (ManPost h l) := by
  refine ev_fn comp7 rfl rfl ?_
  simp only [cc7, wpC_seq, wpC_ops, wpOps_row, evS_move, evS_callV, CO.evS_t, CO.evS_c, evLS_nil, evLS_cons, wpN_okV, wpOps_nil, Kseq_normal, upd_some, argS_0, Nat.reduceEqDiff, if_true, if_false, callVal_fn, List.nil_append, List.append_nil, wpN_enter]
  refine (can16 hv hn hp hb).mono ?_
  rintro r h1 ⟨rfl, f1⟩
  cases hc : canFrom [] 0 l
  · simp [ManPost, hc, f1]
  by_cases hm : n ≤ 1000
  case neg =>
    have e1 : (1000 : Int) < (n : Int) := by omega
    have e2 : ¬ l.length ≤ 1000 := by omega
    simp [ManPost, hc, f1, hv.len, e1, e2]
  have e1 : ¬ (1000 : Int) < (n : Int) := by omega
  have e2 : wrapF .u64 (n : Int) = (n : Int) := wrap_u64 (by omega) (by omega)
  simp [hv.len, e1, e2, put17_4 n (by omega)]
  have hB : h.next ≤ h1.next := f1.next
  have o0 : Own h.next (h1.push (.cells (by8 (be 4 n)) false)) 1 4 (.slice h1.next 0 4 4 true 1) (by8 (be 4 n)) := Own.fresh true hB (by simp)
  refine w_count (n := n) (by rfl) (fun j σ ds h' => ds = [] ∧ σ 21 = v ∧ σ 22 = .int .i64 (n : Int) ∧ Fr h h' ∧ ∃ b, σ 4 = b ∧ Own h.next h' 1 (4 + j * 56) b (by8 (be 4 n ++ manB (l.take j)))) (by omega) (by simp) ?_ (fun j σ ds h' hJ => by simp [hJ.2.2.1]) ?_ ?_
  · simp [f1.push, o0, manB]
  · rintro j σ ds h' hj hi ⟨rfl, h21, h22, hf, b, h4, ho⟩
    have hjl : j < l.length := by omega
    obtain ⟨id, o, g1, g2, _⟩ := foot_at (hv.fr hf) hn hjl
    have hpar : l[j].par.scalar = true := hp _ (List.getElem_mem hjl)
    have htake := manB_take l j hjl
    generalize l[j] = f at g2 hpar htake
    have s1 := store_foot h' hpar
    have ld : ∀ c, load1 (h'.push (.cells f.cells false)) h'.next c = ofO "load: out of the known cells" f.cells[c]? := fun c => load1_of (get_push_new _)
    have ld0 : load1 (h'.push (.cells f.cells false)) h'.next 0 = .ok (.int .i64 f.num) := ld 0
    have ld1 : load1 (h'.push (.cells f.cells false)) h'.next 1 = .ok (.int .i64 f.gen) := ld 1
    have ld2 : load1 (h'.push (.cells f.cells false)) h'.next 2 = .ok (.int .i64 f.level) := ld 2
    have ld3 : load1 (h'.push (.cells f.cells false)) h'.next 3 = .ok (.int .i64 f.rank) := ld 3
    have ld4 : load1 (h'.push (.cells f.cells false)) h'.next 4 = .ok (.int .i64 f.min) := ld 4
    have ld5 : load1 (h'.push (.cells f.cells false)) h'.next 5 = .ok (.int .i64 f.max) := ld 5
    have ld6 : load1 (h'.push (.cells f.cells false)) h'.next 6 = .ok (.int .i64 f.bytes) := ld 6
    have hy : h'.next < ((h'.push (.cells f.cells false)).push (.cells (f.nums.map fun x => .int .i64 x) false)).next := by simp; omega
    have oy : Own 0 ((h'.push (.cells f.cells false)).push (.cells (f.nums.map fun x => .int .i64 x) false)) 1 7 (.slice (h'.next + 1) 0 7 7 true 1) (f.nums.map fun x => .int .i64 x) :=
      Own.fresh (h := h'.push (.cells f.cells false)) true (Nat.zero_le _) (by simp [Ft.nums])
    obtain ⟨oy1, oy2 | ⟨yid, yoff, yx, yvs, ye, _, yl, yg, yb, yt⟩⟩ := oy
    · cases oy2.1
    cases ye
    simp [h21, h22, hi, g1, g2, s1, ld0, ld1, ld2, ld3, ld4, ld5, ld6, splice_eq]
    refine w_count (n := 7) (by rfl) (fun i σ ds h2 => ds = [] ∧ σ 21 = v ∧ σ 22 = .int .i64 (n : Int) ∧ σ 23 = .int .i64 (j : Int) ∧ σ 41 = .slice (h'.next + 1) 0 7 7 true 1 ∧ σ 42 = .int .i64 7 ∧ Fr h h2 ∧ h'.next + 1 < h2.next ∧
      h2.get (h'.next + 1) = some (.cells yvs false) ∧
      ∃ b, σ 4 = b ∧ idOf b ≠ some (h'.next + 1) ∧ Own h.next h2 1 (4 + j * 56 + i * 8) b (by8 (be 4 n ++ manB (l.take j) ++ numsB (f.nums.take i)))) (by omega) (by simp) ?_ (fun i σ ds h2 hJ => by simp [hJ.2.2.2.2.2.1]) ?_ ?_
    · simp [h21, h22, h4, hi, Ft.nums, numsB]
      refine ⟨(hf.push _).push _, ?_, ?_, ho.fr ((Fr.push (.refl _) _).push _)⟩
      · exact yg
      · intro e
        rcases ho.2 with ⟨e1, _⟩ | ⟨k, _, _, _, e1, _, e2, _⟩
        · rw [e1] at e; cases e
        · rw [e1] at e; cases e; omega
    · rintro i σ ds h2 hi7 hi ⟨rfl, h21, h22, h23, h41, h42, hf2, hn2, hg2, b, h4, hne, ho⟩
      have hil : i < f.nums.length := hi7
      have htk := numsB_take f.nums i hil
      have sy : Sl h2 1 7 (.slice (h'.next + 1) 0 7 7 true 1) (f.nums.map fun x => .int .i64 x) := ⟨oy1, .inr ⟨_, _, _, _, _, _, rfl, hn2, Nat.le_refl _, hg2, yb, yt⟩⟩
      obtain ⟨id2, o2, x1, x2, _⟩ := sy.get1 (k := .i64) (i := (i : Int)) rfl hi7 (x := .int .i64 f.nums[i]) (by simp [List.getElem?_eq_getElem hil])
      generalize f.nums[i] = x at htk x1 x2
      have ho2 := ho.fr (Fr.push (.refl h2) (.cells (by8 (be 8 (u64 x))) false))
      have hsl : Sl (h2.push (.cells (by8 (be 8 (u64 x))) false)) 1 8 (.slice h2.next 0 8 8 true 1) (by8 (be 8 (u64 x))) := (Own.fresh (B := 0) true (Nat.zero_le _) (by simp)).sl
      obtain ⟨b', h3, a1, a2, a3, a4, a5⟩ := ho2.append (bytes := 1) hsl (by have := hf2.next; simp; omega) (by8_scalar _) (by omega) (by omega)
      simp [h21, h22, h23, h41, h42, h4, hi, x1, x2, big18, a1]
      refine ⟨⟨?_, ?_⟩, ?_, ?_, ?_, ?_⟩
      · have := a3.next; have := hf2.next; simp at *; omega
      · intro k hk
        rw [a3.get k hk, get_push_old (by have := hf2.next; omega)]
        exact hf2.get k hk
      · have := a3.next; simp at this; omega
      · rw [a4 _ (by simp; omega) hne, get_push_old (by omega), hg2]
      · intro e
        rcases a5 _ e with e | e
        · exact hne e
        · simp at e; omega
      · rw [htk, show 4 + j * 56 + (i + 1) * 8 = 4 + j * 56 + i * 8 + 8 from by omega]
        simpa [by8_append, List.append_assoc] using a2
    · rintro σ ds h2 ⟨rfl, h21, h22, h23, h41, h42, hf2, hn2, hg2, b, h4, hne, ho⟩
      simp [h21, h22, h23, h4, hf2]
      rw [htake, show 4 + (j + 1) * 56 = 4 + j * 56 + 7 * 8 from by omega]
      simpa [by8_append, List.append_assoc, show f.nums.take 7 = f.nums from rfl] using ho
  · rintro σ ds h' ⟨rfl, h21, h22, hf, b, h4, ho⟩
    rw [List.take_of_length_le (by omega)] at ho
    simp [ManPost, h4, hf, hc, hn, hm, ho]

end Go.Proofs.Ythkoheaklmgonaa
