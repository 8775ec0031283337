import Derived.Test.YthkoheaklmgonaaFmC
namespace Go.Proofs.Ythkoheaklmgonaa
open Go Go.Dr
set_option maxRecDepth 100000

def Ft.nums (f : Ft) : List Int := [f.num, f.rank, f.gen, f.level, f.bytes, f.min, f.max]
def numsB (l : List Int) : List Nat := (l.map fun n => be 8 (u64 n)).flatten
def manB (l : List Ft) : List Nat := (l.map fun f => numsB f.nums).flatten

theorem numsB_take (l : List Int) (j : Nat) (hj : j < l.length) : numsB (l.take (j + 1)) = numsB (l.take j) ++ be 8 (u64 l[j]) := by
  unfold numsB
  rw [List.take_add_one, List.getElem?_eq_getElem hj, Option.toList_some, List.map_append, List.flatten_append, List.map_singleton, List.flatten_singleton]
theorem manB_take (l : List Ft) (j : Nat) (hj : j < l.length) : manB (l.take (j + 1)) = manB (l.take j) ++ numsB l[j].nums := by
  unfold manB
  rw [List.take_add_one, List.getElem?_eq_getElem hj, Option.toList_some, List.map_append, List.flatten_append, List.map_singleton, List.flatten_singleton]

/-- what a manifest comes out as -/
def ManPost (h : AH) (l : List Ft) (r : AV) (h' : AH) : Prop :=
  Fr h h' ∧ ((canFrom [] 0 l = true ∧ l.length ≤ 1000 ∧ ∃ b, r = .tuple [b, .int .i64 0] ∧ Own h.next h' 1 (4 + l.length * 56) b (by8 (be 4 l.length ++ manB l))) ∨
     (¬ (canFrom [] 0 l = true ∧ l.length ≤ 1000) ∧ r = .tuple [.nils, .int .i64 1]))

theorem man6 {h : AH} {v : AV} {l : List Ft} {n : Nat} (hv : Sl h 8 n v (feet l)) (hn : l.length = n) (hp : ∀ f ∈ l, f.par.scalar = true) (hb : n < 2 ^ 62) :
    Ev Try.prog S0 (.fn 6) [v] h (ManPost h l) := by
  refine ev_fn comp6 rfl rfl ?_
  simp only [cc6, wpC_seq, wpC_ops, wpOps_row, evS_move, evS_callV, CO.evS_t, CO.evS_c, evLS_nil, evLS_cons, wpN_okV, wpOps_nil, Kseq_normal, upd_some, argS_0, Nat.reduceEqDiff, if_true, if_false, callVal_fn, List.nil_append, List.append_nil, wpN_enter]
  refine (can14 hv hn hp hb).mono ?_
  rintro r h1 ⟨rfl, f1⟩
  cases hc : canFrom [] 0 l
  · simp [ManPost, hc, f1]
  by_cases hm : n ≤ 1000
  case neg =>
    have e1 : (1000 : Int) < (n : Int) := by omega
    have e2 : ¬ l.length ≤ 1000 := by omega
    simp [ManPost, hc, f1, hv.len, e1, e2]
  have e1 : ¬ (1000 : Int) < (n : Int) := by omega
  have e2 : wrapF .u64 (n : Int) = (n : Int) := wrap_u64 (by omega) (by omega)
  simp [hv.len, e1, e2, put15_4 n (by omega)]
  have hB : h.next ≤ h1.next := f1.next
  have o0 : Own h.next (h1.push (.cells (by8 (be 4 n)) false)) 1 4 (.slice h1.next 0 4 4 true 1) (by8 (be 4 n)) := Own.fresh true hB (by simp)
  refine w_count (n := n) (by rfl) (fun j σ ds h' => ds = [] ∧ σ 21 = v ∧ σ 22 = .int .i64 (n : Int) ∧ Fr h h' ∧ ∃ b, σ 4 = b ∧ Own h.next h' 1 (4 + j * 56) b (by8 (be 4 n ++ manB (l.take j)))) (by omega) (by simp) ?_ (fun j σ ds h' hJ => by simp [hJ.2.2.1]) ?_ ?_
  · simp [f1.push, o0, manB]
  · rintro j σ ds h' hj hi ⟨rfl, h21, h22, hf, b, h4, ho⟩
    have hjl : j < l.length := by omega
    obtain ⟨id, o, g1, g2, _⟩ := foot_at (hv.fr hf) hn hjl
    have hpar : l[j].par.scalar = true := hp _ (List.getElem_mem hjl)
    have htake := manB_take l j hjl
    generalize l[j] = f at g2 hpar htake
    have s1 := store_foot h' hpar
    have ld : ∀ c, load1 (h'.push (.cells f.cells false)) h'.next c = ofO "load: out of the known cells" f.cells[c]? := fun c => load1_of (get_push_new _)
    have ld0 : load1 (h'.push (.cells f.cells false)) h'.next 0 = .ok (.int .i64 f.num) := ld 0
    have ld1 : load1 (h'.push (.cells f.cells false)) h'.next 1 = .ok (.int .i64 f.gen) := ld 1
    have ld2 : load1 (h'.push (.cells f.cells false)) h'.next 2 = .ok (.int .i64 f.level) := ld 2
    have ld3 : load1 (h'.push (.cells f.cells false)) h'.next 3 = .ok (.int .i64 f.rank) := ld 3
    have ld4 : load1 (h'.push (.cells f.cells false)) h'.next 4 = .ok (.int .i64 f.min) := ld 4
    have ld5 : load1 (h'.push (.cells f.cells false)) h'.next 5 = .ok (.int .i64 f.max) := ld 5
    have ld6 : load1 (h'.push (.cells f.cells false)) h'.next 6 = .ok (.int .i64 f.bytes) := ld 6
    simp [h21, hi, g1, g2, s1, ld0, ld1, ld2, ld3, ld4, ld5, ld6, splice_eq]
    refine w_count (n := 7) (by rfl) (fun i σ ds h2 => ds = [] ∧ σ 21 = v ∧ σ 22 = .int .i64 (n : Int) ∧ σ 23 = .int .i64 (j : Int) ∧ σ 41 = .agg (f.nums.map fun x => .int .i64 x) ∧ Fr h h2 ∧
      ∃ b, σ 4 = b ∧ Own h.next h2 1 (4 + j * 56 + i * 8) b (by8 (be 4 n ++ manB (l.take j) ++ numsB (f.nums.take i)))) (by omega) (by simp) ?_ (fun _ _ _ _ _ => rfl) ?_ ?_
    · simp [h21, h22, h4, hi, Ft.nums, hf.push, numsB]
      exact ho.fr (Fr.push (.refl _) _)
    · rintro i σ ds h2 hi7 hi ⟨rfl, h21, h22, h23, h41, hf2, b, h4, ho⟩
      have hil : i < f.nums.length := hi7
      have htk := numsB_take f.nums i hil
      have x1 : opIndex true 7 1 (.agg (f.nums.map fun x => .int .i64 x)) (.int .i64 (i : Int)) = .ok (.int .i64 f.nums[i]) := by
        simp only [opIndex]
        rw [if_pos ⟨by omega, by omega⟩]
        simp [aggOne, List.getElem?_eq_getElem hil]
      generalize f.nums[i] = x at htk x1
      have ho2 := ho.fr (Fr.push (.refl h2) (.cells (by8 (be 8 (u64 x))) false))
      have hsl : Sl (h2.push (.cells (by8 (be 8 (u64 x))) false)) 1 8 (.slice h2.next 0 8 8 true 1) (by8 (be 8 (u64 x))) := (Own.fresh (B := 0) true (Nat.zero_le _) (by simp)).sl
      obtain ⟨b', h3, a1, a2, a3, _, _⟩ := ho2.append (bytes := 1) hsl (by have := hf2.next; simp; omega) (by8_scalar _) (by omega) (by omega)
      simp [h21, h22, h23, h41, h4, hi, x1, wrap_u, put15_8 _ (u64_lt x), a1]
      refine ⟨⟨?_, ?_⟩, ?_⟩
      · have := a3.next; have := hf2.next; simp at *; omega
      · intro k hk
        rw [a3.get k hk, get_push_old (by have := hf2.next; omega)]
        exact hf2.get k hk
      · rw [htk, show 4 + j * 56 + (i + 1) * 8 = 4 + j * 56 + i * 8 + 8 from by omega]
        simpa [by8_append, List.append_assoc] using a2
    · rintro σ ds h2 ⟨rfl, h21, h22, h23, h41, hf2, b, h4, ho⟩
      simp [h21, h22, h23, h4, hf2]
      rw [htake, show 4 + (j + 1) * 56 = 4 + j * 56 + 7 * 8 from by omega]
      simpa [by8_append, List.append_assoc, show f.nums.take 7 = f.nums from rfl] using ho
  · rintro σ ds h' ⟨rfl, h21, h22, hf, b, h4, ho⟩
    rw [List.take_of_length_le (by omega)] at ho
    simp [ManPost, h4, hf, hc, hn, hm, ho]

end Go.Proofs.Ythkoheaklmgonaa
