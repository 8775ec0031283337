import Derived.Test.YthkoheaklmgonaaDoorBfA
import Derived.Test.YthkoheaklmgonaaDoorDrClosed
namespace Go.Proofs.YthkoheaklmgonaaDoor
open Go Go.Dr
set_option maxRecDepth 100000

abbrev SB : Sums := closedS 12

def num (n : Int) : Bool := decide (1 ≤ n) && decide (n ≤ 4611686018427387904)

theorem number46 (n : Int) (h : AH) (K : AV → AH → Prop) : Ev Tryd.prog SB (.fn 46) [.int .i64 n] h K = K (.bool (num n)) h := by
  refine Ev.eq (ev_fn comp46 rfl rfl ?_) K
  by_cases h1 : 1 ≤ n <;> by_cases h2 : n ≤ 4611686018427387904 <;> simp [cc46, num, h1, h2]

theorem number49 (n : Int) (h : AH) (K : AV → AH → Prop) : Ev Tryd.prog SB (.fn 49) [.int .i64 n] h K = K (.bool (num n)) h := by
  refine Ev.eq (ev_fn comp49 rfl rfl ?_) K
  by_cases h1 : 1 ≤ n <;> by_cases h2 : n ≤ 4611686018427387904 <;> simp [cc49, num, h1, h2]


theorem get27 {h : AH} {n : Nat} {v : AV} {bs : List Nat} (hv : Sl h 1 n v (by8 bs)) (hb : ∀ x ∈ bs, x < 256) (h1 : 1 ≤ n) (h8 : n ≤ 8) (K : AV → AH → Prop) :
    Ev Tryd.prog SB (.fn 27) [v] h K = K (.tuple [.int .u64 (beV bs : Int), .bool true]) h := by
  refine Ev.eq (ev_fn comp27 rfl rfl ?_) K
  have hl : bs.length = n := by have := hv.1; simpa using this
  have e1 : ¬ (n = 0) := by omega
  have e2 : ¬ (8 < (n : Int)) := by omega
  simp [cc27, hv.len, e1, e2]
  refine w_count (n := n) (by rfl) (fun j σ ds h' => ds = [] ∧ σ 15 = v ∧ σ 16 = .int .i64 (n : Int) ∧ σ 4 = .int .u64 (beV (bs.take j) : Int) ∧ h' = h) (by omega) (by simp) (by simp [beV]) (fun j σ ds h' hJ => by simp [hJ.2.2.1]) ?_ ?_
  · rintro j σ ds h' hj hi ⟨rfl, hs, hn, h4, rfl⟩
    have hjl : j < bs.length := by omega
    obtain ⟨id, o, g1, g2, _⟩ := hv.get1 (k := .i64) (i := (j : Int)) rfl hj (x := .int .u8 (bs[j] : Int)) (by rw [by8_get, List.getElem?_eq_getElem hjl]; rfl)
    have hx : bs[j] < 256 := hb _ (List.getElem_mem hjl)
    have ht : beV (bs.take (j + 1)) = beV (bs.take j) * 256 + bs[j] := by
      rw [List.take_add_one, List.getElem?_eq_getElem hjl, Option.toList_some, beV_append]
    have hlt := beV_lt (bs.take j) (fun x hx => hb x (List.mem_of_mem_take hx))
    rw [List.length_take, Nat.min_eq_left (by omega)] at hlt
    have hlt2 : beV (bs.take j) * 256 ≤ 2 ^ 64 - 256 := by
      have : 256 ^ j ≤ 256 ^ 7 := Nat.pow_le_pow_right (by decide) (by omega)
      omega
    have w1 : wrapF .u64 ((beV (bs.take j) : Int) * 256) = (beV (bs.take j) : Int) * 256 := wrap_u64 (by omega) (by omega)
    have w2 : wrapF .u64 (bs[j] : Int) = (bs[j] : Int) := wrap_u64 (by omega) (by omega)
    have w3 := or_shl (beV (bs.take j)) bs[j] (by omega) hx
    have w4 : wrapF .u64 ((beV (bs.take j) : Int) * 256 + (bs[j] : Int)) = (beV (bs.take j) : Int) * 256 + (bs[j] : Int) := wrap_u64 (by omega) (by omega)
    simp [hs, hn, h4, hi, g1, g2, w1, w2, w3, w4, ht]
  · rintro σ ds h' ⟨rfl, hs, hn, h4, rfl⟩
    rw [List.take_of_length_le (by omega)] at h4
    simp [h4]

theorem get52 {h : AH} {n : Nat} {v : AV} {bs : List Nat} (hv : Sl h 1 n v (by8 bs)) (hb : ∀ x ∈ bs, x < 256) (h1 : 1 ≤ n) (h8 : n ≤ 8) (K : AV → AH → Prop) :
    Ev Tryd.prog SB (.fn 52) [v] h K = K (.tuple [.int .u64 (beV bs : Int), .bool true]) h := by
  refine Ev.eq (ev_fn comp52 rfl rfl ?_) K
  have hl : bs.length = n := by have := hv.1; simpa using this
  have e1 : ¬ ((n : Int) < 1) := by omega
  have e2 : ¬ (8 < (n : Int)) := by omega
  simp [cc52, hv.len, e1, e2]
  refine w_count (n := n) (by rfl) (fun j σ ds h' => ds = [] ∧ σ 15 = v ∧ σ 16 = .int .i64 (n : Int) ∧ σ 4 = .int .u64 (beV (bs.take j) : Int) ∧ h' = h) (by omega) (by simp) (by simp [beV]) (fun j σ ds h' hJ => by simp [hJ.2.2.1]) ?_ ?_
  · rintro j σ ds h' hj hi ⟨rfl, hs, hn, h4, rfl⟩
    have hjl : j < bs.length := by omega
    obtain ⟨id, o, g1, g2, _⟩ := hv.get1 (k := .i64) (i := (j : Int)) rfl hj (x := .int .u8 (bs[j] : Int)) (by rw [by8_get, List.getElem?_eq_getElem hjl]; rfl)
    have hx : bs[j] < 256 := hb _ (List.getElem_mem hjl)
    have ht : beV (bs.take (j + 1)) = beV (bs.take j) * 256 + bs[j] := by
      rw [List.take_add_one, List.getElem?_eq_getElem hjl, Option.toList_some, beV_append]
    have hlt := beV_lt (bs.take j) (fun x hx => hb x (List.mem_of_mem_take hx))
    rw [List.length_take, Nat.min_eq_left (by omega)] at hlt
    have hlt2 : beV (bs.take j) * 256 ≤ 2 ^ 64 - 256 := by
      have : 256 ^ j ≤ 256 ^ 7 := Nat.pow_le_pow_right (by decide) (by omega)
      omega
    have w1 : wrapF .u64 ((beV (bs.take j) : Int) * 256) = (beV (bs.take j) : Int) * 256 := wrap_u64 (by omega) (by omega)
    have w2 : wrapF .u64 (bs[j] : Int) = (bs[j] : Int) := wrap_u64 (by omega) (by omega)
    have w3 : wrapF .u64 ((beV (bs.take j) : Int) * 256 + (bs[j] : Int)) = (beV (bs.take j) : Int) * 256 + (bs[j] : Int) := wrap_u64 (by omega) (by omega)
    simp [hs, hn, h4, hi, g1, g2, w1, w2, w3, ht]
  · rintro σ ds h' ⟨rfl, hs, hn, h4, rfl⟩
    rw [List.take_of_length_le (by omega)] at h4
    simp [h4]

/-- so many of the last bytes laid -/
def fill (k n j : Nat) : List Nat := List.replicate (k - j) 0 ++ (be k n).drop (k - j)

theorem fill_zero (k n : Nat) : fill k n 0 = List.replicate k 0 := by
  simp [fill]
theorem fill_all (k n : Nat) : fill k n k = be k n := by simp [fill]
theorem fill_length (k n j : Nat) (hj : j ≤ k) : (fill k n j).length = k := by
  rw [fill, List.length_append, List.length_replicate, List.length_drop, be_length]; omega

theorem fill_step (k n j : Nat) (hj : j < k) : splice (by8 (fill k n j)) (k - 1 - j) [.int .u8 ((n / 256 ^ j % 256 : Nat) : Int)] = by8 (fill k n (j + 1)) := by
  have h1 : (be k n).drop (k - (j + 1)) = (n / 256 ^ j % 256) :: (be k n).drop (k - j) := by
    have hlt : k - 1 - j < (be k n).length := by rw [be_length]; omega
    have hg := be_get k n j hj
    rw [List.getElem?_eq_getElem hlt] at hg
    rw [show k - (j + 1) = k - 1 - j from by omega, List.drop_eq_getElem_cons hlt, Option.some.inj hg, show k - 1 - j + 1 = k - j from by omega]
  have h2 : fill k n (j + 1) = List.replicate (k - 1 - j) 0 ++ ((n / 256 ^ j % 256) :: (be k n).drop (k - j)) := by
    rw [fill, h1, show k - (j + 1) = k - 1 - j from by omega]
  have h3 : fill k n j = List.replicate (k - 1 - j) 0 ++ (0 :: (be k n).drop (k - j)) := by
    rw [fill, show k - j = (k - 1 - j) + 1 from by omega, List.replicate_succ', List.append_assoc]; rfl
  rw [h2, h3]
  simp only [splice, by8, List.map_append, List.map_cons, List.length_singleton]
  rw [List.take_left' (by simp), ← List.drop_drop, List.drop_left' (by simp)]
  rfl

theorem shr_byte (n j : Nat) (hj : j < 8) : wrapF .u8 (((n : Nat) : Int).fdiv (2 ^ min (8 * j) 64)) = ((n / 256 ^ j % 256 : Nat) : Int) := by
  rw [Nat.min_eq_left (by omega), wrap8, Int.fdiv_eq_ediv_of_nonneg _ (by exact_mod_cast Nat.zero_le _)]
  have : (2 : Int) ^ (8 * j) = ((256 ^ j : Nat) : Int) := by
    rw [Int.pow_mul]; norm_cast
  rw [this]
  norm_cast

theorem put22 (n k : Nat) (hn : n < 2 ^ 64) (hk : k ≤ 8) (h : AH) (K : AV → AH → Prop) :
    Ev Tryd.prog SB (.fn 22) [.int .u64 (n : Int), .int .i64 (k : Int)] h K = K (.slice h.next 0 k k true 1) (h.push (.cells (by8 (be k n)) false)) := by
  refine Ev.eq (ev_fn comp22 rfl rfl ?_) K
  have e1 : max (k : Int) 0 = k := by omega
  have e2 : min (k : Int) 8 = k := by omega
  have e3 : repl [AV.int .u8 0] k = by8 (fill k n 0) := by rw [repl_one, fill_zero]; simp [by8]
  simp [cc22, e1, e2, opMkS_nat 1 1 k [.int .u8 0] .i64 .i64 (by omega) (by omega), e3]
  refine w_count (n := k) (by rfl) (fun j σ ds h' => ds = [] ∧ σ 0 = .int .u64 (n : Int) ∧ σ 5 = .slice h.next 0 k k true 1 ∧ σ 12 = .int .i64 (k : Int) ∧ h' = h.push (.cells (by8 (fill k n j)) false)) (by omega) (by simp) (by simp) (fun j σ ds h' hJ => by simp [hJ.2.2.2.1]) ?_ ?_
  · rintro j σ ds h' hj hi ⟨rfl, h0, h5, h12, rfl⟩
    have w1 : wrapF .i64 ((k : Int) - 1) = (k : Int) - 1 := wrap_i64 (by omega) (by omega)
    have w2 : wrapF .i64 ((k : Int) - 1 - (j : Int)) = ((k - 1 - j : Nat) : Int) := by rw [wrap_i64 (by omega) (by omega)]; omega
    have w3 : wrapF .i64 (8 * (j : Int)) = ((8 * j : Nat) : Int) := by rw [wrap_i64 (by omega) (by omega)]; omega
    have i1 := opIdxV_slice (es := 1) (id := h.next) (off := 0) (len := k) (cap := k) (x := true) (k := .i64) (i := ((k - 1 - j : Nat) : Int)) ⟨by omega, by omega⟩
    have s1 : storeN (h.push (.cells (by8 (fill k n j)) false)) h.next (k - 1 - j) [.int .u8 ((n / 256 ^ j % 256 : Nat) : Int)] = .ok (h.push (.cells (by8 (fill k n (j + 1))) false)) := by
      rw [storeN_one (get_push_new _) (by rw [by8_length, fill_length _ _ _ (by omega)]; omega) rfl, fill_step k n j hj, AH.set_push]
    have b1 := shr_byte n j (by omega)
    have b2 : opBin Tryd.prog .shr 45 false (.int .u64 (n : Int)) (.int .i64 (8 * (j : Int))) = .ok (.int .u64 ((n : Int).fdiv (2 ^ min (8 * j) 64))) := by
      rw [bin_shr_u64 _ _ _ _ _ (by omega), show (8 * (j : Int)).toNat = 8 * j from by omega]
    generalize ((n / 256 ^ j % 256 : Nat) : Int) = x at s1 b1
    simp only [Int.toNat_natCast, Nat.zero_add, Nat.mul_one] at i1
    simp [h0, h5, h12, hi, w1, w2, w3, i1, b1, b2, s1]
  · rintro σ ds h' ⟨rfl, h0, h5, h12, rfl⟩
    simp [h5, fill_all]

theorem tmod256 (q : Nat) : ((q : Nat) : Int).tmod 256 = ((q % 256 : Nat) : Int) := by rw [Int.tmod_eq_emod_of_nonneg (by omega)]; norm_cast
theorem tdiv256 (q : Nat) : ((q : Nat) : Int).tdiv 256 = ((q / 256 : Nat) : Int) := by rw [Int.tdiv_eq_ediv_of_nonneg (by omega)]; norm_cast

theorem put50 (n k : Nat) (hn : n < 2 ^ 64) (hk : k ≤ 8) (h : AH) (K : AV → AH → Prop) :
    Ev Tryd.prog SB (.fn 50) [.int .u64 (n : Int), .int .i64 (k : Int)] h K = K (.slice h.next 0 k k true 1) (h.push (.cells (by8 (be k n)) false)) := by
  refine Ev.eq (ev_fn comp50 rfl rfl ?_) K
  have e1 : max (k : Int) 0 = k := by omega
  have e2 : min (k : Int) 8 = k := by omega
  have e3 : repl [AV.int .u8 0] k = by8 (fill k n 0) := by rw [repl_one, fill_zero]; simp [by8]
  have e4 : wrapF .i64 ((k : Int) - 1) = (k : Int) - 1 := wrap_i64 (by omega) (by omega)
  simp [cc50, e1, e2, opMkS_nat 1 1 k [.int .u8 0] .i64 .i64 (by omega) (by omega), e3, e4]
  refine w_loop (fun r σ ds h' => ∃ j, r + j = k ∧ ds = [] ∧ (∃ q : Nat, q = n / 256 ^ j ∧ σ 0 = .int .u64 (q : Int)) ∧ σ 6 = .slice h.next 0 k k true 1 ∧ σ 7 = .int .i64 ((k : Int) - 1 - (j : Int)) ∧ h' = h.push (.cells (by8 (fill k n j)) false)) k ⟨0, by simp⟩ ?_
  rintro r σ ds h' ⟨j, hr, rfl, ⟨q, hq, h0⟩, h6, h7, rfl⟩
  by_cases hj : j < k
  · have c1 : (j : Int) ≤ (k : Int) - 1 := by omega
    have i1 := opIdxV_slice (es := 1) (id := h.next) (off := 0) (len := k) (cap := k) (x := true) (k := .i64) (i := (k : Int) - 1 - (j : Int)) ⟨by omega, by omega⟩
    have t1 : ((k : Int) - 1 - (j : Int)).toNat = k - 1 - j := by omega
    rw [t1] at i1
    simp only [Nat.zero_add, Nat.mul_one] at i1
    have hqn : q < 2 ^ 64 := by rw [hq]; exact Nat.lt_of_le_of_lt (Nat.div_le_self _ _) hn
    have m1 : (q : Int).tmod 256 = (q : Int) % 256 := Int.tmod_eq_emod_of_nonneg (by omega)
    have m2 : wrapF .u8 ((q : Int) % 256) = (q : Int) % 256 := wrap_u8 (by omega) (by omega)
    have q1 : (q : Int).tdiv 256 = (q : Int) / 256 := Int.tdiv_eq_ediv_of_nonneg (by omega)
    have q2 : wrapF .u64 ((q : Int) / 256) = (q : Int) / 256 := wrap_u64 (by omega) (by omega)
    have w1 : wrapF .i64 ((k : Int) - 1 - (j : Int) - 1) = (k : Int) - 1 - ((j + 1 : Nat) : Int) := by rw [wrap_i64 (by omega) (by omega)]; omega
    have s1 : storeN (h.push (.cells (by8 (fill k n j)) false)) h.next (k - 1 - j) [.int .u8 ((q : Int) % 256)] = .ok (h.push (.cells (by8 (fill k n (j + 1))) false)) := by
      rw [show (q : Int) % 256 = ((n / 256 ^ j % 256 : Nat) : Int) from by rw [← hq]; omega]
      rw [storeN_one (get_push_new _) (by rw [by8_length, fill_length _ _ _ (by omega)]; omega) rfl, fill_step k n j hj, AH.set_push]
    simp [h0, h6, h7, c1, i1, m1, m2, q1, q2, s1, w1, Kloop_normal]
    have e : ((q / 256 : Nat) : Int) = ((n / 256 ^ (j + 1) : Nat) : Int) := by rw [hq, Nat.div_div_eq_div_mul, ← Nat.pow_succ]
    exact ⟨r - 1, by omega, j + 1, by omega, by simpa using e, by simp⟩
  · have hjk : j = k := by omega
    subst hjk
    have c1 : ¬ ((j : Int) ≤ (j : Int) - 1) := by omega
    simp [h6, h7, c1, fill_all]

def u64 (n : Int) : Nat := (n % 18446744073709551616).toNat
theorem u64_lt (n : Int) : u64 n < 2 ^ 64 := by unfold u64; omega
theorem wrap_u (n : Int) : wrapF .u64 n = (u64 n : Int) := by rw [wrap64]; unfold u64; omega

theorem put22_8 (n : Nat) (hn : n < 2 ^ 64) (h : AH) (K : AV → AH → Prop) :
    Ev Tryd.prog SB (.fn 22) [.int .u64 (n : Int), .int .i64 8] h K = K (.slice h.next 0 8 8 true 1) (h.push (.cells (by8 (be 8 n)) false)) := put22 n 8 hn (by omega) h K
theorem put22_4 (n : Nat) (hn : n < 2 ^ 64) (h : AH) (K : AV → AH → Prop) :
    Ev Tryd.prog SB (.fn 22) [.int .u64 (n : Int), .int .i64 4] h K = K (.slice h.next 0 4 4 true 1) (h.push (.cells (by8 (be 4 n)) false)) := put22 n 4 hn (by omega) h K
theorem put50_8 (n : Nat) (hn : n < 2 ^ 64) (h : AH) (K : AV → AH → Prop) :
    Ev Tryd.prog SB (.fn 50) [.int .u64 (n : Int), .int .i64 8] h K = K (.slice h.next 0 8 8 true 1) (h.push (.cells (by8 (be 8 n)) false)) := put50 n 8 hn (by omega) h K
theorem put50_4 (n : Nat) (hn : n < 2 ^ 64) (h : AH) (K : AV → AH → Prop) :
    Ev Tryd.prog SB (.fn 50) [.int .u64 (n : Int), .int .i64 4] h K = K (.slice h.next 0 4 4 true 1) (h.push (.cells (by8 (be 4 n)) false)) := put50 n 4 hn (by omega) h K

theorem big24 (n : Int) (h : AH) (K : AV → AH → Prop) :
    Ev Tryd.prog SB (.fn 24) [.int .i64 n] h K = K (.slice h.next 0 8 8 true 1) (h.push (.cells (by8 (be 8 (u64 n))) false)) := by
  refine Ev.eq (ev_fn comp24 rfl rfl ?_) K
  simp [cc24, wrap_u, put50_8 _ (u64_lt n)]

theorem int28 {h : AH} {n k : Nat} {v : AV} {bs : List Nat} (hv : Sl h 1 n v (by8 bs)) (hb : ∀ x ∈ bs, x < 256) (h1 : 1 ≤ k) (h8 : k ≤ 8) (hn : k ≤ n) :
    ∃ v', (∀ g, Sl g 1 n v (by8 bs) → Sl g 1 (n - k) v' (by8 (bs.drop k))) ∧ ∀ K, Ev Tryd.prog SB (.fn 28) [v, .int .i64 (k : Int)] h K = K (.tuple [.int .i64 (wrapF .i64 (beV (bs.take k) : Int)), v', .bool true]) h := by
  have hl : bs.length = n := by have := hv.1; simpa using this
  obtain ⟨u, e1, s1⟩ := hv.slice (lo := none) (hi := some (.int .i64 (k : Int))) (a := 0) (b := k) (.inl ⟨rfl, rfl⟩) (.inr ⟨.i64, rfl⟩) (by omega) hn
  obtain ⟨v', e2, _⟩ := hv.slice (lo := some (.int .i64 (k : Int))) (hi := none) (a := k) (b := n) (.inr ⟨.i64, rfl⟩) (.inl ⟨rfl, rfl⟩) hn (Nat.le_refl _)
  have s1' : Sl h 1 k u (by8 (bs.take k)) := by simpa [by8_take, by8_drop] using s1
  have s2' : ∀ g, Sl g 1 n v (by8 bs) → Sl g 1 (n - k) v' (by8 (bs.drop k)) := by
    intro g hg
    obtain ⟨v'', e3, s3⟩ := hg.slice (lo := some (.int .i64 (k : Int))) (hi := none) (a := k) (b := n) (.inr ⟨.i64, rfl⟩) (.inl ⟨rfl, rfl⟩) hn (Nat.le_refl _)
    rw [e2] at e3
    cases e3
    have : (bs.drop k).take (n - k) = bs.drop k := List.take_of_length_le (by simp; omega)
    simpa [by8_take, by8_drop, this] using s3
  refine ⟨v', s2', fun K => Ev.eq (ev_fn comp28 rfl rfl ?_) K⟩
  have c1 : ¬ ((n : Int) < (k : Int)) := by omega
  simp [cc28, hv.len, c1, e1, e2, get52 s1' (fun x hx => hb x (List.mem_of_mem_take hx)) h1 h8]

theorem int28_short {h : AH} {n k : Nat} {v : AV} {l : List AV} (hv : Sl h 1 n v l) (hn : n < k) (K : AV → AH → Prop) :
    Ev Tryd.prog SB (.fn 28) [v, .int .i64 (k : Int)] h K = K (.tuple [.int .i64 0, .nils, .bool false]) h := by
  refine Ev.eq (ev_fn comp28 rfl rfl ?_) K
  have c1 : ((n : Int) < (k : Int)) := by omega
  simp [cc28, hv.len, c1]


theorem equal10 {h : AH} {v u : AV} {l : List Nat} {n : Nat} (hv : Sl h 1 n v (by8 l)) (hu : Sl h 1 n u (by8 l)) (hn : n < 2 ^ 62) (K : AV → AH → Prop) : Ev Tryd.prog SB (.fn 10) [v, u] h K = K (.bool true) h := by
  refine Ev.eq (ev_fn comp10 rfl rfl ?_) K
  have hl : l.length = n := by have := hv.1; simpa using this
  simp [cc10, hv.len, hu.len]
  refine w_count (n := n) (by rfl) (fun j σ ds h' => ds = [] ∧ σ 0 = v ∧ σ 1 = u ∧ σ 12 = .int .i64 (n : Int) ∧ h' = h) (by omega) (by simp) (by simp) (fun j σ ds h' hJ => by simp [hJ.2.2.2.1]) ?_ ?_
  · rintro j σ ds h' hj hi ⟨rfl, e0, e1, e12, rfl⟩
    have hjl : j < l.length := by omega
    obtain ⟨id, o, g1, g2, _⟩ := hv.get1 (k := .i64) (i := (j : Int)) rfl hj (x := .int .u8 (l[j] : Int)) (by rw [by8_get, List.getElem?_eq_getElem hjl]; rfl)
    obtain ⟨id', o', g1', g2', _⟩ := hu.get1 (k := .i64) (i := (j : Int)) rfl hj (x := .int .u8 (l[j] : Int)) (by rw [by8_get, List.getElem?_eq_getElem hjl]; rfl)
    simp [e0, e1, e12, hi, g1, g2, g1', g2']
  · rintro σ ds h' ⟨rfl, e0, e1, e12, rfl⟩
    simp


theorem chunk26 {h : AH} {v : AV} (hv : v.cells = [v]) (K : AV → AH → Prop) : Ev Tryd.prog SB (.fn 26) [v, .int .i64 8] h K =
    K (.func (.func 51) [] [.ptr h.next 0, .ptr (h.next + 1) 0]) ((h.push (.cells [v] false)).push (.cells [.int .i64 8] false)) := by
  refine Ev.eq (ev_fn comp26 rfl rfl ?_) K
  have l1 : load1 ((h.push (.cells [v] false)).push (.cells [.int .i64 8] false)) (h.next + 1) 0 = .ok (.int .i64 8) := load1_of (get_push_new _)
  simp [cc26, hv, l1]

theorem chunk51 {h : AH} {v : AV} {bs : List Nat} {N ps pn l : Nat} (hN : N ≤ 1000) (Inv : Nat → AH → Prop)
    (hi : ∀ j g, Inv j g → load1 g ps 0 = .ok v ∧ load1 g pn 0 = .ok (.int .i64 8) ∧ Sl g 1 (8 * N) v (by8 bs))
    (hy : ∀ j g u, j < N → Inv j g → Sl g 1 8 u (by8 ((bs.drop (8 * j)).take 8)) → Ev Tryd.prog SB (.yield l) [u] g fun r g' => r = .bool true ∧ Inv (j + 1) g') (h0 : Inv 0 h) :
    Ev Tryd.prog SB (.fn 51) [.func (.yield l) [] [], .ptr ps 0, .ptr pn 0] h fun _ g => Inv N g := by
  refine ev_fn comp51 rfl rfl ?_
  simp [cc51]
  refine w_loop (fun r σ ds g => ∃ j, r + j = N ∧ ds = [] ∧ σ 0 = .func (.yield l) [] [] ∧ σ 1 = .ptr ps 0 ∧ σ 2 = .ptr pn 0 ∧ σ 4 = .int .i64 (8 * (j : Int)) ∧ Inv j g) N ⟨0, by simp [h0]⟩ ?_
  rintro r σ ds g ⟨j, hr, rfl, e0, e1, e2, e4, hI⟩
  obtain ⟨l1, l2, hs⟩ := hi j g hI
  by_cases hj : j < N
  · have c1 : 8 * (j : Int) < 8 * (N : Int) := by omega
    have c1' : (8 * (j : Int) < ((8 * N : Nat) : Int)) := by omega
    obtain ⟨u1, f1, s1⟩ := hs.slice (lo := some (.int .i64 ((8 * j : Nat) : Int))) (hi := none) (a := 8 * j) (b := 8 * N) (.inr ⟨.i64, rfl⟩) (.inl ⟨rfl, rfl⟩) (by omega) (Nat.le_refl _)
    obtain ⟨u, f2, s2⟩ := hs.slice3 (k1 := .i64) (k2 := .i64) (k3 := .i64) (a := 8 * j) (b := 8 * j + 8) (by omega) (by omega)
    have s2' : Sl g 1 8 u (by8 ((bs.drop (8 * j)).take 8)) := by
      rw [show 8 * j + 8 - 8 * j = 8 from by omega] at s2
      simpa [by8_take, by8_drop] using s2
    have m1 : min (8 : Int) ((8 * N - 8 * j : Nat) : Int) = 8 := by omega
    have w1 : wrapF .i64 (8 * (j : Int) + 8) = 8 * (j : Int) + 8 := wrap_i64 (by omega) (by omega)
    have t1 : ((8 * j : Nat) : Int) = 8 * (j : Int) := by omega
    have t2 : ((8 * j + 8 : Nat) : Int) = 8 * (j : Int) + 8 := by omega
    rw [t1] at f1 f2
    rw [t2] at f2
    simp [e0, e1, e2, e4, l1, l2, hs.len, hj, f1, s1.len, m1, w1, f2]
    refine ⟨hs.same, (hy j g u hj hI s2').mono ?_⟩
    rintro r' g' ⟨rfl, hI'⟩
    obtain ⟨l1', l2', _⟩ := hi (j + 1) g' hI'
    simp [e0, e1, e2, e4, l2', w1, Kloop_normal]
    exact ⟨r - 1, by omega, j + 1, by omega, by omega, hI'⟩
  · have hjN : j = N := by omega
    subst hjN
    simp [e0, e1, e2, e4, l1, l2, hs.len, hI]


/-- numbers as cells -/
def iv (l : List Int) : List AV := l.map fun n => .int .i64 n
@[simp] theorem iv_length (l : List Int) : (iv l).length = l.length := by simp [iv]
theorem iv_get (l : List Int) (i : Nat) : (iv l)[i]? = (l[i]?).map fun n => .int .i64 n := by simp [iv]
theorem iv_append (l r : List Int) : iv (l ++ r) = iv l ++ iv r := by simp [iv]
theorem iv_scalar : ∀ (l : List Int), allScalar (iv l) = true
  | [] => rfl
  | x :: l => by
    show (AV.scalar (.int .i64 x) && allScalar (iv l)) = true
    rw [iv_scalar l]; rfl

theorem equal19 {h : AH} {v u : AV} {l : List Int} {n : Nat} (hv : Sl h 1 n v (iv l)) (hu : Sl h 1 n u (iv l)) (hn : n < 2 ^ 62) (K : AV → AH → Prop) : Ev Tryd.prog SB (.fn 19) [v, u] h K = K (.bool true) h := by
  refine Ev.eq (ev_fn comp19 rfl rfl ?_) K
  have hl : l.length = n := by have := hv.1; simpa using this
  simp [cc19, hv.len, hu.len]
  refine w_count (n := n) (by rfl) (fun j σ ds h' => ds = [] ∧ σ 0 = v ∧ σ 1 = u ∧ σ 12 = .int .i64 (n : Int) ∧ h' = h) (by omega) (by simp) (by simp) (fun j σ ds h' hJ => by simp [hJ.2.2.2.1]) ?_ ?_
  · rintro j σ ds h' hj hi ⟨rfl, e0, e1, e12, rfl⟩
    have hjl : j < l.length := by omega
    obtain ⟨id, o, g1, g2, _⟩ := hv.get1 (k := .i64) (i := (j : Int)) rfl hj (x := .int .i64 l[j]) (by rw [iv_get, List.getElem?_eq_getElem hjl]; rfl)
    obtain ⟨id', o', g1', g2', _⟩ := hu.get1 (k := .i64) (i := (j : Int)) rfl hj (x := .int .i64 l[j]) (by rw [iv_get, List.getElem?_eq_getElem hjl]; rfl)
    simp [e0, e1, e12, hi, g1, g2, g1', g2']
  · rintro σ ds h' ⟨rfl, e0, e1, e12, rfl⟩
    simp

end Go.Proofs.YthkoheaklmgonaaDoor
