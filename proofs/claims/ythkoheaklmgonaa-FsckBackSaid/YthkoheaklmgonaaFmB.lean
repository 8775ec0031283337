import Derived.Test.YthkoheaklmgonaaFmA
namespace Go.Proofs.Ythkoheaklmgonaa
open Go Go.Dr
set_option maxRecDepth 100000

abbrev S0 : Sums := fun _ => none

/-! ### numbers -/

def num (n : Int) : Bool := decide (1 ≤ n) && decide (n ≤ 4611686018427387904)

theorem number29 (n : Int) (h : AH) (K : AV → AH → Prop) : Ev Try.prog S0 (.fn 29) [.int .i64 n] h K = K (.bool (num n)) h := by
  refine Ev.eq (ev_fn comp29 rfl rfl ?_) K
  by_cases h1 : 1 ≤ n <;> by_cases h2 : n ≤ 4611686018427387904 <;> simp [cc29, num, h1, h2]

theorem number25 (n : Int) (h : AH) (K : AV → AH → Prop) : Ev Try.prog S0 (.fn 25) [.int .i64 n] h K = K (.bool (num n)) h := by
  refine Ev.eq (ev_fn comp25 rfl rfl ?_) K
  by_cases h1 : 1 ≤ n <;> by_cases h2 : n ≤ 4611686018427387904 <;> simp [cc25, num, h1, h2]

/-- a footer -/
structure Ft where
  num : Int
  gen : Int
  level : Int
  rank : Int
  min : Int
  max : Int
  bytes : Int
  par : AV

def Ft.cells (f : Ft) : List AV := [.int .i64 f.num, .int .i64 f.gen, .int .i64 f.level, .int .i64 f.rank, .int .i64 f.min, .int .i64 f.max, .int .i64 f.bytes, f.par]

def can1 (f : Ft) : Bool := num f.num && (num f.rank && (num f.gen && (decide (1 ≤ f.level) && (decide (f.level ≤ 3) && (decide (0 ≤ f.bytes) && (decide (f.bytes ≤ 2147483647) && decide (f.min ≤ f.max)))))))

theorem can24 (f : Ft) (h : AH) (K : AV → AH → Prop) : Ev Try.prog S0 (.fn 24) [.agg f.cells] h K = K (.bool (can1 f)) (h.push (.cells f.cells false)) := by
  refine Ev.eq (ev_fn comp24 rfl rfl ?_) K
  cases h1 : num f.num
  · simp [cc24, Ft.cells, can1, number29, h1]
  cases h2 : num f.rank
  · simp [cc24, Ft.cells, can1, number29, h1, h2]
  cases h3 : num f.gen
  · simp [cc24, Ft.cells, can1, number29, h1, h2, h3]
  by_cases h4 : 1 ≤ f.level
  case neg => simp [cc24, Ft.cells, can1, number29, h1, h2, h3, h4]
  by_cases h5 : f.level ≤ 3
  case neg => simp [cc24, Ft.cells, can1, number29, h1, h2, h3, h4, h5]
  by_cases h6 : 0 ≤ f.bytes
  case neg => simp [cc24, Ft.cells, can1, number29, h1, h2, h3, h4, h5, h6]
  by_cases h7 : f.bytes ≤ 2147483647
  case neg => simp [cc24, Ft.cells, can1, number29, h1, h2, h3, h4, h5, h6, h7]
  simp [cc24, Ft.cells, can1, number29, h1, h2, h3, h4, h5, h6, h7]

/-! ### numbers as bytes -/

theorem get19 {h : AH} {n : Nat} {v : AV} {bs : List Nat} (hv : Sl h 1 n v (by8 bs)) (hb : ∀ x ∈ bs, x < 256) (h1 : 1 ≤ n) (h8 : n ≤ 8) (K : AV → AH → Prop) :
    Ev Try.prog S0 (.fn 19) [v] h K = K (.tuple [.int .u64 (beV bs : Int), .bool true]) h := by
  refine Ev.eq (ev_fn comp19 rfl rfl ?_) K
  have hl : bs.length = n := by have := hv.1; simpa using this
  have e1 : ¬ (n = 0) := by omega
  have e2 : ¬ (8 < (n : Int)) := by omega
  simp [cc19, hv.len, e1, e2]
  refine w_count (n := n) (by rfl) (fun j σ ds h' => ds = [] ∧ σ 15 = v ∧ σ 16 = .int .i64 (n : Int) ∧ σ 4 = .int .u64 (beV (bs.take j) : Int) ∧ h' = h) (by omega) (by simp) (by simp [beV]) (fun j σ ds h' hJ => by simp [hJ.2.2.1]) ?_ ?_
  · rintro j σ ds h' hj hi ⟨rfl, hs, hn, h4, rfl⟩
    have hjl : j < bs.length := by omega
    obtain ⟨id, o, g1, g2, _⟩ := hv.get1 (k := .i64) (i := (j : Int)) rfl hj (x := .int .u8 (bs[j] : Int)) (by rw [by8_get, List.getElem?_eq_getElem hjl]; rfl)
    have hx : bs[j] < 256 := hb _ (List.getElem_mem hjl)
    have ht : beV (bs.take (j + 1)) = beV (bs.take j) * 256 + bs[j] := by
      rw [List.take_add_one, List.getElem?_eq_getElem hjl, Option.toList_some, beV_append]
    have hlt := beV_lt (bs.take j) (fun x hx => hb x (List.mem_of_mem_take hx))
    rw [List.length_take, Nat.min_eq_left (by omega)] at hlt
    have hlt2 : beV (bs.take j) * 256 ≤ 2 ^ 64 - 256 := by
      have : 256 ^ j ≤ 256 ^ 7 := Nat.pow_le_pow_right (by decide) (by omega)
      omega
    have w1 : wrapF .u64 ((beV (bs.take j) : Int) * 256) = (beV (bs.take j) : Int) * 256 := wrap_u64 (by omega) (by omega)
    have w2 : wrapF .u64 (bs[j] : Int) = (bs[j] : Int) := wrap_u64 (by omega) (by omega)
    have w3 := or_shl (beV (bs.take j)) bs[j] (by omega) hx
    have w4 : wrapF .u64 ((beV (bs.take j) : Int) * 256 + (bs[j] : Int)) = (beV (bs.take j) : Int) * 256 + (bs[j] : Int) := wrap_u64 (by omega) (by omega)
    simp [hs, hn, h4, hi, g1, g2, w1, w2, w3, w4, ht]
  · rintro σ ds h' ⟨rfl, hs, hn, h4, rfl⟩
    rw [List.take_of_length_le (by omega)] at h4
    simp [h4]

theorem get27 {h : AH} {n : Nat} {v : AV} {bs : List Nat} (hv : Sl h 1 n v (by8 bs)) (hb : ∀ x ∈ bs, x < 256) (h1 : 1 ≤ n) (h8 : n ≤ 8) (K : AV → AH → Prop) :
    Ev Try.prog S0 (.fn 27) [v] h K = K (.tuple [.int .u64 (beV bs : Int), .bool true]) h := by
  refine Ev.eq (ev_fn comp27 rfl rfl ?_) K
  have hl : bs.length = n := by have := hv.1; simpa using this
  have e1 : ¬ ((n : Int) < 1) := by omega
  have e2 : ¬ (8 < (n : Int)) := by omega
  simp [cc27, hv.len, e1, e2]
  refine w_count (n := n) (by rfl) (fun j σ ds h' => ds = [] ∧ σ 15 = v ∧ σ 16 = .int .i64 (n : Int) ∧ σ 4 = .int .u64 (beV (bs.take j) : Int) ∧ h' = h) (by omega) (by simp) (by simp [beV]) (fun j σ ds h' hJ => by simp [hJ.2.2.1]) ?_ ?_
  · rintro j σ ds h' hj hi ⟨rfl, hs, hn, h4, rfl⟩
    have hjl : j < bs.length := by omega
    obtain ⟨id, o, g1, g2, _⟩ := hv.get1 (k := .i64) (i := (j : Int)) rfl hj (x := .int .u8 (bs[j] : Int)) (by rw [by8_get, List.getElem?_eq_getElem hjl]; rfl)
    have hx : bs[j] < 256 := hb _ (List.getElem_mem hjl)
    have ht : beV (bs.take (j + 1)) = beV (bs.take j) * 256 + bs[j] := by
      rw [List.take_add_one, List.getElem?_eq_getElem hjl, Option.toList_some, beV_append]
    have hlt := beV_lt (bs.take j) (fun x hx => hb x (List.mem_of_mem_take hx))
    rw [List.length_take, Nat.min_eq_left (by omega)] at hlt
    have hlt2 : beV (bs.take j) * 256 ≤ 2 ^ 64 - 256 := by
      have : 256 ^ j ≤ 256 ^ 7 := Nat.pow_le_pow_right (by decide) (by omega)
      omega
    have w1 : wrapF .u64 ((beV (bs.take j) : Int) * 256) = (beV (bs.take j) : Int) * 256 := wrap_u64 (by omega) (by omega)
    have w2 : wrapF .u64 (bs[j] : Int) = (bs[j] : Int) := wrap_u64 (by omega) (by omega)
    have w3 : wrapF .u64 ((beV (bs.take j) : Int) * 256 + (bs[j] : Int)) = (beV (bs.take j) : Int) * 256 + (bs[j] : Int) := wrap_u64 (by omega) (by omega)
    simp [hs, hn, h4, hi, g1, g2, w1, w2, w3, ht]
  · rintro σ ds h' ⟨rfl, hs, hn, h4, rfl⟩
    rw [List.take_of_length_le (by omega)] at h4
    simp [h4]

/-- so many of the last bytes laid -/
def fill (k n j : Nat) : List Nat := List.replicate (k - j) 0 ++ (be k n).drop (k - j)

theorem fill_zero (k n : Nat) : fill k n 0 = List.replicate k 0 := by
  simp [fill]
theorem fill_all (k n : Nat) : fill k n k = be k n := by simp [fill]
theorem fill_length (k n j : Nat) (hj : j ≤ k) : (fill k n j).length = k := by
  rw [fill, List.length_append, List.length_replicate, List.length_drop, be_length]; omega

theorem fill_step (k n j : Nat) (hj : j < k) : splice (by8 (fill k n j)) (k - 1 - j) [.int .u8 ((n / 256 ^ j % 256 : Nat) : Int)] = by8 (fill k n (j + 1)) := by
  have h1 : (be k n).drop (k - (j + 1)) = (n / 256 ^ j % 256) :: (be k n).drop (k - j) := by
    have hlt : k - 1 - j < (be k n).length := by rw [be_length]; omega
    have hg := be_get k n j hj
    rw [List.getElem?_eq_getElem hlt] at hg
    rw [show k - (j + 1) = k - 1 - j from by omega, List.drop_eq_getElem_cons hlt, Option.some.inj hg, show k - 1 - j + 1 = k - j from by omega]
  have h2 : fill k n (j + 1) = List.replicate (k - 1 - j) 0 ++ ((n / 256 ^ j % 256) :: (be k n).drop (k - j)) := by
    rw [fill, h1, show k - (j + 1) = k - 1 - j from by omega]
  have h3 : fill k n j = List.replicate (k - 1 - j) 0 ++ (0 :: (be k n).drop (k - j)) := by
    rw [fill, show k - j = (k - 1 - j) + 1 from by omega, List.replicate_succ', List.append_assoc]; rfl
  rw [h2, h3]
  simp only [splice, by8, List.map_append, List.map_cons, List.length_singleton]
  rw [List.take_left' (by simp), ← List.drop_drop, List.drop_left' (by simp)]
  rfl

theorem shr_byte (n j : Nat) (hj : j < 8) : wrapF .u8 (((n : Nat) : Int).fdiv (2 ^ min (8 * j) 64)) = ((n / 256 ^ j % 256 : Nat) : Int) := by
  rw [Nat.min_eq_left (by omega), wrap8, Int.fdiv_eq_ediv_of_nonneg _ (by exact_mod_cast Nat.zero_le _)]
  have : (2 : Int) ^ (8 * j) = ((256 ^ j : Nat) : Int) := by
    rw [Int.pow_mul]; norm_cast
  rw [this]
  norm_cast

theorem put15 (n k : Nat) (hn : n < 2 ^ 64) (hk : k ≤ 8) (h : AH) (K : AV → AH → Prop) :
    Ev Try.prog S0 (.fn 15) [.int .u64 (n : Int), .int .i64 (k : Int)] h K = K (.slice h.next 0 k k true 1) (h.push (.cells (by8 (be k n)) false)) := by
  refine Ev.eq (ev_fn comp15 rfl rfl ?_) K
  have e1 : max (k : Int) 0 = k := by omega
  have e2 : min (k : Int) 8 = k := by omega
  have e3 : repl [AV.int .u8 0] k = by8 (fill k n 0) := by rw [repl_one, fill_zero]; simp [by8]
  simp [cc15, e1, e2, opMkS_nat 1 1 k [.int .u8 0] .i64 .i64 (by omega) (by omega), e3]
  refine w_count (n := k) (by rfl) (fun j σ ds h' => ds = [] ∧ σ 0 = .int .u64 (n : Int) ∧ σ 5 = .slice h.next 0 k k true 1 ∧ σ 12 = .int .i64 (k : Int) ∧ h' = h.push (.cells (by8 (fill k n j)) false)) (by omega) (by simp) (by simp) (fun j σ ds h' hJ => by simp [hJ.2.2.2.1]) ?_ ?_
  · rintro j σ ds h' hj hi ⟨rfl, h0, h5, h12, rfl⟩
    have w1 : wrapF .i64 ((k : Int) - 1) = (k : Int) - 1 := wrap_i64 (by omega) (by omega)
    have w2 : wrapF .i64 ((k : Int) - 1 - (j : Int)) = ((k - 1 - j : Nat) : Int) := by rw [wrap_i64 (by omega) (by omega)]; omega
    have w3 : wrapF .i64 (8 * (j : Int)) = ((8 * j : Nat) : Int) := by rw [wrap_i64 (by omega) (by omega)]; omega
    have i1 := opIdxV_slice (es := 1) (id := h.next) (off := 0) (len := k) (cap := k) (x := true) (k := .i64) (i := ((k - 1 - j : Nat) : Int)) ⟨by omega, by omega⟩
    have s1 : storeN (h.push (.cells (by8 (fill k n j)) false)) h.next (k - 1 - j) [.int .u8 ((n / 256 ^ j % 256 : Nat) : Int)] = .ok (h.push (.cells (by8 (fill k n (j + 1))) false)) := by
      rw [storeN_one (get_push_new _) (by rw [by8_length, fill_length _ _ _ (by omega)]; omega) rfl, fill_step k n j hj, AH.set_push]
    have b1 := shr_byte n j (by omega)
    have b2 : opBin Try.prog .shr 40 false (.int .u64 (n : Int)) (.int .i64 (8 * (j : Int))) = .ok (.int .u64 ((n : Int).fdiv (2 ^ min (8 * j) 64))) := by
      rw [bin_shr_u64 _ _ _ _ _ (by omega), show (8 * (j : Int)).toNat = 8 * j from by omega]
    generalize ((n / 256 ^ j % 256 : Nat) : Int) = x at s1 b1
    simp only [Int.toNat_natCast, Nat.zero_add, Nat.mul_one] at i1
    simp [h0, h5, h12, hi, w1, w2, w3, i1, b1, b2, s1]
  · rintro σ ds h' ⟨rfl, h0, h5, h12, rfl⟩
    simp [h5, fill_all]

theorem tmod256 (q : Nat) : ((q : Nat) : Int).tmod 256 = ((q % 256 : Nat) : Int) := by rw [Int.tmod_eq_emod_of_nonneg (by omega)]; norm_cast
theorem tdiv256 (q : Nat) : ((q : Nat) : Int).tdiv 256 = ((q / 256 : Nat) : Int) := by rw [Int.tdiv_eq_ediv_of_nonneg (by omega)]; norm_cast

theorem put17 (n k : Nat) (hn : n < 2 ^ 64) (hk : k ≤ 8) (h : AH) (K : AV → AH → Prop) :
    Ev Try.prog S0 (.fn 17) [.int .u64 (n : Int), .int .i64 (k : Int)] h K = K (.slice h.next 0 k k true 1) (h.push (.cells (by8 (be k n)) false)) := by
  refine Ev.eq (ev_fn comp17 rfl rfl ?_) K
  have e1 : max (k : Int) 0 = k := by omega
  have e2 : min (k : Int) 8 = k := by omega
  have e3 : repl [AV.int .u8 0] k = by8 (fill k n 0) := by rw [repl_one, fill_zero]; simp [by8]
  have e4 : wrapF .i64 ((k : Int) - 1) = (k : Int) - 1 := wrap_i64 (by omega) (by omega)
  simp [cc17, e1, e2, opMkS_nat 1 1 k [.int .u8 0] .i64 .i64 (by omega) (by omega), e3, e4]
  refine w_loop (fun r σ ds h' => ∃ j, r + j = k ∧ ds = [] ∧ (∃ q : Nat, q = n / 256 ^ j ∧ σ 0 = .int .u64 (q : Int)) ∧ σ 6 = .slice h.next 0 k k true 1 ∧ σ 7 = .int .i64 ((k : Int) - 1 - (j : Int)) ∧ h' = h.push (.cells (by8 (fill k n j)) false)) k ⟨0, by simp⟩ ?_
  rintro r σ ds h' ⟨j, hr, rfl, ⟨q, hq, h0⟩, h6, h7, rfl⟩
  by_cases hj : j < k
  · have c1 : (j : Int) ≤ (k : Int) - 1 := by omega
    have i1 := opIdxV_slice (es := 1) (id := h.next) (off := 0) (len := k) (cap := k) (x := true) (k := .i64) (i := (k : Int) - 1 - (j : Int)) ⟨by omega, by omega⟩
    have t1 : ((k : Int) - 1 - (j : Int)).toNat = k - 1 - j := by omega
    rw [t1] at i1
    simp only [Nat.zero_add, Nat.mul_one] at i1
    have hqn : q < 2 ^ 64 := by rw [hq]; exact Nat.lt_of_le_of_lt (Nat.div_le_self _ _) hn
    have m1 : (q : Int).tmod 256 = (q : Int) % 256 := Int.tmod_eq_emod_of_nonneg (by omega)
    have m2 : wrapF .u8 ((q : Int) % 256) = (q : Int) % 256 := wrap_u8 (by omega) (by omega)
    have q1 : (q : Int).tdiv 256 = (q : Int) / 256 := Int.tdiv_eq_ediv_of_nonneg (by omega)
    have q2 : wrapF .u64 ((q : Int) / 256) = (q : Int) / 256 := wrap_u64 (by omega) (by omega)
    have w1 : wrapF .i64 ((k : Int) - 1 - (j : Int) - 1) = (k : Int) - 1 - ((j + 1 : Nat) : Int) := by rw [wrap_i64 (by omega) (by omega)]; omega
    have s1 : storeN (h.push (.cells (by8 (fill k n j)) false)) h.next (k - 1 - j) [.int .u8 ((q : Int) % 256)] = .ok (h.push (.cells (by8 (fill k n (j + 1))) false)) := by
      rw [show (q : Int) % 256 = ((n / 256 ^ j % 256 : Nat) : Int) from by rw [← hq]; omega]
      rw [storeN_one (get_push_new _) (by rw [by8_length, fill_length _ _ _ (by omega)]; omega) rfl, fill_step k n j hj, AH.set_push]
    simp [h0, h6, h7, c1, i1, m1, m2, q1, q2, s1, w1, Kloop_normal]
    have e : ((q / 256 : Nat) : Int) = ((n / 256 ^ (j + 1) : Nat) : Int) := by rw [hq, Nat.div_div_eq_div_mul, ← Nat.pow_succ]
    exact ⟨r - 1, by omega, j + 1, by omega, by simpa using e, by simp⟩
  · have hjk : j = k := by omega
    subst hjk
    have c1 : ¬ ((j : Int) ≤ (j : Int) - 1) := by omega
    simp [h6, h7, c1, fill_all]

end Go.Proofs.Ythkoheaklmgonaa
