/-
  Texts joined: IyCrc, IyCodec7, IyCodec8, IyCodec9, IyCodec10, IyCodec11, IyRcod1, IyRcod2, IyCodec12, IyCodec13, IyRcod3, IyRcod4, IyRcod5, IyRcod6, IyCodec14, IyRcod7, IyLabels8, IyLabels9, IyChunk1, IyChunk2, IyChunk3, IyChunk4, DrMaps, IyM1, IyM2, IyChunk5, IyChunk6, IyChunk7, IyChunk8, IyM3, IyM4, IyM5, IyM6, IyE, DrApp, IyN1, IyN2, IyR1, IyR2, IyR3, IyR4.
-/
import Derived.Test.YtkbddcapcjdenaaGreatDoorT5
import Derived.Test.YtkbddcapcjdenaaGreatDoorT4

namespace Go.Dk
open Go Go.Dr
set_option maxRecDepth 100000

theorem crc_Get {h : AH} {n : Nat} {v : AV} {bs : List Nat} (hv : Sl h 1 n v (by8 bs)) (hb : ∀ x ∈ bs, x < 256) (h1 : 1 ≤ n) (h8 : n ≤ 8) (K : AV → AH → Prop) :
    Ev P SI (.fn f_crc_Get) [v] h K = K (.tuple [.int .u64 (beV bs : Int), .bool true]) h := by
  refine Ev.eq (ev_fn k_crc_Get rfl rfl ?_) K
  have hl : bs.length = n := by have := hv.1; simpa using this
  have e1 : ¬ (n = 0) := by omega
  have e2 : ¬ (8 < (n : Int)) := by omega
  simp [c_crc_Get, hv.len, e1, e2]
  refine w_count (n := n) (by rfl) (fun j σ ds h' => ds = [] ∧ σ 15 = v ∧ σ 16 = .int .i64 (n : Int) ∧ σ 4 = .int .u64 (beV (bs.take j) : Int) ∧ h' = h) (by omega) (by simp) (by simp [beV]) (fun j σ ds h' hJ => by simp [hJ.2.2.1]) ?_ ?_
  · rintro j σ ds h' hj hi ⟨rfl, hs, hn, h4, rfl⟩
    have hjl : j < bs.length := by omega
    obtain ⟨id, o, g1, g2, _⟩ := hv.get1 (k := .i64) (i := (j : Int)) rfl hj (x := .int .u8 (bs[j] : Int)) (by rw [by8_get, List.getElem?_eq_getElem hjl]; rfl)
    have hx : bs[j] < 256 := hb _ (List.getElem_mem hjl)
    have ht : beV (bs.take (j + 1)) = beV (bs.take j) * 256 + bs[j] := by
      rw [List.take_add_one, List.getElem?_eq_getElem hjl, Option.toList_some, beV_append]
    have hlt := beV_lt (bs.take j) (fun x hx => hb x (List.mem_of_mem_take hx))
    rw [List.length_take, Nat.min_eq_left (by omega)] at hlt
    have hlt2 : beV (bs.take j) * 256 ≤ 2 ^ 64 - 256 := by
      have : 256 ^ j ≤ 256 ^ 7 := Nat.pow_le_pow_right (by decide) (by omega)
      omega
    have w1 : wrapF .u64 ((beV (bs.take j) : Int) * 256) = (beV (bs.take j) : Int) * 256 := wrap_u64 (by omega) (by omega)
    have w2 : wrapF .u64 (bs[j] : Int) = (bs[j] : Int) := wrap_u64 (by omega) (by omega)
    have w3 := or_shl (beV (bs.take j)) bs[j] (by omega) hx
    have w4 : wrapF .u64 ((beV (bs.take j) : Int) * 256 + (bs[j] : Int)) = (beV (bs.take j) : Int) * 256 + (bs[j] : Int) := wrap_u64 (by omega) (by omega)
    simp [hs, hn, h4, hi, g1, g2, w1, w2, w3, w4, ht]
  · rintro σ ds h' ⟨rfl, hs, hn, h4, rfl⟩
    rw [List.take_of_length_le (by omega)] at h4
    simp [h4]

theorem ref01_Get {h : AH} {n : Nat} {v : AV} {bs : List Nat} (hv : Sl h 1 n v (by8 bs)) (hb : ∀ x ∈ bs, x < 256) (h1 : 1 ≤ n) (h8 : n ≤ 8) (K : AV → AH → Prop) :
    Ev P SI (.fn f_ref01_Get) [v] h K = K (.tuple [.int .u64 (beV bs : Int), .bool true]) h := by
  refine Ev.eq (ev_fn k_ref01_Get rfl rfl ?_) K
  have hl : bs.length = n := by have := hv.1; simpa using this
  have e1 : ¬ ((n : Int) < 1) := by omega
  have e2 : ¬ (8 < (n : Int)) := by omega
  simp [c_ref01_Get, hv.len, e1, e2]
  refine w_count (n := n) (by rfl) (fun j σ ds h' => ds = [] ∧ σ 15 = v ∧ σ 16 = .int .i64 (n : Int) ∧ σ 4 = .int .u64 (beV (bs.take j) : Int) ∧ h' = h) (by omega) (by simp) (by simp [beV]) (fun j σ ds h' hJ => by simp [hJ.2.2.1]) ?_ ?_
  · rintro j σ ds h' hj hi ⟨rfl, hs, hn, h4, rfl⟩
    have hjl : j < bs.length := by omega
    obtain ⟨id, o, g1, g2, _⟩ := hv.get1 (k := .i64) (i := (j : Int)) rfl hj (x := .int .u8 (bs[j] : Int)) (by rw [by8_get, List.getElem?_eq_getElem hjl]; rfl)
    have hx : bs[j] < 256 := hb _ (List.getElem_mem hjl)
    have ht : beV (bs.take (j + 1)) = beV (bs.take j) * 256 + bs[j] := by
      rw [List.take_add_one, List.getElem?_eq_getElem hjl, Option.toList_some, beV_append]
    have hlt := beV_lt (bs.take j) (fun x hx => hb x (List.mem_of_mem_take hx))
    rw [List.length_take, Nat.min_eq_left (by omega)] at hlt
    have hlt2 : beV (bs.take j) * 256 ≤ 2 ^ 64 - 256 := by
      have : 256 ^ j ≤ 256 ^ 7 := Nat.pow_le_pow_right (by decide) (by omega)
      omega
    have w1 : wrapF .u64 ((beV (bs.take j) : Int) * 256) = (beV (bs.take j) : Int) * 256 := wrap_u64 (by omega) (by omega)
    have w2 : wrapF .u64 (bs[j] : Int) = (bs[j] : Int) := wrap_u64 (by omega) (by omega)
    have w3 : wrapF .u64 ((beV (bs.take j) : Int) * 256 + (bs[j] : Int)) = (beV (bs.take j) : Int) * 256 + (bs[j] : Int) := wrap_u64 (by omega) (by omega)
    simp [hs, hn, h4, hi, g1, g2, w1, w2, w3, ht]
  · rintro σ ds h' ⟨rfl, hs, hn, h4, rfl⟩
    rw [List.take_of_length_le (by omega)] at h4
    simp [h4]

/-- so many of the last bytes laid -/
def fill (k n j : Nat) : List Nat := List.replicate (k - j) 0 ++ (be k n).drop (k - j)

theorem fill_zero (k n : Nat) : fill k n 0 = List.replicate k 0 := by
  simp [fill]
theorem fill_all (k n : Nat) : fill k n k = be k n := by simp [fill]
theorem fill_length (k n j : Nat) (hj : j ≤ k) : (fill k n j).length = k := by
  rw [fill, List.length_append, List.length_replicate, List.length_drop, be_length]; omega

theorem fill_step (k n j : Nat) (hj : j < k) : splice (by8 (fill k n j)) (k - 1 - j) [.int .u8 ((n / 256 ^ j % 256 : Nat) : Int)] = by8 (fill k n (j + 1)) := by
  have h1 : (be k n).drop (k - (j + 1)) = (n / 256 ^ j % 256) :: (be k n).drop (k - j) := by
    have hlt : k - 1 - j < (be k n).length := by rw [be_length]; omega
    have hg := be_get k n j hj
    rw [List.getElem?_eq_getElem hlt] at hg
    rw [show k - (j + 1) = k - 1 - j from by omega, List.drop_eq_getElem_cons hlt, Option.some.inj hg, show k - 1 - j + 1 = k - j from by omega]
  have h2 : fill k n (j + 1) = List.replicate (k - 1 - j) 0 ++ ((n / 256 ^ j % 256) :: (be k n).drop (k - j)) := by
    rw [fill, h1, show k - (j + 1) = k - 1 - j from by omega]
  have h3 : fill k n j = List.replicate (k - 1 - j) 0 ++ (0 :: (be k n).drop (k - j)) := by
    rw [fill, show k - j = (k - 1 - j) + 1 from by omega, List.replicate_succ', List.append_assoc]; rfl
  rw [h2, h3]
  simp only [splice, by8, List.map_append, List.map_cons, List.length_singleton]
  rw [List.take_left' (by simp), ← List.drop_drop, List.drop_left' (by simp)]
  rfl

theorem shr_byte (n j : Nat) (hj : j < 8) : wrapF .u8 (((n : Nat) : Int).fdiv (2 ^ min (8 * j) 64)) = ((n / 256 ^ j % 256 : Nat) : Int) := by
  rw [Nat.min_eq_left (by omega), wrap8, Int.fdiv_eq_ediv_of_nonneg _ (by exact_mod_cast Nat.zero_le _)]
  have : (2 : Int) ^ (8 * j) = ((256 ^ j : Nat) : Int) := by
    rw [Int.pow_mul]; norm_cast
  rw [this]
  norm_cast

theorem crc_Put (n k : Nat) (hn : n < 2 ^ 64) (hk : k ≤ 8) (h : AH) (K : AV → AH → Prop) :
    Ev P SI (.fn f_crc_Put) [.int .u64 (n : Int), .int .i64 (k : Int)] h K = K (.slice h.next 0 k k true 1) (h.push (.cells (by8 (be k n)) false)) := by
  refine Ev.eq (ev_fn k_crc_Put rfl rfl ?_) K
  have e1 : max (k : Int) 0 = k := by omega
  have e2 : min (k : Int) 8 = k := by omega
  have e3 : repl [AV.int .u8 0] k = by8 (fill k n 0) := by rw [repl_one, fill_zero]; simp [by8]
  simp [c_crc_Put, e1, e2, opMkS_nat 1 1 k [.int .u8 0] .i64 .i64 (by omega) (by omega), e3]
  refine w_count (n := k) (by rfl) (fun j σ ds h' => ds = [] ∧ σ 0 = .int .u64 (n : Int) ∧ σ 5 = .slice h.next 0 k k true 1 ∧ σ 12 = .int .i64 (k : Int) ∧ h' = h.push (.cells (by8 (fill k n j)) false)) (by omega) (by simp) (by simp) (fun j σ ds h' hJ => by simp [hJ.2.2.2.1]) ?_ ?_
  · rintro j σ ds h' hj hi ⟨rfl, h0, h5, h12, rfl⟩
    have w1 : wrapF .i64 ((k : Int) - 1) = (k : Int) - 1 := wrap_i64 (by omega) (by omega)
    have w2 : wrapF .i64 ((k : Int) - 1 - (j : Int)) = ((k - 1 - j : Nat) : Int) := by rw [wrap_i64 (by omega) (by omega)]; omega
    have w3 : wrapF .i64 (8 * (j : Int)) = ((8 * j : Nat) : Int) := by rw [wrap_i64 (by omega) (by omega)]; omega
    have i1 := opIdxV_slice (es := 1) (id := h.next) (off := 0) (len := k) (cap := k) (x := true) (k := .i64) (i := ((k - 1 - j : Nat) : Int)) ⟨by omega, by omega⟩
    have s1 : storeN (h.push (.cells (by8 (fill k n j)) false)) h.next (k - 1 - j) [.int .u8 ((n / 256 ^ j % 256 : Nat) : Int)] = .ok (h.push (.cells (by8 (fill k n (j + 1))) false)) := by
      rw [storeN_one (get_push_new _) (by rw [by8_length, fill_length _ _ _ (by omega)]; omega) rfl, fill_step k n j hj, AH.set_push]
    have b1 := shr_byte n j (by omega)
    have b2 : opBin P .shr t_uint64 false (.int .u64 (n : Int)) (.int .i64 (8 * (j : Int))) = .ok (.int .u64 ((n : Int).fdiv (2 ^ min (8 * j) 64))) := by
      rw [bin_shr_u64 _ _ _ _ _ (by omega), show (8 * (j : Int)).toNat = 8 * j from by omega]
    generalize ((n / 256 ^ j % 256 : Nat) : Int) = x at s1 b1
    simp only [Int.toNat_natCast, Nat.zero_add, Nat.mul_one] at i1
    simp [h0, h5, h12, hi, w1, w2, w3, i1, b1, b2, s1]
  · rintro σ ds h' ⟨rfl, h0, h5, h12, rfl⟩
    simp [h5, fill_all]

theorem ref01_Put (n k : Nat) (hn : n < 2 ^ 64) (hk : k ≤ 8) (h : AH) (K : AV → AH → Prop) :
    Ev P SI (.fn f_ref01_Put) [.int .u64 (n : Int), .int .i64 (k : Int)] h K = K (.slice h.next 0 k k true 1) (h.push (.cells (by8 (be k n)) false)) := by
  refine Ev.eq (ev_fn k_ref01_Put rfl rfl ?_) K
  have e1 : max (k : Int) 0 = k := by omega
  have e2 : min (k : Int) 8 = k := by omega
  have e3 : repl [AV.int .u8 0] k = by8 (fill k n 0) := by rw [repl_one, fill_zero]; simp [by8]
  have e4 : wrapF .i64 ((k : Int) - 1) = (k : Int) - 1 := wrap_i64 (by omega) (by omega)
  simp [c_ref01_Put, e1, e2, opMkS_nat 1 1 k [.int .u8 0] .i64 .i64 (by omega) (by omega), e3, e4]
  refine w_loop (fun r σ ds h' => ∃ j, r + j = k ∧ ds = [] ∧ (∃ q : Nat, q = n / 256 ^ j ∧ σ 0 = .int .u64 (q : Int)) ∧ σ 6 = .slice h.next 0 k k true 1 ∧ σ 7 = .int .i64 ((k : Int) - 1 - (j : Int)) ∧ h' = h.push (.cells (by8 (fill k n j)) false)) k ⟨0, by simp⟩ ?_
  rintro r σ ds h' ⟨j, hr, rfl, ⟨q, hq, h0⟩, h6, h7, rfl⟩
  by_cases hj : j < k
  · have c1 : (j : Int) ≤ (k : Int) - 1 := by omega
    have i1 := opIdxV_slice (es := 1) (id := h.next) (off := 0) (len := k) (cap := k) (x := true) (k := .i64) (i := (k : Int) - 1 - (j : Int)) ⟨by omega, by omega⟩
    have t1 : ((k : Int) - 1 - (j : Int)).toNat = k - 1 - j := by omega
    rw [t1] at i1
    simp only [Nat.zero_add, Nat.mul_one] at i1
    have hqn : q < 2 ^ 64 := by rw [hq]; exact Nat.lt_of_le_of_lt (Nat.div_le_self _ _) hn
    have m1 : (q : Int).tmod 256 = (q : Int) % 256 := Int.tmod_eq_emod_of_nonneg (by omega)
    have m2 : wrapF .u8 ((q : Int) % 256) = (q : Int) % 256 := wrap_u8 (by omega) (by omega)
    have q1 : (q : Int).tdiv 256 = (q : Int) / 256 := Int.tdiv_eq_ediv_of_nonneg (by omega)
    have q2 : wrapF .u64 ((q : Int) / 256) = (q : Int) / 256 := wrap_u64 (by omega) (by omega)
    have w1 : wrapF .i64 ((k : Int) - 1 - (j : Int) - 1) = (k : Int) - 1 - ((j + 1 : Nat) : Int) := by rw [wrap_i64 (by omega) (by omega)]; omega
    have s1 : storeN (h.push (.cells (by8 (fill k n j)) false)) h.next (k - 1 - j) [.int .u8 ((q : Int) % 256)] = .ok (h.push (.cells (by8 (fill k n (j + 1))) false)) := by
      rw [show (q : Int) % 256 = ((n / 256 ^ j % 256 : Nat) : Int) from by rw [← hq]; omega]
      rw [storeN_one (get_push_new _) (by rw [by8_length, fill_length _ _ _ (by omega)]; omega) rfl, fill_step k n j hj, AH.set_push]
    simp [h0, h6, h7, c1, i1, m1, m2, q1, q2, s1, w1, Kloop_normal]
    have e : ((q / 256 : Nat) : Int) = ((n / 256 ^ (j + 1) : Nat) : Int) := by rw [hq, Nat.div_div_eq_div_mul, ← Nat.pow_succ]
    exact ⟨r - 1, by omega, j + 1, by omega, by simpa using e, by simp⟩
  · have hjk : j = k := by omega
    subst hjk
    have c1 : ¬ ((j : Int) ≤ (j : Int) - 1) := by omega
    simp [h6, h7, c1, fill_all]

theorem ref10_Int {h : AH} {n k : Nat} {v : AV} {bs : List Nat} (hv : Sl h 1 n v (by8 bs)) (hb : ∀ x ∈ bs, x < 256) (h1 : 1 ≤ k) (h8 : k ≤ 8) (hn : k ≤ n) :
    ∃ v', (∀ g, Sl g 1 n v (by8 bs) → Sl g 1 (n - k) v' (by8 (bs.drop k))) ∧ ∀ K, Ev P SI (.fn f_ref10_Int) [v, .int .i64 (k : Int)] h K = K (.tuple [.int .i64 (wrapF .i64 (beV (bs.take k) : Int)), v', .bool true]) h := by
  have hl : bs.length = n := by have := hv.1; simpa using this
  obtain ⟨u, e1, s1⟩ := hv.slice (lo := none) (hi := some (.int .i64 (k : Int))) (a := 0) (b := k) (.inl ⟨rfl, rfl⟩) (.inr ⟨.i64, rfl⟩) (by omega) hn
  obtain ⟨v', e2, _⟩ := hv.slice (lo := some (.int .i64 (k : Int))) (hi := none) (a := k) (b := n) (.inr ⟨.i64, rfl⟩) (.inl ⟨rfl, rfl⟩) hn (Nat.le_refl _)
  have s1' : Sl h 1 k u (by8 (bs.take k)) := by simpa [by8_take, by8_drop] using s1
  have s2' : ∀ g, Sl g 1 n v (by8 bs) → Sl g 1 (n - k) v' (by8 (bs.drop k)) := by
    intro g hg
    obtain ⟨v'', e3, s3⟩ := hg.slice (lo := some (.int .i64 (k : Int))) (hi := none) (a := k) (b := n) (.inr ⟨.i64, rfl⟩) (.inl ⟨rfl, rfl⟩) hn (Nat.le_refl _)
    rw [e2] at e3
    cases e3
    have : (bs.drop k).take (n - k) = bs.drop k := List.take_of_length_le (by simp; omega)
    simpa [by8_take, by8_drop, this] using s3
  refine ⟨v', s2', fun K => Ev.eq (ev_fn k_ref10_Int rfl rfl ?_) K⟩
  have c1 : ¬ ((n : Int) < (k : Int)) := by omega
  simp [c_ref10_Int, hv.len, c1, e1, e2, ref01_Get s1' (fun x hx => hb x (List.mem_of_mem_take hx)) h1 h8]

theorem ref10_Int_short {h : AH} {n k : Nat} {v : AV} {l : List AV} (hv : Sl h 1 n v l) (hn : n < k) (K : AV → AH → Prop) :
    Ev P SI (.fn f_ref10_Int) [v, .int .i64 (k : Int)] h K = K (.tuple [.int .i64 0, .nils, .bool false]) h := by
  refine Ev.eq (ev_fn k_ref10_Int rfl rfl ?_) K
  have c1 : ((n : Int) < (k : Int)) := by omega
  simp [c_ref10_Int, hv.len, c1]



theorem txt_inj {a b : List Nat} (ha : ∀ x ∈ a, x < 256) (hb : ∀ x ∈ b, x < 256) (e : txtOf a = txtOf b) : a = b := by
  have h1 : ∀ l : List Nat, (∀ x ∈ l, x < 256) → (txtOf l).map UInt8.toNat = l := by
    intro l hl
    unfold txtOf
    rw [List.map_map]
    conv => rhs; rw [← List.map_id l]
    apply List.map_congr_left
    intro x hx
    have := hl x hx
    simp
    omega
  rw [← h1 a ha, ← h1 b hb, e]

theorem bytes_Equal {h : AH} {n m : Nat} {v u : AV} {a b : List Nat} (s : Sl h 1 n v (by8 a)) (t : Sl h 1 m u (by8 b)) (ha : ∀ x ∈ a, x < 256) (hb : ∀ x ∈ b, x < 256) (K : AV → AH → Prop) :
    Ev P SI (.fn f_bytes_Equal) [v, u] h K = K (.bool (decide (a = b))) h := by
  refine Ev.eq (ev_fn k_bytes_Equal rfl rfl ?_) K
  have hs := conv_strB s
  have ht := conv_strB t
  by_cases e : a = b
  · subst e
    simp [c_bytes_Equal, hs, ht]
  · have e' : ¬ txtOf a = txtOf b := fun h => e (txt_inj ha hb h)
    simp [c_bytes_Equal, hs, ht, e, e']

end Go.Dk

namespace Go.Dk
open Go Go.Dr
set_option maxRecDepth 100000

abbrev Smp := Int × Nat
def smC (x : Smp) : List AV := [.int .i64 x.1, .int .u64 (x.2 : Int)]
def risS : List Smp → Bool
  | [] => true
  | [_] => true
  | a :: b :: r => decide (a.1 < b.1) && risS (b :: r)

def canS (l : List Smp) : Bool := risS l && decide (l.length ≤ 65535)

theorem at_some {α : Type} {l : List α} {j : Nat} (h : j < l.length) : ∃ x, l[j]? = some x := ⟨_, List.getElem?_eq_getElem h⟩

end Go.Dk

namespace Go.Dk
open Go Go.Dr
set_option maxRecDepth 100000

/-- the bits of the samples behind one -/
def tailB (t : Int) (v : Nat) (step : Int) : List Smp → Bits
  | [] => []
  | (t', v') :: l => intB (wrapF .i64 (wrapF .i64 (t' - t) - step)) ++ xorB (v' ^^^ v) ++ tailB t' v' (wrapF .i64 (t' - t)) l

def sampB : List Smp → Bits
  | [] => []
  | (t, v) :: l => lowB (u64 t) 64 ++ lowB v 64 ++ tailB t v 0 l

/-- samples that numbers of their kind can be -/
def SmpR (l : List Smp) : Prop := ∀ x ∈ l, (-9223372036854775808 ≤ x.1 ∧ x.1 < 9223372036854775808) ∧ x.2 < 2 ^ 64

/-- samples as bytes -/
def encS (l : List Smp) : List Nat := be 2 l.length ++ pack (sampB l)

theorem PackO.fr {h g : AH} {id : Nat} {l : Bits} (p : PackO h id l) (f : Fr h g) : PackO g id l := by
  obtain ⟨v, a, b, c, d⟩ := p
  exact ⟨v, by rw [f.get _ d, a], b.fr f, c, Nat.lt_of_lt_of_le d f.next⟩

/-- so far: j samples are written -/
def EncJ (l : List Smp) (j : Nat) (m : Bits) (step : Int) : Prop :=
  (j = 0 ∧ m = [] ∧ step = 0) ∨ (0 < j ∧ ∃ t w, l[j - 1]? = some (t, w) ∧ m ++ tailB t w step (l.drop j) = sampB l)

theorem EncJ.len {l : List Smp} {j : Nat} {m : Bits} {step : Int} (e : EncJ l j m step) : m.length ≤ (sampB l).length := by
  rcases e with ⟨_, rfl, _⟩ | ⟨_, t, w, _, e⟩
  · simp
  · have := congrArg List.length e
    rw [List.length_append] at this
    omega

theorem EncJ.fin {l : List Smp} {m : Bits} {step : Int} (e : EncJ l l.length m step) : m = sampB l := by
  rcases e with ⟨h0, rfl, _⟩ | ⟨_, t, w, _, e⟩
  · have : l = [] := List.length_eq_zero_iff.1 h0
    subst this; rfl
  · rw [List.drop_length, tailB, List.append_nil] at e
    exact e

end Go.Dk

namespace Go.Dk
open Go Go.Dr
set_option maxRecDepth 100000

end Go.Dk

namespace Go.Dk
open Go Go.Dr
set_option maxRecDepth 100000

/-- how many bits are set ahead of one that is not, and what comes behind -/
def pre : Nat → Bits → Option (Nat × Bits)
  | 0, d => some (0, d)
  | _ + 1, [] => none
  | _ + 1, false :: d => some (0, d)
  | m + 1, true :: d => (pre m d).map fun p => (p.1 + 1, p.2)

/-- so many bits as a number with a sign -/
def sx (w raw : Nat) : Int := if w = 0 then 0 else (wrapF .i64 ((raw * 2 ^ (64 - w) % 2 ^ 64 : Nat) : Int)).fdiv (2 ^ (64 - w))

end Go.Dk

namespace Go.Dk
open Go Go.Dr
set_option maxRecDepth 100000

theorem wrap_i64n (x : Int) : wrapF .i64 x = (x + 9223372036854775808) % 18446744073709551616 - 9223372036854775808 := by rw [wrapF_eq, IntKind.wrap_i64]

/-- a reader's block -/
structure UnO (h : AH) (id : Nat) (v : AV) (n : Nat) (b : List Nat) (at' : Nat) (bad : Bool) : Prop where
  cells : h.get id = some (.cells [v, .int .i64 ((8 * n : Nat) : Int), .int .i64 (at' : Int), .bool bad] false)
  lt : id < h.next
  sl : Sl h 1 n v (by8 b)
  ne : idOf v ≠ some id

theorem Sl.frX {h g : AH} {id es n : Nat} {v : AV} {l : List AV} (s : Sl h es n v l) (f : FrX id h g) (hv : idOf v ≠ some id) : Sl g es n v l := by
  refine ⟨s.1, ?_⟩
  rcases s.2 with e | ⟨i, off, cap, x, vs, ro, e1, e2, e3, e4, e5, e6⟩
  · exact .inl e
  · exact .inr ⟨i, off, cap, x, vs, ro, e1, Nat.lt_of_lt_of_le e2 f.next, e3, by rw [f.get i e2 (by intro e; apply hv; rw [e1, e]; rfl)]; exact e4, e5, e6⟩

theorem UnO.fr {h g : AH} {id : Nat} {v : AV} {n : Nat} {b : List Nat} {at' : Nat} {bad : Bool} (u : UnO h id v n b at' bad) (f : Fr h g) : UnO g id v n b at' bad :=
  ⟨by rw [f.get _ u.lt, u.cells], Nat.lt_of_lt_of_le u.lt f.next, u.sl.fr f, u.ne⟩

theorem UnO.put {h g : AH} {id : Nat} {v : AV} {n : Nat} {b : List Nat} {at' a2 : Nat} {bad b2 : Bool} (u : UnO h id v n b at' bad) (f : Fr h g) (o : AObj)
    (ho : o = .cells [v, .int .i64 ((8 * n : Nat) : Int), .int .i64 (a2 : Int), .bool b2] false) : UnO (g.set id o) id v n b a2 b2 ∧ FrX id h (g.set id o) := by
  have u' := u.fr f
  subst ho
  exact ⟨⟨get_set_new _ _, u'.lt, Sl.setX u'.sl _ u.ne, u.ne⟩, ⟨f.next, fun i hi hn => by rw [get_set_old hn, f.get i hi]⟩⟩

end Go.Dk

namespace Go.Dk
open Go Go.Dr
set_option maxRecDepth 100000

def boC (l : Bits) : List AV := l.map fun b => .bool b
@[simp] theorem boC_length (a : Bits) : (boC a).length = a.length := by simp [boC]

/-- bits as truths that are ours -/
structure BoO (B : Nat) (h : AH) (id : Nat) (v : AV) (l : Bits) : Prop where
  cells : h.get id = some (.cells [v] false)
  lt : id < h.next
  ge : B ≤ id
  own : Own B h 1 l.length v (boC l)
  ne : idOf v ≠ some id

/-- all stays but the struct and the bits' own block -/
structure BoF (id : Nat) (v v' : AV) (h h' : AH) : Prop where
  next : h.next ≤ h'.next
  get : ∀ i, i < h.next → i ≠ id → idOf v ≠ some i → h'.get i = h.get i
  ids : ∀ i, idOf v' = some i → idOf v = some i ∨ h.next ≤ i

theorem BoF.refl (id : Nat) (v : AV) (h : AH) : BoF id v v h h := ⟨Nat.le_refl _, fun _ _ _ _ => rfl, fun _ e => .inl e⟩
theorem BoF.trans {id : Nat} {v v' v'' : AV} {h h' h'' : AH} (a : BoF id v v' h h') (b : BoF id v' v'' h' h'') : BoF id v v'' h h'' := by
  refine ⟨Nat.le_trans a.next b.next, fun i hi hn hv => ?_, fun i e => ?_⟩
  · rw [b.get i (Nat.lt_of_lt_of_le hi a.next) hn (fun e => ?_), a.get i hi hn hv]
    rcases a.ids i e with e | e
    · exact hv e
    · omega
  · rcases b.ids i e with e | e
    · exact a.ids i e
    · exact .inr (Nat.le_trans a.next e)

end Go.Dk

namespace Go.Dk
open Go Go.Dr
set_option maxRecDepth 100000

end Go.Dk

namespace Go.Dk
open Go Go.Dr
set_option maxRecDepth 100000

/-- the place and the fault are laid -/
theorem UnO.st {h g : AH} {id : Nat} {v : AV} {n : Nat} {b : List Nat} {at' : Nat} {bad : Bool} (u : UnO h id v n b at' bad) (f : Fr h g) (a2 : Nat) (b2 : Bool) :
    ∃ g1, storeN g id 3 [.bool b2] = .ok g1 ∧ load1 g1 id 2 = .ok (.int .i64 (at' : Int)) ∧ load1 g1 id 3 = .ok (.bool b2) ∧ UnO g1 id v n b at' b2 ∧ FrX id h g1 ∧
      ∃ g2, storeN g1 id 2 [.int .i64 (a2 : Int)] = .ok g2 ∧ UnO g2 id v n b a2 b2 ∧ FrX id h g2 := by
  obtain ⟨N, hN⟩ : ∃ N, N = 8 * n := ⟨_, rfl⟩
  have hg2 := (u.fr f).cells
  rw [← hN] at hg2
  have h1 := storeN_one (v := .bool b2) (off := 3) hg2 (by simp) rfl
  simp [splice_eq] at h1
  have hgx : (g.set id (.cells [v, .int .i64 (N : Int), .int .i64 (at' : Int), .bool b2] false)).get id = some (.cells [v, .int .i64 (N : Int), .int .i64 (at' : Int), .bool b2] false) := get_set_new _ _
  have h2 := storeN_one (v := .int .i64 (a2 : Int)) (off := 2) hgx (by simp) rfl
  simp [splice_eq] at h2
  have u1 := u.put f (.cells [v, .int .i64 (N : Int), .int .i64 (at' : Int), .bool b2] false) (a2 := at') (b2 := b2) (by rw [← hN])
  exact ⟨_, h1, load1_of hgx, load1_of hgx, u1.1, u1.2, _, h2, u.put f (.cells [v, .int .i64 (N : Int), .int .i64 (a2 : Int), .bool b2] false) (a2 := a2) (b2 := b2) (by rw [← hN])⟩

theorem UnO.ld {h : AH} {id : Nat} {v : AV} {n : Nat} {b : List Nat} {at' : Nat} {bad : Bool} (u : UnO h id v n b at' bad) : load1 h id 3 = .ok (.bool bad) := load1_of u.cells

end Go.Dk

namespace Go.Dk
open Go Go.Dr
set_option maxRecDepth 100000

theorem Own.frX {h g : AH} {B id es n : Nat} {v : AV} {l : List AV} (s : Own B h es n v l) (f : FrX id h g) (hid : id < B) : Own B g es n v l := by
  refine ⟨s.1, ?_⟩
  rcases s.2 with e | ⟨i, off, x, vs, e1, e2, e3, e4, e5⟩
  · exact .inl e
  · exact .inr ⟨i, off, x, vs, e1, e2, Nat.lt_of_lt_of_le e3 f.next, by rw [f.get i e3 (by omega)]; exact e4, e5⟩

theorem UnO.frB {h g : AH} {B id : Nat} {v : AV} {n : Nat} {b : List Nat} {at' : Nat} {bad : Bool} (u : UnO h id v n b at' bad) (f : FrB B h g) (hid : id < B) (hv : ∀ i, idOf v = some i → i < B) : UnO g id v n b at' bad := by
  refine ⟨by rw [f.get _ hid, u.cells], Nat.lt_of_lt_of_le u.lt f.next, ⟨u.sl.1, ?_⟩, u.ne⟩
  rcases u.sl.2 with e | ⟨i, off, cap, x, vs, ro, e1, e2, e3, e4, e5, e6⟩
  · exact .inl e
  · exact .inr ⟨i, off, cap, x, vs, ro, e1, Nat.lt_of_lt_of_le e2 f.next, e3, by rw [f.get i (hv i (by rw [e1]; rfl))]; exact e4, e5, e6⟩

/-- how far the samples l0 are read -/
def DecJ (bs : Bits) (l0 : List Smp) (z : Bits) (j : Nat) (r : List Smp) (at' : Nat) (step : Int) : Prop :=
  r = l0.take j ∧ at' ≤ bs.length ∧ ((j = 0 ∧ step = 0 ∧ bs.drop at' = sampB l0 ++ z) ∨ (0 < j ∧ ∃ t w, l0[j - 1]? = some (t, w) ∧ bs.drop at' = tailB t w step (l0.drop j) ++ z))

def DecK0 (l0 : List Smp) (z : Bits) (bs : Bits) (cnt : Nat) : Prop := SmpR l0 ∧ l0.length = cnt ∧ bs = sampB l0 ++ z

theorem drop_at {α : Type} {l : List α} {j : Nat} {x : α} (h : l[j]? = some x) : l.drop j = x :: l.drop (j + 1) := by
  obtain ⟨h1, h2⟩ := List.getElem?_eq_some_iff.1 h
  rw [List.drop_eq_getElem_cons h1, h2]

/-- bytes that are samples -/
def IsS (b : List Nat) (l : List Smp) : Prop := SmpR l ∧ canS l = true ∧ encS l = b

theorem IsS.k {b : List Nat} {l : List Smp} (h : IsS b l) : ∃ z, DecK0 l z (bitsOf (b.drop 2)) (beV (b.take 2)) ∧ 2 ≤ b.length ∧ beV (b.take 2) ≤ 65535 := by
  obtain ⟨h1, h2, rfl⟩ := h
  have hl : l.length ≤ 65535 := by simp [canS] at h2; omega
  obtain ⟨z, hz⟩ := bitsOf_pack (sampB l)
  have e1 : (encS l).take 2 = be 2 l.length := by rw [encS, List.take_left' (by simp)]
  have e2 : (encS l).drop 2 = pack (sampB l) := by rw [encS, List.drop_left' (by simp)]
  have e3 : beV (be 2 l.length) = l.length := by rw [beV_be]; omega
  refine ⟨z, ⟨h1, ?_, ?_⟩, by simp [encS], by rw [e1, e3]; exact hl⟩
  · rw [e1, e3]
  · rw [e2, hz]

/-- what comes of bytes as samples -/
def DecS (h : AH) (b : List Nat) (r : AV) (g : AH) : Prop :=
  Fr h g ∧ ((∃ l v, IsS b l ∧ (∀ l0, IsS b l0 → l0 = l) ∧ r = .tuple [v, .int .i64 0] ∧ Sl g 2 l.length v (l.flatMap smC)) ∨ ((∀ l0, ¬ IsS b l0) ∧ r = .tuple [.nils, .int .i64 5]))

end Go.Dk

namespace Go.Dk
open Go Go.Dr
set_option maxRecDepth 100000

theorem BoO.fr {B : Nat} {h g : AH} {id : Nat} {v : AV} {l : Bits} (p : BoO B h id v l) (f : Fr h g) : BoO B g id v l :=
  ⟨by rw [f.get _ p.lt, p.cells], Nat.lt_of_lt_of_le p.lt f.next, p.ge, p.own.fr f, p.ne⟩

theorem set_same {α : Type} {l : List α} {i : Nat} {x : α} (h : l[i]? = some x) : l.set i x = l := by
  apply List.ext_getElem?
  intro k
  rw [List.getElem?_set]
  split
  · rename_i e
    subst e
    obtain ⟨h1, h2⟩ := List.getElem?_eq_some_iff.1 h
    rw [if_pos h1, h]
  · rfl

end Go.Dk

namespace Go.Dk
open Go Go.Dr
set_option maxRecDepth 100000

/-- a reader's block -/
structure InO (h : AH) (id : Nat) (v : AV) (n : Nat) (b : List Nat) (at' : Nat) (bad : Bool) : Prop where
  cells : h.get id = some (.cells [v, .int .i64 (at' : Int), .bool bad] false)
  lt : id < h.next
  sl : Sl h 1 n v (by8 b)
  ne : idOf v ≠ some id
  le : at' ≤ 8 * n

theorem InO.fr {h g : AH} {id : Nat} {v : AV} {n : Nat} {b : List Nat} {at' : Nat} {bad : Bool} (u : InO h id v n b at' bad) (f : Fr h g) : InO g id v n b at' bad :=
  ⟨by rw [f.get _ u.lt, u.cells], Nat.lt_of_lt_of_le u.lt f.next, u.sl.fr f, u.ne, u.le⟩

theorem InO.put {h : AH} {id : Nat} {v : AV} {n : Nat} {b : List Nat} {at' a2 : Nat} {bad b2 : Bool} (u : InO h id v n b at' bad) (ha : a2 ≤ 8 * n) :
    InO (h.set id (.cells [v, .int .i64 (a2 : Int), .bool b2] false)) id v n b a2 b2 ∧ FrX id h (h.set id (.cells [v, .int .i64 (a2 : Int), .bool b2] false)) :=
  ⟨⟨get_set_new _ _, u.lt, Sl.setX u.sl _ u.ne, u.ne, ha⟩, ⟨Nat.le_refl _, fun i hi hn => get_set_old hn⟩⟩

theorem InO.set {h : AH} {id j : Nat} {v : AV} {n : Nat} {b : List Nat} {at' : Nat} {bad : Bool} (u : InO h id v n b at' bad) (o : AObj) (hj : id ≠ j) (hv : idOf v ≠ some j) : InO (h.set j o) id v n b at' bad :=
  ⟨by rw [get_set_old hj, u.cells], u.lt, Sl.setX u.sl _ hv, u.ne, u.le⟩

theorem InO.frB {h g : AH} {B id : Nat} {v : AV} {n : Nat} {b : List Nat} {at' : Nat} {bad : Bool} (u : InO h id v n b at' bad) (f : FrB B h g) (hid : id < B) (hv : ∀ i, idOf v = some i → i < B) : InO g id v n b at' bad := by
  refine ⟨by rw [f.get _ hid, u.cells], Nat.lt_of_lt_of_le u.lt f.next, ⟨u.sl.1, ?_⟩, u.ne, u.le⟩
  rcases u.sl.2 with e | ⟨i, off, cap, x, vs, ro, e1, e2, e3, e4, e5, e6⟩
  · exact .inl e
  · exact .inr ⟨i, off, cap, x, vs, ro, e1, Nat.lt_of_lt_of_le e2 f.next, e3, by rw [f.get i (hv i (by rw [e1]; rfl))]; exact e4, e5, e6⟩

end Go.Dk

namespace Go.Dk
open Go Go.Dr
set_option maxRecDepth 100000

end Go.Dk

namespace Go.Dk
open Go Go.Dr
set_option maxRecDepth 100000

end Go.Dk

namespace Go.Dk
open Go Go.Dr
set_option maxRecDepth 100000

/-- what stands as samples are read: all but whether it is over -/
structure DecI (h g : AH) (v' : AV) (n' : Nat) (b' : List Nat) (cnt j : Nat) (acc : AV) (r : List Smp) (at' : Nat) (bad : Bool) (step : Int) : Prop where
  fr : Fr h g
  un : UnO g h.next v' n' b' at' bad
  own : Own (h.next + 1) g 2 r.length acc (r.flatMap smC)
  len : r.length = j
  rng : SmpR r
  far : at' ≤ 8 * n' + 300
  rel : ∀ l0 z, DecK0 l0 z (bitsOf b') cnt → DecJ (bitsOf b') l0 z j r at' step

theorem UnO.set {h : AH} {id j : Nat} {v : AV} {n : Nat} {b : List Nat} {at' : Nat} {bad : Bool} (u : UnO h id v n b at' bad) (o : AObj) (hj : id ≠ j) (hv : idOf v ≠ some j) : UnO (h.set j o) id v n b at' bad :=
  ⟨by rw [get_set_old hj, u.cells], u.lt, Sl.setX u.sl _ hv, u.ne⟩

theorem SmpR.snoc {r : List Smp} (h : SmpR r) {T : Int} {V : Nat} (hT : -9223372036854775808 ≤ T ∧ T < 9223372036854775808) (hV : V < 2 ^ 64) : SmpR (r ++ [(T, V)]) := by
  intro x hx
  rcases List.mem_append.1 hx with h1 | h1
  · exact h x h1
  · simp at h1; subst h1; exact ⟨hT, hV⟩

end Go.Dk

namespace Go.Dk
open Go Go.Dr
set_option maxRecDepth 100000

/-- the step is the last two samples' -/
def StepOk (r : List Smp) (st : Int) : Prop := (r.length ≤ 1 → st = 0) ∧ ∀ (j : Nat) (a b : Smp), r.length = j + 2 → r[j + 1]? = some a → r[j]? = some b → st = wrapF .i64 (a.1 - b.1)

structure RDecI (h g : AH) (v' : AV) (n' : Nat) (b' : List Nat) (cnt j : Nat) (acc : AV) (r : List Smp) (at' : Nat) (step : Int) : Prop where
  fr : Fr h g
  un : InO g h.next v' n' b' at' false
  own : Own (h.next + 1) g 2 r.length acc (r.flatMap smC)
  len : r.length = j
  rng : SmpR r
  rel : ∀ l0 z, DecK0 l0 z (bitsOf b') cnt → DecJ (bitsOf b') l0 z j r at' step
  stp : StepOk r step

theorem StepOk.one {T : Int} {V : Nat} {st : Int} (h : st = 0) : StepOk ([] ++ [(T, V)]) st := ⟨fun _ => h, fun j a b hl => by simp at hl⟩

theorem StepOk.snoc {r : List Smp} {j : Nat} {t n step : Int} {w V : Nat} (hl : r.length = j + 1) (hr : r[j]? = some (t, w)) : StepOk (r ++ [(wrapF .i64 (t + wrapF .i64 (step + n)), V)]) (wrapF .i64 (step + n)) := by
  refine ⟨fun h => by rw [List.length_append, List.length_singleton] at h; omega, fun i a b hli ha hb => ?_⟩
  rw [List.length_append, List.length_singleton] at hli
  have hi : i = j := by omega
  subst hi
  rw [List.getElem?_append_right (by omega), show i + 1 - r.length = 0 from by omega] at ha
  rw [List.getElem?_append_left (by omega), hr] at hb
  cases ha
  cases hb
  simp only [wrap_i64n]
  omega

end Go.Dk

namespace Go.Dk
open Go Go.Dr
set_option maxRecDepth 100000

/-- the first byte of some, the text behind it, and the rest -/
theorem piece_at {h : AH} {m : Nat} {v : AV} {r : List Nat} (s : Sl h 1 m v (by8 r)) (hm : m < 2 ^ 62) :
    (r = [] ∧ m = 0) ∨ ∃ n t, r = n :: t ∧ m = t.length + 1 ∧ (∃ id o, opIdxV 1 v (.int .i64 0) = .ok (.ptr id o) ∧ (∀ g, Sl g 1 m v (by8 r) → load1 g id o = .ok (.int .u8 (n : Int)))) ∧
      (n ≤ t.length → ∃ u w, opSliceV 1 v (some (.int .i64 1)) (some (.int .i64 (1 + (n : Int)))) none = .ok u ∧ (∀ g, Sl g 1 m v (by8 r) → Sl g 1 n u (by8 (t.take n))) ∧
        opSliceV 1 v (some (.int .i64 (1 + (n : Int)))) none none = .ok w ∧ (∀ g, Sl g 1 m v (by8 r) → Sl g 1 (t.length - n) w (by8 (t.drop n)))) := by
  cases r with
  | nil => exact .inl ⟨rfl, by have := s.1; simpa using this.symm⟩
  | cons n t =>
    have hm1 : m = t.length + 1 := by have := s.1; simp at this; omega
    refine .inr ⟨n, t, rfl, hm1, ?_, fun hn => ?_⟩
    · obtain ⟨id, o, g1, g2, _⟩ := s.get1 (k := .i64) (i := 0) (j := 0) rfl (by omega) (x := .int .u8 (n : Int)) rfl
      refine ⟨id, o, g1, fun g sg => ?_⟩
      obtain ⟨id2, o2, k1, k2, _⟩ := sg.get1 (k := .i64) (i := 0) (j := 0) rfl (by omega) (x := .int .u8 (n : Int)) rfl
      rw [g1] at k1
      cases k1
      exact k2
    · obtain ⟨u, eu, _⟩ := s.slice (lo := some (.int .i64 ((1 : Nat) : Int))) (hi := some (.int .i64 ((1 + n : Nat) : Int))) (a := 1) (b := 1 + n) (.inr ⟨.i64, rfl⟩) (.inr ⟨.i64, rfl⟩) (by omega) (by omega)
      obtain ⟨w, ew, _⟩ := s.slice (lo := some (.int .i64 ((1 + n : Nat) : Int))) (hi := none) (a := 1 + n) (b := m) (.inr ⟨.i64, rfl⟩) (.inl ⟨rfl, rfl⟩) (by omega) (by omega)
      have ec : ((1 + n : Nat) : Int) = 1 + (n : Int) := by omega
      refine ⟨u, w, by rw [← ec]; exact eu, fun g sg => ?_, by rw [← ec]; exact ew, fun g sg => ?_⟩
      · obtain ⟨u', eu', su⟩ := sg.slice (lo := some (.int .i64 ((1 : Nat) : Int))) (hi := some (.int .i64 ((1 + n : Nat) : Int))) (a := 1) (b := 1 + n) (.inr ⟨.i64, rfl⟩) (.inr ⟨.i64, rfl⟩) (by omega) (by omega)
        rw [eu] at eu'
        cases eu'
        rw [show 1 + n - 1 = n from by omega, Nat.mul_one, Nat.mul_one, by8_drop, by8_take, List.drop_succ_cons, List.drop_zero] at su
        exact su
      · obtain ⟨w', ew', sw⟩ := sg.slice (lo := some (.int .i64 ((1 + n : Nat) : Int))) (hi := none) (a := 1 + n) (b := m) (.inr ⟨.i64, rfl⟩) (.inl ⟨rfl, rfl⟩) (by omega) (by omega)
        rw [ew] at ew'
        cases ew'
        rw [show m - (1 + n) = t.length - n from by omega, Nat.mul_one, Nat.mul_one, by8_drop, by8_take, show 1 + n = n + 1 from by omega, List.drop_succ_cons, List.take_of_length_le (by simp)] at sw
        exact sw

end Go.Dk

namespace Go.Dk
open Go Go.Dr
set_option maxRecDepth 100000

def PieceK (h : AH) (n : Nat) (v : AV) (b : List Nat) (r : AV) (g : AH) : Prop :=
  g = h ∧ match piece b with
    | some (s, t) => ∃ w, r = .tuple [.str s, w, .bool true] ∧ ∀ g', Sl g' 1 n v (by8 b) → Sl g' 1 t.length w (by8 t)
    | none => r = .tuple [.str [], .nils, .bool false]

theorem ref07_Piece {h : AH} {n : Nat} {v : AV} {b : List Nat} (s : Sl h 1 n v (by8 b)) (hn : n ≤ 2 ^ 40) (hb : ∀ x ∈ b, x < 256) : Ev P SI (.fn f_ref07_Piece) [v] h (PieceK h n v b) := by
  refine ev_fn k_ref07_Piece rfl rfl ?_
  rcases piece_at s (by omega) with ⟨rfl, rfl⟩ | ⟨k, t, rfl, hm, ⟨id0, o0, i1, i2⟩, hq⟩
  · simp [c_ref07_Piece, s.len, PieceK, piece]
  have i2 := i2 h s
  have hk : k < 256 := hb k (by simp)
  have c0 : ¬ n = 0 := by omega
  have w1 : wrapF .i64 ((n : Int) - 1) = (t.length : Int) := by rw [wrap_i64 (by omega) (by omega)]; omega
  have wq : wrapF .i64 (k : Int) = (k : Int) := wrap_i64 (by omega) (by omega)
  have w2 : wrapF .i64 (1 + (k : Int)) = 1 + (k : Int) := wrap_i64 (by omega) (by omega)
  by_cases hle : k ≤ t.length
  · have c2 : ¬ (t.length : Int) < k := by omega
    obtain ⟨su, sw, y1, y2, y3, y4⟩ := hq hle
    have cs := conv_strB (y2 h s)
    simp [c_ref07_Piece, s.len, c0, i1, i2, w1, wq, w2, c2, y1, y3, cs, PieceK, piece, hle]
    exact y4
  · have c2 : (t.length : Int) < k := by omega
    simp [c_ref07_Piece, s.len, c0, i1, i2, w1, wq, w2, c2, PieceK, piece, hle]

end Go.Dk

namespace Go.Dk
open Go Go.Dr
set_option maxRecDepth 100000

open Classical in
noncomputable def decSm (b : List Nat) : Option (List Smp) := if h : ∃ l, IsS b l then some h.choose else none

theorem DecS.m {h g : AH} {b : List Nat} {r : AV} (d : DecS h b r g) : Fr h g ∧ match decSm b with
    | some l => ∃ v, r = .tuple [v, .int .i64 0] ∧ Sl g 2 l.length v (l.flatMap smC)
    | none => r = .tuple [.nils, .int .i64 5] := by
  obtain ⟨f, d⟩ := d
  refine ⟨f, ?_⟩
  rcases d with ⟨l, v, h1, h2, h3, h4⟩ | ⟨hno, h3⟩
  · have hex : ∃ l, IsS b l := ⟨l, h1⟩
    have : decSm b = some l := by
      unfold decSm
      rw [dif_pos hex, h2 _ hex.choose_spec]
    rw [this]
    exact ⟨v, h3, h4⟩
  · have : decSm b = none := by
      unfold decSm
      rw [dif_neg (fun ⟨l, hl⟩ => hno l hl)]
    rw [this]
    exact h3

/-- the first chunk of bytes: labels, samples, how long it is -/
noncomputable def chunkB (b : List Nat) (k : Nat) : Option (List Lab × List Smp × Nat) :=
  if b.length - 4 < k then none else
    match decL ((b.drop 4).take k) with
    | .error _ => none
    | .ok (l, rest) => match decSm rest with
      | none => none
      | some s => if s.length = 0 ∨ 20 < s.length then none else some (l, s, 4 + k)

noncomputable def chunkOf (b : List Nat) : Option (List Lab × List Smp × Nat) := if b.length < 4 then none else chunkB b (beV (b.take 4))

end Go.Dk

namespace Go.Dk
open Go Go.Dr
set_option maxRecDepth 100000

end Go.Dk

namespace Go.Dk
open Go Go.Dr
set_option maxRecDepth 100000

/-- an entry, plain -/
structure Ep where
  ls : List Lab
  pl : Int
  sz : Int
  mn : Int
  mx : Int

def enC (x : AV × Ep) : List AV := [x.1, .int .i64 x.2.pl, .int .i64 x.2.sz, .int .i64 x.2.mn, .int .i64 x.2.mx]
def EnOk (h : AH) (x : AV × Ep) : Prop := Sl h 2 x.2.ls.length x.1 (x.2.ls.flatMap labC)
theorem EnOk.fr {h g : AH} {x : AV × Ep} (e : EnOk h x) (f : Fr h g) : EnOk g x := Sl.fr e f

def mnS (s : List Smp) : Int := match s[0]? with | some x => x.1 | none => 0
def mxS (s : List Smp) : Int := match s[s.length - 1]? with | some x => x.1 | none => 0

/-- the entries of bytes, and whether they end well -/
noncomputable def ents : Nat → Nat → List Nat → List Ep × Bool
  | 0, _, _ => ([], true)
  | f + 1, a, b => if b = [] then ([], true) else match chunkOf b with
    | none => ([], false)
    | some (l, s, n) => (⟨l, a, n, mnS s, mxS s⟩ :: (ents f (a + n) (b.drop n)).1, (ents f (a + n) (b.drop n)).2)

/-- a cursor's block -/
structure CurO (h : AH) (id : Nat) (v : AV) (n : Nat) (b : List Nat) (at' : Nat) (bad : Bool) : Prop where
  cells : h.get id = some (.cells [.bool true, v, .int .i64 (at' : Int), .bool bad] false)
  lt : id < h.next
  sl : Sl h 1 n v (by8 b)
  lo : ∀ i, idOf v = some i → i < id

theorem CurO.ne {h : AH} {id : Nat} {v : AV} {n : Nat} {b : List Nat} {at' : Nat} {bad : Bool} (u : CurO h id v n b at' bad) : idOf v ≠ some id := fun e => by have := u.lo _ e; omega

theorem CurO.fr {h g : AH} {id : Nat} {v : AV} {n : Nat} {b : List Nat} {at' : Nat} {bad : Bool} (u : CurO h id v n b at' bad) (f : Fr h g) : CurO g id v n b at' bad :=
  ⟨by rw [f.get _ u.lt, u.cells], Nat.lt_of_lt_of_le u.lt f.next, u.sl.fr f, u.lo⟩

theorem clone8 {h : AH} {v : AV} {l : List Nat} {n : Nat} (hv : Sl h 1 n v (by8 l)) (hn : n ≤ 2 ^ 36) : Ev P SI (.fn f_slices_Clone_byte_byte) [v] h fun r g => Sl g 1 n r (by8 l) ∧ Fr h g := by
  refine ev_fn k_slices_Clone_byte_byte rfl rfl ?_
  obtain ⟨b, hb, hb2⟩ := hv.isNil und_sl_uint8 true
  cases b with
  | true =>
    obtain ⟨rfl, rfl, hl⟩ := hb2 rfl
    simp [c_slices_Clone_byte_byte]
    exact ⟨hv, .refl _⟩
  | false =>
    have o0 : Own h.next (h.push (.cells [] false)) 1 0 (.slice h.next 0 0 0 true 1) [] := ⟨by simp, .inr ⟨h.next, 0, true, [], rfl, Nat.le_refl _, by simp, get_push_new _, by simp, by simp⟩⟩
    have f0 := Fr.push (.refl h) (.cells [] false)
    obtain ⟨v1, g1, e1, o1, fb, _⟩ := o0.append (bytes := 1) (hv.fr f0) (by simp) (by8_scalar _) (by omega) (by omega)
    simp [c_slices_Clone_byte_byte, hb, e1]
    rw [Nat.zero_add, List.nil_append] at o1
    exact ⟨o1.sl, ⟨Nat.le_trans f0.next fb.next, fun i hi => (fb.get i hi).trans (f0.get i hi)⟩⟩

end Go.Dk

namespace Go.Dk
open Go Go.Dr
set_option maxRecDepth 100000

/-- an entry behind another one -/
def okNext : Option Ep → Ep → Bool
  | none, _ => true
  | some p, x => !decide (0 < cmpL p.ls x.ls) && !(decide (cmpL p.ls x.ls = 0) && decide (x.mn ≤ p.mx))

def ok1 (pos : Int) (x : Ep) : Bool := canL x.ls && decide (x.mn ≤ x.mx) && decide (1 ≤ x.sz) && decide (x.sz ≤ 2147483647) && decide (x.pl = pos)

def canFE (pos : Int) (prev : Option Ep) : List Ep → Bool
  | [] => true
  | x :: l => ok1 pos x && okNext prev x && canFE (wrapF .i64 (pos + x.sz)) (some x) l

def canE (l : List Ep) : Bool := canFE 0 none l && decide (l.length ≤ 100000)

theorem en_len (xs : List (AV × Ep)) : (xs.flatMap enC).length = xs.length * 5 := flatMap_len xs (fun _ _ => rfl)

theorem en_at {h : AH} {n : Nat} {v : AV} {xs : List (AV × Ep)} (s : Sl h 5 n v (xs.flatMap enC)) {j : Nat} {x : AV × Ep} (hx : xs[j]? = some x) :
    ∃ id o, opIdxV 5 v (.int .i64 (j : Int)) = .ok (.ptr id o) ∧ loadN h id o 5 = .ok (enC x) ∧ load1 h id o = .ok x.1 ∧ load1 h id (o + 3) = .ok (.int .i64 x.2.mn) ∧ load1 h id (o + 4) = .ok (.int .i64 x.2.mx) ∧ id < h.next := by
  obtain ⟨id, o, h1, h2, h3, h4⟩ := s.elem (fun _ _ => rfl) (by omega) (k := .i64) (i := (j : Int)) rfl hx
  exact ⟨id, o, h1, h2, h3 0 _ rfl, h3 3 _ rfl, h3 4 _ rfl, h4⟩

def prevOf (xs : List (AV × Ep)) (j : Nat) : Option Ep := if j = 0 then none else (xs[j - 1]?).map (·.2)

/-- how far entries are looked at -/
def CanJ (xs : List (AV × Ep)) (j : Nat) (pos : Int) : Prop := canFE 0 none (xs.map (·.2)) = canFE pos (prevOf xs j) ((xs.drop j).map (·.2))

theorem CanJ.step {xs : List (AV × Ep)} {j : Nat} {pos : Int} {x : AV × Ep} (c : CanJ xs j pos) (hx : xs[j]? = some x) :
    canFE 0 none (xs.map (·.2)) = (ok1 pos x.2 && okNext (prevOf xs j) x.2 && canFE (wrapF .i64 (pos + x.2.sz)) (some x.2) ((xs.drop (j + 1)).map (·.2))) := by
  rw [c, drop_at hx, List.map_cons, canFE]

theorem CanJ.next {xs : List (AV × Ep)} {j : Nat} {pos : Int} {x : AV × Ep} (c : CanJ xs j pos) (hx : xs[j]? = some x) (h1 : ok1 pos x.2 = true) (h2 : okNext (prevOf xs j) x.2 = true) : CanJ xs (j + 1) (wrapF .i64 (pos + x.2.sz)) := by
  have := c.step hx
  rw [h1, h2] at this
  unfold CanJ
  rw [this]
  simp [prevOf, hx]

theorem canE_no {l : List Ep} (h : canFE 0 none l = false) : canE l = false := by simp [canE, h]

theorem index_Can {h : AH} {n : Nat} {v : AV} {xs : List (AV × Ep)} (s : Sl h 5 n v (xs.flatMap enC)) (hn : n ≤ 2 ^ 40) (he : ∀ x ∈ xs, EnOk h x ∧ Short x.2.ls ∧ x.2.ls.length < 2 ^ 62) :
    Ev P SI (.fn f_index_Can) [v] h fun r g => r = .bool (canE (xs.map (·.2))) ∧ Fr h g := by
  refine ev_fn k_index_Can rfl rfl ?_
  have hl : xs.length = n := by have := s.1; rw [en_len] at this; omega
  simp [c_index_Can, s.len]
  refine w_count (n := n) (by rfl) (fun j σ ds g => ds = [] ∧ σ 0 = v ∧ σ 8 = v ∧ σ 9 = .int .i64 (n : Int) ∧ Fr h g ∧ ∃ pos, σ 3 = .int .i64 pos ∧ CanJ xs j pos) (by omega) (by simp)
    ⟨rfl, by simp, by simp, by simp, .refl _, 0, by simp, rfl⟩ (fun j σ ds g hJ => by simp [hJ.2.2.2.1]) ?_ ?_
  · rintro j σ ds g hj hi ⟨rfl, e0, e8, e9, fr, pos, e3, hJ⟩
    obtain ⟨x, hx⟩ := at_some (l := xs) (j := j) (by omega)
    obtain ⟨hok, hsh, hll⟩ := he x (List.mem_of_getElem? hx)
    obtain ⟨id, o, a1, a2, _⟩ := en_at (s.fr fr) hx
    have okg := hok.fr fr
    have hlc := Sl.oneCell okg
    have stn := opStore_new (h := g) (n := 5) (z := [.nils, .int .i64 0, .int .i64 0, .int .i64 0, .int .i64 0]) (l := enC x) rfl rfl (by simp [enC, allScalar, hlc.2])
    have fp := Fr.push (.refl g) (.cells (enC x) false)
    have ge : (g.push (.cells (enC x) false)).get g.next = some (.cells (enC x) false) := get_push_new _
    have gn : (g.push (.cells (enC x) false)).next = g.next + 1 := rfl
    generalize hg1 : g.push (.cells (enC x) false) = g1 at *
    have ok1' := okg.fr fp
    have m0 : load1 g1 g.next 0 = .ok x.1 := load1_of ge
    have hstep := hJ.step hx
    simp [e8, hi, a1, opLoadN, a2, stn, m0]
    refine (labels_Can ok1' hsh).mono ?_
    rintro r g2 ⟨rfl, f2⟩
    have ge2 := f2.get g.next (by omega)
    rw [ge] at ge2
    have F2 := (fr.trans fp).trans f2
    have m0 : load1 g2 g.next 0 = .ok x.1 := load1_of ge2
    have m1 : load1 g2 g.next 1 = .ok (.int .i64 x.2.pl) := load1_of ge2
    have m2 : load1 g2 g.next 2 = .ok (.int .i64 x.2.sz) := load1_of ge2
    have m3 : load1 g2 g.next 3 = .ok (.int .i64 x.2.mn) := load1_of ge2
    have m4 : load1 g2 g.next 4 = .ok (.int .i64 x.2.mx) := load1_of ge2
    have no : ok1 pos x.2 = false → canE (xs.map (·.2)) = false := fun h => canE_no (by rw [hstep, h]; rfl)
    cases c1 : canL x.2.ls with
    | false =>
      have := no (by simp [ok1, c1])
      simp [this]
      exact F2
    | true =>
    by_cases c2 : x.2.mn ≤ x.2.mx
    case neg =>
      have := no (by simp [ok1, c2])
      have c2' : x.2.mx < x.2.mn := by omega
      simp [m3, m4, c2', this]
      exact F2
    have c2' : ¬ x.2.mx < x.2.mn := by omega
    by_cases c3 : 1 ≤ x.2.sz
    case neg =>
      have := no (by simp [ok1, c3])
      have c3' : x.2.sz < 1 := by omega
      simp [m2, m3, m4, c2', c3', this]
      exact F2
    have c3' : ¬ x.2.sz < 1 := by omega
    by_cases c4 : x.2.sz ≤ 2147483647
    case neg =>
      have := no (by simp [ok1, c4])
      have c4' : 2147483647 < x.2.sz := by omega
      simp [m2, m3, m4, c2', c3', c4', this]
      exact F2
    have c4' : ¬ 2147483647 < x.2.sz := by omega
    by_cases c5 : x.2.pl = pos
    case neg =>
      have := no (by simp [ok1, c5])
      simp [m1, m2, m3, m4, e3, c2', c3', c4', c5, this]
      exact F2
    have hok1 : ok1 pos x.2 = true := by simp [ok1, c1, c2, c3, c4, c5]
    by_cases hj0 : j = 0
    · subst hj0
      have hnx := hJ.next hx hok1 (by simp [prevOf, okNext])
      simp [m1, m2, m3, m4, e3, c2', c3', c4', c5, e0, e8, e9, hi]
      exact ⟨F2, hnx⟩
    obtain ⟨i, rfl⟩ : ∃ i, j = i + 1 := ⟨j - 1, by omega⟩
    obtain ⟨y, hy⟩ := at_some (l := xs) (j := i) (by omega)
    obtain ⟨hoky, _, hlly⟩ := he y (List.mem_of_getElem? hy)
    have hpv : prevOf xs (i + 1) = some y.2 := by simp [prevOf, hy]
    rw [hpv] at hstep
    obtain ⟨idy, oy, b1, b2, _⟩ := en_at (s.fr F2) hy
    have okgy := hoky.fr F2
    have hlcy := Sl.oneCell okgy
    have stn2 := opStore_new (h := g2) (n := 5) (z := [.nils, .int .i64 0, .int .i64 0, .int .i64 0, .int .i64 0]) (l := enC y) rfl rfl (by simp [enC, allScalar, hlcy.2])
    have fp2 := Fr.push (.refl g2) (.cells (enC y) false)
    have gy : (g2.push (.cells (enC y) false)).get g2.next = some (.cells (enC y) false) := get_push_new _
    have gyn : (g2.push (.cells (enC y) false)).next = g2.next + 1 := rfl
    generalize hg3 : g2.push (.cells (enC y) false) = g3 at *
    have hnn := f2.next
    have ge3 := fp2.get g.next (by omega)
    rw [ge2] at ge3
    have m03 : load1 g3 g.next 0 = .ok x.1 := load1_of ge3
    have q0 : load1 g3 g2.next 0 = .ok y.1 := load1_of gy
    have hpos : (0 : Int) < ((i + 1 : Nat) : Int) := by omega
    have w1 : wrapF .i64 (((i + 1 : Nat) : Int) - 1) = (i : Int) := by rw [wrap_i64 (by omega) (by omega)]; omega
    have w1' : wrapF .i64 (i : Int) = (i : Int) := wrap_i64 (by omega) (by omega)
    have hip : 0 < i + 1 := by omega
    generalize hjj : ((i + 1 : Nat) : Int) = j1 at *
    simp [m1, m2, m3, m4, e3, c2', c3', c4', c5, e0, hi, hpos, w1, w1', b1, opLoadN, b2, stn2, hg3, m03, q0]
    refine (labels_Compare ((okgy).fr fp2) (((okg.fr fp).fr f2).fr fp2) hlly hll).mono ?_
    rintro r g4 ⟨rfl, f4⟩
    have F4 := (F2.trans fp2).trans f4
    have ge4 := f4.get g.next (by omega)
    rw [ge3] at ge4
    have gy4 := f4.get g2.next (by omega)
    rw [gy] at gy4
    have n3 : load1 g4 g.next 3 = .ok (.int .i64 x.2.mn) := load1_of ge4
    have n4 : load1 g4 g2.next 4 = .ok (.int .i64 y.2.mx) := load1_of gy4
    have no2 : okNext (some y.2) x.2 = false → canE (xs.map (·.2)) = false := fun h => canE_no (by rw [hstep, h]; simp)
    generalize hcm : cmpL y.2.ls x.2.ls = cm at *
    by_cases d1 : 0 < cm
    · have := no2 (by simp [okNext, hcm, d1])
      simp [d1, this]
      exact F4
    · by_cases d2 : cm = 0
      · by_cases d3 : x.2.mn ≤ y.2.mx
        · have := no2 (by simp [okNext, hcm, d2, d3])
          simp [d2, n3, n4, d3, this]
          exact F4
        · have hnx := hJ.next hx hok1 (by rw [hpv]; simp [okNext, hcm, d2, d3])
          simp [d2, n3, n4, d3, e0, e8, e9, hi]
          exact ⟨F4, hnx⟩
      · have hnx := hJ.next hx hok1 (by rw [hpv]; simp [okNext, hcm, d1, d2])
        simp [d1, d2, e0, e8, e9, hi]
        exact ⟨F4, hnx⟩
  · rintro σ ds g ⟨rfl, e0, e8, e9, fr, pos, e3, hJ⟩
    have : canFE 0 none (xs.map (·.2)) = true := by rw [hJ, List.drop_of_length_le (by omega)]; rfl
    have hc : canE (xs.map (·.2)) = decide ((n : Int) ≤ 100000) := by
      simp only [canE, this, Bool.true_and, List.length_map, hl]
      congr 1
      simp only [eq_iff_iff]
      omega
    simp [e0, s.len, hc]
    exact fr

end Go.Dk

/-
  Maps whose entries are told by a list: what stands where, what is written.
-/
namespace Go.Dr
open Go.RowKit

/-- entries, born one behind the other from i on -/
def mk0 : Nat → List (AV × AV) → List AEntry
  | _, [] => []
  | i, x :: l => ⟨x.1, x.2, i⟩ :: mk0 (i + 1) l

theorem mk0_length : ∀ (l : List (AV × AV)) (i : Nat), (mk0 i l).length = l.length
  | [], _ => rfl
  | x :: l, i => by simp [mk0, mk0_length l]
theorem mk0_append : ∀ (l r : List (AV × AV)) (i : Nat), mk0 i (l ++ r) = mk0 i l ++ mk0 (i + l.length) r
  | [], r, i => by simp [mk0]
  | x :: l, r, i => by
    simp only [List.cons_append, mk0, mk0_append l r, List.length_cons]
    rw [show i + 1 + l.length = i + (l.length + 1) by omega]
theorem mk0_get : ∀ (l : List (AV × AV)) (i n : Nat) (x : AV × AV), l[n]? = some x → (mk0 i l)[n]? = some ⟨x.1, x.2, i + n⟩
  | [], _, _, _, h => by simp at h
  | y :: l, i, 0, x, h => by simp at h; subst h; rfl
  | y :: l, i, n + 1, x, h => by
    simp only [mk0, List.getElem?_cons_succ] at h ⊢
    rw [mk0_get l (i + 1) n x h, show i + 1 + n = i + (n + 1) by omega]
theorem mk0_keys : ∀ (l : List (AV × AV)) (i : Nat), (mk0 i l).map AEntry.key = l.map (·.1)
  | [], _ => rfl
  | x :: l, i => by simp [mk0, mk0_keys l]
theorem mk0_born : ∀ (l : List (AV × AV)) (i : Nat), (mk0 i l).map AEntry.born = List.range' i l.length
  | [], _ => rfl
  | x :: l, i => by simp only [mk0, List.map_cons, mk0_born l, List.length_cons, List.range'_succ]
theorem mk0_lt {l : List (AV × AV)} {i : Nat} : ∀ e ∈ mk0 i l, e.born < i + l.length := by
  intro e he
  have : e.born ∈ (mk0 i l).map AEntry.born := List.mem_map.2 ⟨e, he, rfl⟩
  rw [mk0_born] at this
  have := List.mem_range'_1.1 this
  omega
theorem mk0_nodup (l : List (AV × AV)) (i : Nat) : ((mk0 i l).map AEntry.born).Nodup := by rw [mk0_born]; exact List.nodup_range'

section
variable {P : Program} {α : Type} {h : AH}

/-- what may be a key, told by a plain thing -/
structure KeyIs (P : Program) (kt : TypeId) (κ : α → AV) [DecidableEq α] : Prop where
  eq : ∀ a b, eqAt P 20 kt (κ a) (κ b) = .ok (decide (a = b))
  ok : ∀ a, keyOk P 10 kt (κ a) = true
  same : ∀ a, sameK (κ a) (κ a) = true

variable [DecidableEq α] {kt : TypeId} {κ : α → AV}

def kvA (κ : α → AV) (l : List (α × AV)) : List (AV × AV) := l.map fun x => (κ x.1, x.2)
omit [DecidableEq α] in
theorem kvA_length (l : List (α × AV)) : (kvA κ l).length = l.length := by simp [kvA]
omit [DecidableEq α] in
theorem kvA_append (l r : List (α × AV)) : kvA κ (l ++ r) = kvA κ l ++ kvA κ r := by simp [kvA]

theorem find_none (hk : KeyIs P kt κ) (a : α) : ∀ (l : List (α × AV)) (i j : Nat), a ∉ l.map (·.1) → findE P kt (κ a) (mk0 i (kvA κ l)) j = .ok none
  | [], _, _, _ => rfl
  | x :: l, i, j, h => by
    simp only [List.map_cons, List.mem_cons, not_or] at h
    simp only [kvA, List.map_cons, mk0, findE, hk.eq, h.1, decide_false]
    exact find_none hk a l (i + 1) (j + 1) h.2

theorem find_some (hk : KeyIs P kt κ) (a : α) (v : AV) : ∀ (l : List (α × AV)) (i j n : Nat), l[n]? = some (a, v) → (l.map (·.1)).Nodup → findE P kt (κ a) (mk0 i (kvA κ l)) j = .ok (some (j + n, v))
  | [], _, _, _, h, _ => by simp at h
  | x :: l, i, j, 0, h, _ => by
    simp at h; subst h
    simp only [kvA, List.map_cons, mk0, findE, hk.eq, decide_true]; rfl
  | x :: l, i, j, n + 1, h, hn => by
    simp only [List.map_cons, List.nodup_cons] at hn
    simp only [List.getElem?_cons_succ] at h
    have hne : a ≠ x.1 := fun e => hn.1 (by rw [← e]; exact List.mem_map.2 ⟨(a, v), List.mem_of_getElem? h, rfl⟩)
    simp only [kvA, List.map_cons, mk0, findE, hk.eq, hne, decide_false]
    rw [show j + (n + 1) = j + 1 + n by omega]
    exact find_some hk a v l (i + 1) (j + 1) n h hn.2

theorem keyAt_of (hk : KeyIs P kt κ) (a : α) (v : AV) : ∀ (l : List (α × AV)) (i n : Nat), l[n]? = some (a, v) → keyAt (κ a) n (mk0 i (kvA κ l)) = true
  | [], _, _, h => by simp at h
  | x :: l, i, 0, h => by simp at h; subst h; simp only [kvA, List.map_cons, mk0, keyAt, hk.same]
  | x :: l, i, n + 1, h => by
    simp only [List.getElem?_cons_succ] at h
    simp only [kvA, List.map_cons, mk0, keyAt]
    exact keyAt_of hk a v l (i + 1) n h

omit [DecidableEq α] in
theorem setKey_of (a : α) (v : AV) : ∀ (l : List (α × AV)) (i n : Nat), l[n]? = some (a, v) → setKey (κ a) n (mk0 i (kvA κ l)) = mk0 i (kvA κ l)
  | [], _, _, h => by simp at h
  | x :: l, i, 0, h => by simp at h; subst h; rfl
  | x :: l, i, n + 1, h => by
    simp only [List.getElem?_cons_succ] at h
    simp only [kvA, List.map_cons, mk0, setKey]
    have := setKey_of a v l (i + 1) n h
    simp only [kvA] at this
    rw [this]

omit [DecidableEq α] in
theorem setVal_of (a : α) (v u : AV) : ∀ (l : List (α × AV)) (i n : Nat), l[n]? = some (a, v) → setVal (κ a) u n (mk0 i (kvA κ l)) = mk0 i (kvA κ (l.set n (a, u)))
  | [], _, _, h => by simp at h
  | x :: l, i, 0, h => by simp at h; subst h; rfl
  | x :: l, i, n + 1, h => by
    simp only [List.getElem?_cons_succ] at h
    simp only [kvA, List.map_cons, mk0, setVal, List.set_cons_succ]
    have := setVal_of a v u l (i + 1) n h
    simp only [kvA] at this
    rw [this]

omit [DecidableEq α] in
theorem setValAt_of (a : α) (v u : AV) : ∀ (l : List (α × AV)) (i n : Nat), l[n]? = some (a, v) → setValAt u n (mk0 i (kvA κ l)) = mk0 i (kvA κ (l.set n (a, u)))
  | [], _, _, h => by simp at h
  | x :: l, i, 0, h => by simp at h; subst h; rfl
  | x :: l, i, n + 1, h => by
    simp only [List.getElem?_cons_succ] at h
    simp only [kvA, List.map_cons, mk0, setValAt, List.set_cons_succ]
    have := setValAt_of a v u l (i + 1) n h
    simp only [kvA] at this
    rw [this]

theorem findBorn_of : ∀ (l : List (AV × AV)) (i j n : Nat), n < l.length → findBorn ((i + n : Nat) : Int) (mk0 i l) j = some (j + n)
  | [], _, _, _, h => by simp at h
  | x :: l, i, j, 0, h => by simp [mk0, findBorn]
  | x :: l, i, j, n + 1, h => by
    have hne : (((i : Nat) : Int) == ((i + (n + 1) : Nat) : Int)) = false := by simp; omega
    simp only [mk0, findBorn, hne, cond_false]
    rw [show i + (n + 1) = i + 1 + n by omega, show j + (n + 1) = j + 1 + n by omega]
    exact findBorn_of l (i + 1) (j + 1) n (by simpa using h)

/-- a map's block, told by its entries -/
def MapO (κ : α → AV) (h : AH) (m : Nat) (l : List (α × AV)) : Prop := h.get m = some (.map (mk0 0 (kvA κ l)) l.length)

theorem MapO.lookup_some (hk : KeyIs P kt κ) {m n : Nat} {l : List (α × AV)} {a : α} {v z : AV} (hm : MapO κ h m l) (ha : l[n]? = some (a, v)) (hn : (l.map (·.1)).Nodup) : opLookup P kt z false h (.map m) (κ a) = .ok v := by
  simp only [opLookup, entriesOf, show h.get m = _ from hm, hk.ok, if_true, find_some hk a v l 0 0 n ha hn, withOk]

theorem MapO.upd_new (hk : KeyIs P kt κ) {m : Nat} {l : List (α × AV)} {a : α} {v : AV} (hm : MapO κ h m l) (ha : a ∉ l.map (·.1)) :
    opUpd P kt h (.map m) (κ a) v = .ok (h.set m (.map (mk0 0 (kvA κ (l ++ [(a, v)]))) (l ++ [(a, v)]).length)) := by
  simp only [opUpd, show h.get m = _ from hm, hk.ok, if_true, find_none hk a l 0 0 ha]
  rw [kvA_append, mk0_append, kvA_length, Nat.zero_add, List.length_append]
  rfl

theorem MapO.upd_old (hk : KeyIs P kt κ) {m n : Nat} {l : List (α × AV)} {a : α} {v u : AV} (hm : MapO κ h m l) (ha : l[n]? = some (a, u)) (hn : (l.map (·.1)).Nodup) :
    opUpd P kt h (.map m) (κ a) v = .ok (h.set m (.map (mk0 0 (kvA κ (l.set n (a, v)))) (l.set n (a, v)).length)) := by
  simp only [opUpd, show h.get m = _ from hm, hk.ok, if_true, find_some hk a u l 0 0 n ha hn, Nat.zero_add, keyAt_of hk a u l 0 n ha, setVal_of a u v l 0 n ha, List.length_set]

theorem MapO.entry_new (hk : KeyIs P kt κ) {m : Nat} {l : List (α × AV)} {a : α} {z : AV} (hm : MapO κ h m l) (ha : a ∉ l.map (·.1)) :
    opMapEntry P kt z h (.map m) (κ a) = okV (.tuple [z, .int .i64 (l.length : Nat)]) (h.set m (.map (mk0 0 (kvA κ (l ++ [(a, z)]))) (l ++ [(a, z)]).length)) := by
  simp only [opMapEntry, show h.get m = _ from hm, hk.ok, if_true, find_none hk a l 0 0 ha]
  rw [kvA_append, mk0_append, kvA_length, Nat.zero_add, List.length_append]
  rfl

theorem MapO.entry_old (hk : KeyIs P kt κ) {m n : Nat} {l : List (α × AV)} {a : α} {z u : AV} (hm : MapO κ h m l) (ha : l[n]? = some (a, u)) (hn : (l.map (·.1)).Nodup) :
    opMapEntry P kt z h (.map m) (κ a) = okV (.tuple [u, .int .i64 (n : Nat)]) (h.set m (.map (mk0 0 (kvA κ l)) l.length)) := by
  have hg : (mk0 0 (kvA κ l))[n]? = some ⟨κ a, u, 0 + n⟩ := mk0_get _ 0 n (κ a, u) (by simp only [kvA, List.getElem?_map, ha]; rfl)
  simp only [opMapEntry, show h.get m = _ from hm, hk.ok, if_true, find_some hk a u l 0 0 n ha hn, Nat.zero_add, hg, keyAt_of hk a u l 0 n ha, setKey_of a u l 0 n ha]

omit [DecidableEq α] in
theorem MapO.store {m n : Nat} {l : List (α × AV)} {a : α} {u v : AV} (hm : MapO κ h m l) (ha : l[n]? = some (a, u)) :
    opEntryStore h (.map m) (.int .i64 (n : Nat)) v = .ok (h.set m (.map (mk0 0 (kvA κ (l.set n (a, v)))) (l.set n (a, v)).length)) := by
  have hn : n < l.length := (List.getElem?_eq_some_iff.1 ha).1
  have hf := findBorn_of (kvA κ l) 0 0 n (by rw [kvA_length]; exact hn)
  simp only [Nat.zero_add] at hf
  simp only [opEntryStore, show h.get m = _ from hm, hf, setValAt_of a u v l 0 n ha, List.length_set]

end
end Go.Dr

namespace Go.Dk
open Go Go.Dr
set_option maxRecDepth 100000

/-! ### keys -/

theorem keyT : KeyIs P t_string AV.str where
  eq a b := by
    have h : eqAt P 20 t_string (.str a) (.str b) = .ok (a == b) := by kernel_rfl
    rw [h]; congr 1
    by_cases e : a = b <;> simp [e]
  ok a := by kernel_rfl
  same a := by simp [sameK, sameS]

def kP (z : Nat × Nat) : AV := .agg [.int .i64 (z.1 : Int), .int .i64 (z.2 : Int)]
theorem eq_pair (a b c d : Int) : eqAt P 20 t_index_pair (.agg [.int .i64 a, .int .i64 b]) (.agg [.int .i64 c, .int .i64 d]) =
   (match (.ok (a == c) : R Bool) with | .ok true => (match (.ok (b == d) : R Bool) with | .ok true => .ok true | .ok false => .ok false | .error e => .error e) | .ok false => .ok false | .error e => .error e) := by kernel_rfl
theorem ok_pair (a b : Int) : keyOk P 10 t_index_pair (.agg [.int .i64 a, .int .i64 b]) = true := by kernel_rfl
theorem keyP : KeyIs P t_index_pair kP where
  eq a b := by
    obtain ⟨a1, a2⟩ := a
    obtain ⟨b1, b2⟩ := b
    unfold kP
    rw [eq_pair]
    by_cases h1 : a1 = b1
    · by_cases h2 : a2 = b2
      · simp [h1, h2]
      · have : (((a2 : Nat) : Int) == (b2 : Int)) = false := by simp; omega
        simp [h1, h2, this]
    · have : (((a1 : Nat) : Int) == (b1 : Int)) = false := by simp; omega
      simp [h1, this]
  ok a := ok_pair _ _
  same a := by simp [kP, sameK, sameSL, sameS]

/-! ### the pieces of the code -/

noncomputable def c_items_1 : CC :=
 (.block 0
  (.loop
  (.seq
  (.ops [
  .row ⟨(some 26), none, .bin .lss t_int false (.t 25) (.t 24)⟩])
  (.seq
  (.cond (.t 26)
  .skip
  (.exit 0))
  (.seq
  (.block 1
  (.seq
  (.ops [
  .row ⟨(some 27), none, .idxV 5 (.t 23) (.t 25)⟩,
  .row ⟨(some 28), none, .loadN 5 (.t 27)⟩,
  .row ⟨(some 5), none, .new [.nils, (.int .i64 0), (.int .i64 0), (.int .i64 0), (.int .i64 0)]⟩,
  .row ⟨none, none, .store 5 (.t 5) (.t 28)⟩])
  (.seq
  (.ops [
  .row ⟨(some 29), none, .fieldAddr 0 (.t 5)⟩,
  .row ⟨(some 30), none, .load1 (.t 29)⟩,
  .row ⟨(some 31), none, .lenV (.t 30)⟩,
  .row ⟨(some 32), none, .move (.c (.int .i64 0))⟩])
  (.block 2
  (.loop
  (.seq
  (.ops [
  .row ⟨(some 33), none, .bin .lss t_int false (.t 32) (.t 31)⟩])
  (.seq
  (.cond (.t 33)
  .skip
  (.exit 2))
  (.seq
  (.block 3
  (.seq
  (.ops [
  .row ⟨(some 34), none, .idxV 2 (.t 30) (.t 32)⟩,
  .row ⟨(some 35), none, .loadN 2 (.t 34)⟩,
  .row ⟨(some 7), none, .new [(.str []), (.str [])]⟩,
  .row ⟨none, none, .store 2 (.t 7) (.t 35)⟩])
  (.ops [
  .row ⟨(some 36), none, .move (.t 3)⟩,
  .row ⟨(some 37), none, .fieldAddr 0 (.t 7)⟩,
  .row ⟨(some 38), none, .load1 (.t 37)⟩,
  .row ⟨(some 39), none, .move (.t 3)⟩,
  .row ⟨(some 40), none, .fieldAddr 1 (.t 7)⟩,
  .row ⟨(some 41), none, .load1 (.t 40)⟩,
  .stage [⟨(some 41), none, .load1 (.t 40)⟩, ⟨(some 38), none, .load1 (.t 37)⟩],
  .row ⟨none, none, .upd t_string (.t 36) (.t 38) (.c (.bool true))⟩,
  .stage [⟨(some 41), none, .load1 (.t 40)⟩],
  .row ⟨none, none, .upd t_string (.t 39) (.t 41) (.c (.bool true))⟩])))
  (.ops [
  .row ⟨(some 42), none, .bin .add t_int true (.t 32) (.c (.int .i64 1))⟩,
  .row ⟨(some 32), none, .move (.t 42)⟩])))))))))
  (.ops [
  .row ⟨(some 43), none, .bin .add t_int true (.t 25) (.c (.int .i64 1))⟩,
  .row ⟨(some 25), none, .move (.t 43)⟩]))))))

noncomputable def c_items_1i : CC :=
 (.block 2
  (.loop
  (.seq
  (.ops [
  .row ⟨(some 33), none, .bin .lss t_int false (.t 32) (.t 31)⟩])
  (.seq
  (.cond (.t 33)
  .skip
  (.exit 2))
  (.seq
  (.block 3
  (.seq
  (.ops [
  .row ⟨(some 34), none, .idxV 2 (.t 30) (.t 32)⟩,
  .row ⟨(some 35), none, .loadN 2 (.t 34)⟩,
  .row ⟨(some 7), none, .new [(.str []), (.str [])]⟩,
  .row ⟨none, none, .store 2 (.t 7) (.t 35)⟩])
  (.ops [
  .row ⟨(some 36), none, .move (.t 3)⟩,
  .row ⟨(some 37), none, .fieldAddr 0 (.t 7)⟩,
  .row ⟨(some 38), none, .load1 (.t 37)⟩,
  .row ⟨(some 39), none, .move (.t 3)⟩,
  .row ⟨(some 40), none, .fieldAddr 1 (.t 7)⟩,
  .row ⟨(some 41), none, .load1 (.t 40)⟩,
  .stage [⟨(some 41), none, .load1 (.t 40)⟩, ⟨(some 38), none, .load1 (.t 37)⟩],
  .row ⟨none, none, .upd t_string (.t 36) (.t 38) (.c (.bool true))⟩,
  .stage [⟨(some 41), none, .load1 (.t 40)⟩],
  .row ⟨none, none, .upd t_string (.t 39) (.t 41) (.c (.bool true))⟩])))
  (.ops [
  .row ⟨(some 42), none, .bin .add t_int true (.t 32) (.c (.int .i64 1))⟩,
  .row ⟨(some 32), none, .move (.t 42)⟩]))))))

noncomputable def c_items_2 : CC :=
 (.block 4
  (.loop
  (.seq
  (.ops [
  .row ⟨(some 56), none, .bin .lss t_int false (.t 55) (.t 54)⟩])
  (.seq
  (.cond (.t 56)
  .skip
  (.exit 4))
  (.seq
  (.block 5
  (.seq
  (.ops [
  .row ⟨(some 57), none, .move (.t 55)⟩,
  .row ⟨(some 58), none, .idxV 1 (.t 53) (.t 55)⟩,
  .row ⟨(some 59), none, .load1 (.t 58)⟩,
  .row ⟨(some 11), none, .move (.t 57)⟩,
  .row ⟨(some 12), none, .move (.t 59)⟩])
  (.seq
  (.ops [
  .row ⟨(some 60), none, .move (.t 9)⟩,
  .row ⟨(some 61), none, .move (.t 12)⟩,
  .row ⟨(some 62), none, .move (.t 11)⟩,
  .row ⟨none, none, .upd t_string (.t 60) (.t 61) (.t 62)⟩])
  (.ops [
  .row ⟨(some 63), none, .move (.t 10)⟩,
  .row ⟨(some 64), none, .move (.t 12)⟩,
  .row ⟨(some 65), none, .mkI t_index_text (.t 64)⟩,
  .row ⟨(some 66), none, .buildSlice 1 1 [.nili] [(0, 1, (.t 65))]⟩,
  .row ⟨(some 67), none, .app 1 16 (.t 63) (.t 66)⟩,
  .row ⟨(some 10), none, .move (.t 67)⟩]))))
  (.ops [
  .row ⟨(some 68), none, .bin .add t_int true (.t 55) (.c (.int .i64 1))⟩,
  .row ⟨(some 55), none, .move (.t 68)⟩]))))))

noncomputable def c_items_3 : CC :=
 (.block 6
  (.loop
  (.seq
  (.ops [
  .row ⟨(some 80), none, .bin .lss t_int false (.t 79) (.t 78)⟩])
  (.seq
  (.cond (.t 80)
  .skip
  (.exit 6))
  (.seq
  (.block 7
  (.seq
  (.ops [
  .row ⟨(some 81), none, .move (.t 79)⟩,
  .row ⟨(some 82), none, .idxV 5 (.t 77) (.t 79)⟩,
  .row ⟨(some 83), none, .loadN 5 (.t 82)⟩,
  .row ⟨(some 15), none, .new [.nils, (.int .i64 0), (.int .i64 0), (.int .i64 0), (.int .i64 0)]⟩,
  .row ⟨(some 14), none, .move (.t 81)⟩,
  .row ⟨none, none, .store 5 (.t 15) (.t 83)⟩])
  (.seq
  (.ops [
  .row ⟨(some 84), none, .move (.t 10)⟩,
  .row ⟨(some 85), none, .fieldAddr 0 (.t 15)⟩,
  .row ⟨(some 86), none, .load1 (.t 85)⟩,
  .row ⟨(some 87), none, .lenV (.t 86)⟩,
  .row ⟨(some 88), none, .build [(.int .i64 0), (.int .i64 0)] [(0, 1, (.t 87)), (1, 1, (.c (.int .i64 1)))]⟩,
  .row ⟨(some 89), none, .mkI t_index_word (.t 88)⟩,
  .row ⟨(some 90), none, .buildSlice 1 1 [.nili] [(0, 1, (.t 89))]⟩,
  .row ⟨(some 91), none, .app 1 16 (.t 84) (.t 90)⟩,
  .row ⟨(some 10), none, .move (.t 91)⟩])
  (.seq
  (.seq
  (.ops [
  .row ⟨(some 92), none, .fieldAddr 0 (.t 15)⟩,
  .row ⟨(some 93), none, .load1 (.t 92)⟩,
  .row ⟨(some 94), none, .lenV (.t 93)⟩,
  .row ⟨(some 95), none, .move (.c (.int .i64 0))⟩])
  (.block 8
  (.loop
  (.seq
  (.ops [
  .row ⟨(some 96), none, .bin .lss t_int false (.t 95) (.t 94)⟩])
  (.seq
  (.cond (.t 96)
  .skip
  (.exit 8))
  (.seq
  (.block 9
  (.seq
  (.ops [
  .row ⟨(some 97), none, .idxV 2 (.t 93) (.t 95)⟩,
  .row ⟨(some 98), none, .loadN 2 (.t 97)⟩,
  .row ⟨(some 17), none, .new [(.str []), (.str [])]⟩,
  .row ⟨none, none, .store 2 (.t 17) (.t 98)⟩])
  (.seq
  (.ops [
  .row ⟨(some 99), none, .move (.t 9)⟩,
  .row ⟨(some 100), none, .fieldAddr 0 (.t 17)⟩,
  .row ⟨(some 101), none, .load1 (.t 100)⟩,
  .row ⟨(some 102), none, .lookup t_string (.int .i64 0) false (.t 99) (.t 101)⟩,
  .row ⟨(some 103), none, .move (.t 9)⟩,
  .row ⟨(some 104), none, .fieldAddr 1 (.t 17)⟩,
  .row ⟨(some 105), none, .load1 (.t 104)⟩,
  .row ⟨(some 106), none, .lookup t_string (.int .i64 0) false (.t 103) (.t 105)⟩,
  .row ⟨(some 107), none, .build [(.int .i64 0), (.int .i64 0)] [(0, 1, (.t 102)), (1, 1, (.t 106))]⟩,
  .row ⟨(some 18), none, .new [(.int .i64 0), (.int .i64 0)]⟩,
  .row ⟨none, none, .store 2 (.t 18) (.t 107)⟩])
  (.seq
  (.ops [
  .row ⟨(some 108), none, .move (.t 10)⟩,
  .row ⟨(some 109), none, .fieldAddr 0 (.t 18)⟩,
  .row ⟨(some 110), none, .load1 (.t 109)⟩,
  .row ⟨(some 111), none, .build [(.int .i64 0), (.int .i64 0)] [(0, 1, (.t 110)), (1, 1, (.c (.int .i64 4)))]⟩,
  .row ⟨(some 112), none, .mkI t_index_word (.t 111)⟩,
  .row ⟨(some 113), none, .fieldAddr 1 (.t 18)⟩,
  .row ⟨(some 114), none, .load1 (.t 113)⟩,
  .row ⟨(some 115), none, .build [(.int .i64 0), (.int .i64 0)] [(0, 1, (.t 114)), (1, 1, (.c (.int .i64 4)))]⟩,
  .row ⟨(some 116), none, .mkI t_index_word (.t 115)⟩,
  .row ⟨(some 117), none, .buildSlice 2 1 [.nili, .nili] [(0, 1, (.t 112)), (1, 1, (.t 116))]⟩,
  .row ⟨(some 118), none, .app 1 16 (.t 108) (.t 117)⟩,
  .row ⟨(some 10), none, .move (.t 118)⟩])
  (.ops [
  .row ⟨(some 119), none, .move (.t 13)⟩,
  .row ⟨(some 120), none, .loadN 2 (.t 18)⟩,
  .row ⟨(some 122), none, .move (.t 14)⟩,
  .row ⟨(some 123), none, .buildSlice 1 1 [(.int .i64 0)] [(0, 1, (.t 122))]⟩,
  .row ⟨(some 124), none, .mapEntry t_index_pair .nils (.t 119) (.t 120)⟩,
  .row ⟨(some 121), none, .extract (.t 124) 0⟩,
  .row ⟨(some 125), none, .app 1 8 (.t 121) (.t 123)⟩,
  .row ⟨(some 126), none, .extract (.t 124) 1⟩,
  .row ⟨none, none, .entryStore (.t 119) (.t 126) (.t 125)⟩])))))
  (.ops [
  .row ⟨(some 127), none, .bin .add t_int true (.t 95) (.c (.int .i64 1))⟩,
  .row ⟨(some 95), none, .move (.t 127)⟩])))))))
  (.ops [
  .row ⟨(some 128), none, .move (.t 10)⟩,
  .row ⟨(some 129), none, .fieldAddr 2 (.t 15)⟩,
  .row ⟨(some 130), none, .load1 (.t 129)⟩,
  .row ⟨(some 131), none, .build [(.int .i64 0), (.int .i64 0)] [(0, 1, (.t 130)), (1, 1, (.c (.int .i64 4)))]⟩,
  .row ⟨(some 132), none, .mkI t_index_word (.t 131)⟩,
  .row ⟨(some 133), none, .fieldAddr 3 (.t 15)⟩,
  .row ⟨(some 134), none, .load1 (.t 133)⟩,
  .row ⟨(some 135), none, .build [(.int .i64 0), (.int .i64 0)] [(0, 1, (.t 134)), (1, 1, (.c (.int .i64 8)))]⟩,
  .row ⟨(some 136), none, .mkI t_index_word (.t 135)⟩,
  .row ⟨(some 137), none, .fieldAddr 4 (.t 15)⟩,
  .row ⟨(some 138), none, .load1 (.t 137)⟩,
  .row ⟨(some 139), none, .build [(.int .i64 0), (.int .i64 0)] [(0, 1, (.t 138)), (1, 1, (.c (.int .i64 8)))]⟩,
  .row ⟨(some 140), none, .mkI t_index_word (.t 139)⟩,
  .row ⟨(some 141), none, .buildSlice 3 1 [.nili, .nili, .nili] [(0, 1, (.t 132)), (1, 1, (.t 136)), (2, 1, (.t 140))]⟩,
  .row ⟨(some 142), none, .app 1 16 (.t 128) (.t 141)⟩,
  .row ⟨(some 10), none, .move (.t 142)⟩])))))
  (.ops [
  .row ⟨(some 143), none, .bin .add t_int true (.t 79) (.c (.int .i64 1))⟩,
  .row ⟨(some 79), none, .move (.t 143)⟩]))))))

noncomputable def c_items_3i : CC :=
 (.block 8
  (.loop
  (.seq
  (.ops [
  .row ⟨(some 96), none, .bin .lss t_int false (.t 95) (.t 94)⟩])
  (.seq
  (.cond (.t 96)
  .skip
  (.exit 8))
  (.seq
  (.block 9
  (.seq
  (.ops [
  .row ⟨(some 97), none, .idxV 2 (.t 93) (.t 95)⟩,
  .row ⟨(some 98), none, .loadN 2 (.t 97)⟩,
  .row ⟨(some 17), none, .new [(.str []), (.str [])]⟩,
  .row ⟨none, none, .store 2 (.t 17) (.t 98)⟩])
  (.seq
  (.ops [
  .row ⟨(some 99), none, .move (.t 9)⟩,
  .row ⟨(some 100), none, .fieldAddr 0 (.t 17)⟩,
  .row ⟨(some 101), none, .load1 (.t 100)⟩,
  .row ⟨(some 102), none, .lookup t_string (.int .i64 0) false (.t 99) (.t 101)⟩,
  .row ⟨(some 103), none, .move (.t 9)⟩,
  .row ⟨(some 104), none, .fieldAddr 1 (.t 17)⟩,
  .row ⟨(some 105), none, .load1 (.t 104)⟩,
  .row ⟨(some 106), none, .lookup t_string (.int .i64 0) false (.t 103) (.t 105)⟩,
  .row ⟨(some 107), none, .build [(.int .i64 0), (.int .i64 0)] [(0, 1, (.t 102)), (1, 1, (.t 106))]⟩,
  .row ⟨(some 18), none, .new [(.int .i64 0), (.int .i64 0)]⟩,
  .row ⟨none, none, .store 2 (.t 18) (.t 107)⟩])
  (.seq
  (.ops [
  .row ⟨(some 108), none, .move (.t 10)⟩,
  .row ⟨(some 109), none, .fieldAddr 0 (.t 18)⟩,
  .row ⟨(some 110), none, .load1 (.t 109)⟩,
  .row ⟨(some 111), none, .build [(.int .i64 0), (.int .i64 0)] [(0, 1, (.t 110)), (1, 1, (.c (.int .i64 4)))]⟩,
  .row ⟨(some 112), none, .mkI t_index_word (.t 111)⟩,
  .row ⟨(some 113), none, .fieldAddr 1 (.t 18)⟩,
  .row ⟨(some 114), none, .load1 (.t 113)⟩,
  .row ⟨(some 115), none, .build [(.int .i64 0), (.int .i64 0)] [(0, 1, (.t 114)), (1, 1, (.c (.int .i64 4)))]⟩,
  .row ⟨(some 116), none, .mkI t_index_word (.t 115)⟩,
  .row ⟨(some 117), none, .buildSlice 2 1 [.nili, .nili] [(0, 1, (.t 112)), (1, 1, (.t 116))]⟩,
  .row ⟨(some 118), none, .app 1 16 (.t 108) (.t 117)⟩,
  .row ⟨(some 10), none, .move (.t 118)⟩])
  (.ops [
  .row ⟨(some 119), none, .move (.t 13)⟩,
  .row ⟨(some 120), none, .loadN 2 (.t 18)⟩,
  .row ⟨(some 122), none, .move (.t 14)⟩,
  .row ⟨(some 123), none, .buildSlice 1 1 [(.int .i64 0)] [(0, 1, (.t 122))]⟩,
  .row ⟨(some 124), none, .mapEntry t_index_pair .nils (.t 119) (.t 120)⟩,
  .row ⟨(some 121), none, .extract (.t 124) 0⟩,
  .row ⟨(some 125), none, .app 1 8 (.t 121) (.t 123)⟩,
  .row ⟨(some 126), none, .extract (.t 124) 1⟩,
  .row ⟨none, none, .entryStore (.t 119) (.t 126) (.t 125)⟩])))))
  (.ops [
  .row ⟨(some 127), none, .bin .add t_int true (.t 95) (.c (.int .i64 1))⟩,
  .row ⟨(some 95), none, .move (.t 127)⟩]))))))

noncomputable def c_items_4 : CC :=
 (.block 10
  (.loop
  (.seq
  (.ops [
  .row ⟨(some 150), none, .bin .lss t_int false (.t 149) (.t 148)⟩])
  (.seq
  (.cond (.t 150)
  .skip
  (.exit 10))
  (.seq
  (.block 11
  (.seq
  (.ops [
  .row ⟨(some 151), none, .idxV 2 (.t 147) (.t 149)⟩,
  .row ⟨(some 152), none, .loadN 2 (.t 151)⟩,
  .row ⟨(some 21), none, .new [(.int .i64 0), (.int .i64 0)]⟩,
  .row ⟨none, none, .store 2 (.t 21) (.t 152)⟩])
  (.ops [
  .row ⟨(some 153), none, .move (.t 10)⟩,
  .row ⟨(some 154), none, .fieldAddr 0 (.t 21)⟩,
  .row ⟨(some 155), none, .load1 (.t 154)⟩,
  .row ⟨(some 156), none, .build [(.int .i64 0), (.int .i64 0)] [(0, 1, (.t 155)), (1, 1, (.c (.int .i64 4)))]⟩,
  .row ⟨(some 157), none, .mkI t_index_word (.t 156)⟩,
  .row ⟨(some 158), none, .fieldAddr 1 (.t 21)⟩,
  .row ⟨(some 159), none, .load1 (.t 158)⟩,
  .row ⟨(some 160), none, .build [(.int .i64 0), (.int .i64 0)] [(0, 1, (.t 159)), (1, 1, (.c (.int .i64 4)))]⟩,
  .row ⟨(some 161), none, .mkI t_index_word (.t 160)⟩,
  .row ⟨(some 162), none, .move (.t 13)⟩,
  .row ⟨(some 163), none, .loadN 2 (.t 21)⟩,
  .row ⟨(some 164), none, .lookup t_index_pair .nils false (.t 162) (.t 163)⟩,
  .row ⟨(some 165), none, .mkI t_index_places (.t 164)⟩,
  .row ⟨(some 166), none, .buildSlice 3 1 [.nili, .nili, .nili] [(0, 1, (.t 157)), (1, 1, (.t 161)), (2, 1, (.t 165))]⟩,
  .stage [⟨(some 164), none, .lookup t_index_pair .nils false (.t 162) (.t 163)⟩, ⟨(some 163), none, .loadN 2 (.t 21)⟩, ⟨(some 159), none, .load1 (.t 158)⟩, ⟨(some 155), none, .load1 (.t 154)⟩],
  .row ⟨(some 167), none, .app 1 16 (.t 153) (.t 166)⟩,
  .row ⟨(some 10), none, .move (.t 167)⟩])))
  (.ops [
  .row ⟨(some 168), none, .bin .add t_int true (.t 149) (.c (.int .i64 1))⟩,
  .row ⟨(some 149), none, .move (.t 168)⟩]))))))


/-! ### all texts -/

def addS (ks : List Txt) (s : Txt) : List Txt := if s ∈ ks then ks else ks ++ [s]
def addL (ks : List Txt) (l : List Lab) : List Txt := l.foldl (fun ks k => addS (addS ks k.1) k.2) ks
def addE (ks : List Txt) (l : List (List Lab)) : List Txt := l.foldl addL ks

theorem addS_mem (ks : List Txt) (s x : Txt) : x ∈ addS ks s ↔ x ∈ ks ∨ x = s := by
  unfold addS; split
  · constructor
    · exact .inl
    · rintro (h | rfl) <;> assumption
  · simp
theorem addS_nodup {ks : List Txt} (h : ks.Nodup) (s : Txt) : (addS ks s).Nodup := by
  unfold addS; split
  · exact h
  · rename_i hs
    refine List.nodup_append.2 ⟨h, by simp, fun a ha b hb => ?_⟩
    rw [List.mem_singleton.1 hb]
    intro e; subst e; exact hs ha
theorem addS_len (ks : List Txt) (s : Txt) : (addS ks s).length ≤ ks.length + 1 := by
  unfold addS; split <;> simp
theorem addL_mem : ∀ (l : List Lab) (ks : List Txt) (x : Txt), x ∈ addL ks l ↔ x ∈ ks ∨ ∃ k ∈ l, x = k.1 ∨ x = k.2
  | [], ks, x => by simp [addL]
  | k :: l, ks, x => by
    have := addL_mem l (addS (addS ks k.1) k.2) x
    simp only [addL, List.foldl_cons] at this ⊢
    rw [this, addS_mem, addS_mem]
    simp only [List.mem_cons, exists_eq_or_imp]
    constructor
    · rintro (((h | h) | h) | h)
      · exact .inl h
      · exact .inr (.inl (.inl h))
      · exact .inr (.inl (.inr h))
      · exact .inr (.inr h)
    · rintro (h | (h | h) | h)
      · exact .inl (.inl (.inl h))
      · exact .inl (.inl (.inr h))
      · exact .inl (.inr h)
      · exact .inr h
theorem addL_nodup : ∀ (l : List Lab) {ks : List Txt}, ks.Nodup → (addL ks l).Nodup
  | [], _, h => h
  | k :: l, ks, h => addL_nodup l (addS_nodup (addS_nodup h _) _)
theorem addL_len : ∀ (l : List Lab) (ks : List Txt), (addL ks l).length ≤ ks.length + 2 * l.length
  | [], ks => by simp [addL]
  | k :: l, ks => by
    have h1 := addL_len l (addS (addS ks k.1) k.2)
    have h2 := addS_len (addS ks k.1) k.2
    have h3 := addS_len ks k.1
    simp only [addL, List.foldl_cons, List.length_cons] at h1 ⊢
    omega
theorem addE_mem : ∀ (l : List (List Lab)) (ks : List Txt) (x : Txt), x ∈ addE ks l ↔ x ∈ ks ∨ ∃ y ∈ l, ∃ k ∈ y, x = k.1 ∨ x = k.2
  | [], ks, x => by simp [addE]
  | y :: l, ks, x => by
    have := addE_mem l (addL ks y) x
    simp only [addE, List.foldl_cons] at this ⊢
    rw [this, addL_mem]
    simp only [List.mem_cons, exists_eq_or_imp]
    constructor
    · rintro ((h | h) | h)
      · exact .inl h
      · exact .inr (.inl h)
      · exact .inr (.inr h)
    · rintro (h | h | h)
      · exact .inl (.inl h)
      · exact .inl (.inr h)
      · exact .inr h
theorem addE_nodup : ∀ (l : List (List Lab)) {ks : List Txt}, ks.Nodup → (addE ks l).Nodup
  | [], _, h => h
  | k :: l, ks, h => addE_nodup l (addL_nodup _ h)
theorem addE_len : ∀ (l : List (List Lab)) (ks : List Txt), (∀ y ∈ l, y.length ≤ 8) → (addE ks l).length ≤ ks.length + 16 * l.length
  | [], ks, _ => by simp [addE]
  | y :: l, ks, h => by
    have h1 := addE_len l (addL ks y) (fun z hz => h z (List.mem_cons_of_mem _ hz))
    have h2 := addL_len y ks
    have h3 := h y List.mem_cons_self
    simp only [addE, List.foldl_cons, List.length_cons] at h1 ⊢
    omega

/-- the map of all texts -/
def setKV (ks : List Txt) : List (Txt × AV) := ks.map fun s => (s, .bool true)
theorem setKV_keys (ks : List Txt) : (setKV ks).map (·.1) = ks := by simp [setKV, Function.comp_def]

theorem set_upd {g : AH} {m : Nat} {ks : List Txt} (hm : MapO AV.str g m (setKV ks)) (hn : ks.Nodup) (s : Txt) :
    ∃ g', opUpd P t_string g (.map m) (.str s) (.bool true) = .ok g' ∧ MapO AV.str g' m (setKV (addS ks s)) ∧ g'.next = g.next ∧ ∀ i, i ≠ m → g'.get i = g.get i := by
  by_cases hs : s ∈ ks
  · obtain ⟨n, hn1, hn2⟩ := List.mem_iff_getElem.1 hs
    have ha : (setKV ks)[n]? = some (s, .bool true) := by simp [setKV, hn1, hn2]
    have hset : (setKV ks).set n (s, .bool true) = setKV ks := by
      apply List.ext_getElem?
      intro i
      rw [List.getElem?_set]
      split
      · rename_i e; subst e
        split
        · exact ha.symm
        · rename_i h; simp [setKV] at h; omega
      · rfl
    refine ⟨_, hm.upd_old keyT ha (by rw [setKV_keys]; exact hn), ?_, rfl, fun i hi => get_set_old hi⟩
    rw [hset]
    have : addS ks s = ks := by simp [addS, hs]
    rw [this]
    exact get_set_new _ _
  · refine ⟨_, hm.upd_new keyT (by rw [setKV_keys]; exact hs), ?_, rfl, fun i hi => get_set_old hi⟩
    have : setKV (addS ks s) = setKV ks ++ [(s, .bool true)] := by simp [addS, hs, setKV]
    unfold MapO
    rw [this]
    exact get_set_new _ _

/-- texts of one entry's labels -/
theorem items_1i {Q : Post} {σ : Sg} {h0 g0 : AH} {m n : Nat} {lv : AV} {ls : List Lab} {ks : List Txt} (h3 : σ 3 = .map m) (h30 : σ 30 = lv) (h31 : σ 31 = .int .i64 (n : Int)) (h32 : σ 32 = .int .i64 0)
    (hs : Sl h0 2 n lv (ls.flatMap labC)) (hn : n ≤ 8) (hm0 : m = h0.next) (f0 : Fr h0 g0) (hlt : m < g0.next) (hm : MapO AV.str g0 m (setKV ks)) (hnd : ks.Nodup)
    (hQ : ∀ σ' g', (∀ t, t ≠ 7 → (t < 33 ∨ 42 < t) → t ≠ 32 → σ' t = σ t) → Fr h0 g' → m < g'.next → MapO AV.str g' m (setKV (addL ks ls)) → Q .normal σ' [] g') :
    wpC P SI c_items_1i Q σ [] g0 := by
  have hl := lab_len hs
  simp only [c_items_1i, wpC_block]
  refine w_count (n := n) (by rfl) (fun j σ' ds g => ds = [] ∧ (∀ t, t ≠ 7 → (t < 33 ∨ 42 < t) → t ≠ 32 → σ' t = σ t) ∧ Fr h0 g ∧ m < g.next ∧ MapO AV.str g m (setKV (addL ks (ls.take j)))) (by omega) h32 ⟨rfl, fun _ _ _ _ => rfl, f0, hlt, by simpa [addL] using hm⟩ ?_ ?_ ?_
  · rintro j σ' ds g ⟨rfl, hσ, _⟩
    simp [hσ 31 (by omega) (by omega) (by omega), h31]
  · rintro j σ' ds g hj hi ⟨rfl, hσ, fr, hlt', hmg⟩
    obtain ⟨⟨nm, vl⟩, hx⟩ := at_some (l := ls) (j := j) (by omega)
    obtain ⟨i1, o1, a1, a2, _⟩ := lab_at (hs.fr fr) (k := .i64) (i := (j : Int)) rfl hx
    have e3 := (hσ 3 (by omega) (by omega) (by omega)).trans h3
    have e30 := (hσ 30 (by omega) (by omega) (by omega)).trans h30
    have stn := opStore_new (h := g) (n := 2) (z := [.str [], .str []]) (l := [.str nm, .str vl]) rfl rfl rfl
    have fp := Fr.push fr (.cells [.str nm, .str vl] false)
    have ge : (g.push (.cells [.str nm, .str vl] false)).get g.next = some (.cells [.str nm, .str vl] false) := get_push_new _
    have hm1 : MapO AV.str (g.push (.cells [.str nm, .str vl] false)) m (setKV (addL ks (ls.take j))) := by
      show (g.push _).get m = _
      rw [get_push_old (by omega)]; exact hmg
    have nd1 := addL_nodup (ls.take j) hnd
    obtain ⟨g2, b1, b2, b3, b4⟩ := set_upd hm1 nd1 nm
    obtain ⟨g3, c1, c2, c3, c4⟩ := set_upd b2 (addS_nodup nd1 nm) vl
    have m0 : load1 (g.push (.cells [.str nm, .str vl] false)) g.next 0 = .ok (.str nm) := load1_of ge
    have m1 : load1 (g.push (.cells [.str nm, .str vl] false)) g.next 1 = .ok (.str vl) := load1_of ge
    have m2 : load1 g2 g.next 1 = .ok (.str vl) := load1_of (id := g.next) (vs := [.str nm, .str vl]) (ro := false) (by rw [b4 _ (by omega)]; exact ge)
    simp only [labC] at a2
    simp [hi, e3, e30, a1, a2, opLoadN, stn, m0, m1, m2, b1, c1]
    refine ⟨fun t h1 h2 h3 => ?_, ⟨?_, fun i hi' => ?_⟩, ?_, ?_⟩
    · repeat rw [if_neg (by omega)]
      exact hσ t h1 h2 h3
    · have := fp.next; omega
    · rw [c4 _ (by omega), b4 _ (by omega)]; exact fp.get i hi'
    · rw [c3, b3]; exact Nat.lt_succ_of_lt hlt'
    · have : addL ks (ls.take (j + 1)) = addS (addS (addL ks (ls.take j)) nm) vl := by
        rw [take_snoc _ _ _ hx]; simp [addL]
      rw [this]; exact c2
  · rintro σ' ds g ⟨rfl, hσ, fr, hlt', hmg⟩
    rw [List.take_of_length_le (by omega)] at hmg
    simp
    exact hQ _ g (fun t h1 h2 h3 => by simp only [upd_some]; rw [if_neg (by omega)]; exact hσ t h1 h2 h3) fr hlt' hmg

end Go.Dk

namespace Go.Dk
open Go Go.Dr
set_option maxRecDepth 100000

/-- all texts of all entries -/
theorem items_1 {Q : Post} {σ : Sg} {h g0 : AH} {m n : Nat} {v : AV} {xs : List (AV × Ep)} (h3 : σ 3 = .map m) (h23 : σ 23 = v) (h24 : σ 24 = .int .i64 (n : Int)) (h25 : σ 25 = .int .i64 0)
    (hs : Sl h 5 n v (xs.flatMap enC)) (hn : n ≤ 100000) (he : ∀ x ∈ xs, EnOk h x ∧ x.2.ls.length ≤ 8) (hm0 : m = h.next) (f0 : Fr h g0) (hlt : m < g0.next) (hm : MapO AV.str g0 m (setKV []))
    (hQ : ∀ σ' g', (∀ t, t ≠ 5 → t ≠ 7 → (t < 25 ∨ 43 < t) → σ' t = σ t) → Fr h g' → m < g'.next → MapO AV.str g' m (setKV (addE [] (xs.map (·.2.ls)))) → Q .normal σ' [] g') :
    wpC P SI c_items_1 Q σ [] g0 := by
  have hl : xs.length = n := by have := hs.1; rw [en_len] at this; omega
  simp only [c_items_1, wpC_block]
  refine w_count (n := n) (by rfl) (fun j σ' ds g => ds = [] ∧ (∀ t, t ≠ 5 → t ≠ 7 → (t < 25 ∨ 43 < t) → σ' t = σ t) ∧ Fr h g ∧ m < g.next ∧ MapO AV.str g m (setKV (addE [] ((xs.take j).map (·.2.ls))))) (by omega) h25 ⟨rfl, fun _ _ _ _ => rfl, f0, hlt, by simpa [addE] using hm⟩ ?_ ?_ ?_
  · rintro j σ' ds g ⟨rfl, hσ, _⟩
    simp [hσ 24 (by omega) (by omega) (by omega), h24]
  · rintro j σ' ds g hj hi ⟨rfl, hσ, fr, hlt', hmg⟩
    obtain ⟨x, hx⟩ := at_some (l := xs) (j := j) (by omega)
    obtain ⟨hok, hl8⟩ := he x (List.mem_of_getElem? hx)
    obtain ⟨id, o, a1, a2, _⟩ := en_at (hs.fr fr) hx
    have okg := hok.fr fr
    have hlc := Sl.oneCell okg
    have e3 := (hσ 3 (by omega) (by omega) (by omega)).trans h3
    have e23 := (hσ 23 (by omega) (by omega) (by omega)).trans h23
    have stn := opStore_new (h := g) (n := 5) (z := [.nils, .int .i64 0, .int .i64 0, .int .i64 0, .int .i64 0]) (l := enC x) rfl rfl (by simp [enC, allScalar, hlc.2])
    have fp := Fr.push (.refl g) (.cells (enC x) false)
    have ge : (g.push (.cells (enC x) false)).get g.next = some (.cells (enC x) false) := get_push_new _
    have gn : (g.push (.cells (enC x) false)).next = g.next + 1 := rfl
    have hm1 : MapO AV.str (g.push (.cells (enC x) false)) m (setKV (addE [] ((xs.take j).map (·.2.ls)))) := by
      show (g.push _).get m = _
      rw [get_push_old (by omega)]; exact hmg
    generalize hg1 : g.push (.cells (enC x) false) = g1 at *
    have m0 : load1 g1 g.next 0 = .ok x.1 := load1_of ge
    have lv : opLenV x.1 = .ok (.int .i64 (x.2.ls.length : Int)) := (okg.fr fp).len
    simp only [wpC_seq]
    simp [hi, e23, a1, opLoadN, a2, stn, m0, lv]
    refine items_1i (h0 := h) (m := m) (n := x.2.ls.length) (lv := x.1) (ls := x.2.ls) (ks := addE [] ((xs.take j).map (·.2.ls))) (by simp [e3]) (by simp) (by simp) (by simp) hok hl8 hm0 (fr.trans fp) (by omega) hm1 (addE_nodup _ (by simp)) ?_
    intro σ2 g2 hσ2 f2 hlt2 hm2
    have e25 : σ2 25 = .int .i64 (j : Int) := by rw [hσ2 25 (by omega) (by omega) (by omega)]; simp [hi]
    simp [e25]
    refine ⟨fun t h1 h2 h3 => ?_, f2, hlt2, ?_⟩
    · repeat rw [if_neg (by omega)]
      rw [hσ2 t (by omega) (by omega) (by omega)]
      simp only [upd_some]
      repeat rw [if_neg (by omega)]
      exact hσ t h1 h2 h3
    · have : addE [] ((xs.take (j + 1)).map (·.2.ls)) = addL (addE [] ((xs.take j).map (·.2.ls))) x.2.ls := by
        rw [take_snoc _ _ _ hx]; simp [addE]
      rw [← List.map_take, this]; exact hm2
  · rintro σ' ds g ⟨rfl, hσ, fr, hlt', hmg⟩
    rw [List.take_of_length_le (by omega)] at hmg
    simp
    exact hQ _ g (fun t h1 h2 h3 => by simp only [upd_some]; rw [if_neg (by omega)]; exact hσ t h1 h2 h3) fr hlt' hmg

/-! ### the texts, numbered; what is written of them -/

/-- an item, plain -/
inductive It where
  | t (s : Txt)
  | w (n : Int) (k : Nat)
  | p (l : List Nat)

/-- a list of numbers as cells -/
def nv (l : List Nat) : List AV := l.map fun n : Nat => .int .i64 (n : Int)
def OkI (h : AH) (v : AV) : It → Prop
  | .t s => v = .iface t_index_text (.str s)
  | .w n k => v = .iface t_index_word (.agg [.int .i64 n, .int .i64 (k : Int)])
  | .p l => ∃ u, v = .iface t_index_places u ∧ Sl h 1 l.length u (nv l)

theorem OkI.fr {h g : AH} (f : Fr h g) {v : AV} : ∀ {i : It}, OkI h v i → OkI g v i
  | .t _, e => e
  | .w _ _, e => e
  | .p _, ⟨u, e, s⟩ => ⟨u, e, s.fr f⟩

def wA (n k : Int) : AV := .iface t_index_word (.agg [.int .i64 n, .int .i64 k])
def tA (s : Txt) : AV := .iface t_index_text (.str s)

/-- texts and their places -/
def plKV (T : List Txt) : List (Txt × AV) := T.zipIdx.map fun x => (x.1, .int .i64 (x.2 : Int))
theorem plKV_keys (T : List Txt) : (plKV T).map (·.1) = T := by
  simp [plKV, Function.comp_def]
theorem plKV_get {T : List Txt} {i : Nat} {s : Txt} (h : T[i]? = some s) : (plKV T)[i]? = some (s, .int .i64 (i : Int)) := by
  simp [plKV, h]
theorem plKV_snoc (T : List Txt) (s : Txt) : plKV (T ++ [s]) = plKV T ++ [(s, .int .i64 (T.length : Int))] := by
  simp [plKV, List.zipIdx_append]

/-- the texts are numbered, and written -/
theorem items_2 {Q : Post} {σ : Sg} {h g0 : AH} {m n : Nat} {u ov : AV} {T : List Txt} {os : List AV} (h9 : σ 9 = .map m) (h53 : σ 53 = u) (h54 : σ 54 = .int .i64 (n : Int)) (h55 : σ 55 = .int .i64 0) (h10 : σ 10 = ov)
    (hs : Sl h 1 n u (tx T)) (hn : n ≤ 2 ^ 29) (hnd : T.Nodup) (hm0 : m = h.next) (f0 : Fr h g0) (hm : MapO AV.str g0 m (plKV [])) (ho : Own (h.next + 1) g0 1 os.length ov os) (hol : os.length ≤ 2 ^ 29) (hlt : m < g0.next)
    (hQ : ∀ σ' g' ov', σ' 10 = ov' → (∀ t, t ≠ 10 → t ≠ 11 → t ≠ 12 → (t < 55 ∨ 68 < t) → σ' t = σ t) → Fr h g' → m < g'.next → MapO AV.str g' m (plKV T) → Own (h.next + 1) g' 1 (os.length + T.length) ov' (os ++ T.map tA) → Q .normal σ' [] g') :
    wpC P SI c_items_2 Q σ [] g0 := by
  have hl : T.length = n := by have := hs.1; simp [tx] at this; omega
  simp only [c_items_2, wpC_block]
  refine w_count (n := n) (by rfl) (fun j σ' ds g => ds = [] ∧ (∀ t, t ≠ 10 → t ≠ 11 → t ≠ 12 → (t < 55 ∨ 68 < t) → σ' t = σ t) ∧ Fr h g ∧ m < g.next ∧ MapO AV.str g m (plKV (T.take j)) ∧ Own (h.next + 1) g 1 (os.length + j) (σ' 10) (os ++ (T.take j).map tA)) (by omega) h55
    ⟨rfl, fun _ _ _ _ _ => rfl, f0, hlt, by simpa using hm, by simpa [h10] using ho⟩ ?_ ?_ ?_
  · rintro j σ' ds g ⟨rfl, hσ, _⟩
    simp [hσ 54 (by omega) (by omega) (by omega) (by omega), h54]
  · rintro j σ' ds g hj hi ⟨rfl, hσ, fr, hlt', hmg, hog⟩
    obtain ⟨s, hx⟩ := at_some (l := T) (j := j) (by omega)
    obtain ⟨id, o, a1, a2, _⟩ := (hs.fr fr).get1 (k := .i64) (i := (j : Int)) rfl hj (x := .str s) (by simp [tx, hx])
    have e9 := (hσ 9 (by omega) (by omega) (by omega) (by omega)).trans h9
    have e53 := (hσ 53 (by omega) (by omega) (by omega) (by omega)).trans h53
    have hns : s ∉ (plKV (T.take j)).map (·.1) := by
      rw [plKV_keys]
      intro hin
      obtain ⟨i, hi1, hi2⟩ := List.mem_iff_getElem.1 hin
      rw [List.getElem_take] at hi2
      have hij : i < j := by rw [List.length_take] at hi1; omega
      have := (List.getElem?_inj (show i < T.length by omega) hnd).1 (show T[i]? = T[j]? by rw [hx, List.getElem?_eq_getElem (by omega), hi2])
      omega
    have up := hmg.upd_new keyT (v := .int .i64 (j : Int)) hns
    have hlk : plKV (T.take (j + 1)) = plKV (T.take j) ++ [(s, .int .i64 (j : Int))] := by
      rw [take_snoc _ _ _ hx, plKV_snoc, List.length_take, Nat.min_eq_left (by omega)]
    rw [← hlk] at up
    obtain ⟨ov, hov⟩ : ∃ ov, σ' 10 = ov := ⟨_, rfl⟩
    rw [hov] at hog
    generalize hg1 : g.set m (.map (mk0 0 (kvA AV.str (plKV (T.take (j + 1))))) (plKV (T.take (j + 1))).length) = g1 at up
    have hm1 : MapO AV.str g1 m (plKV (T.take (j + 1))) := by rw [← hg1]; exact get_set_new _ _
    have n1 : g1.next = g.next := by rw [← hg1]; rfl
    have ho1 : Own (h.next + 1) g1 1 (os.length + j) ov (os ++ (T.take j).map tA) := by rw [← hg1]; exact hog.set2 _ (hog.ne (by omega))
    obtain ⟨ov', g2, b1, b2, b3, b4, b5⟩ := ho1.snoc2 (bytes := 16) (x := [tA s]) (by omega) rfl rfl (by omega) (by omega)
    have f2 : Fr h g2 := ⟨by have := fr.next; have := b3.next; omega, fun i hi => by rw [b3.get i (by omega), ← hg1, get_set_old (by omega)]; exact fr.get i hi⟩
    simp only [tA] at b1
    simp [hi, e9, e53, hov, a1, a2, up, splice_eq, b1]
    refine ⟨fun t h1 h2 h3 h4 => ?_, f2, ?_, ?_, ?_⟩
    · repeat rw [if_neg (by omega)]
      exact hσ t h1 h2 h3 h4
    · have := b3.next; omega
    · show g2.get m = _
      rw [b3.get m (by omega)]; exact hm1
    · rw [← List.map_take, take_snoc _ _ _ hx, List.map_append, ← List.append_assoc]
      exact b2
  · rintro σ' ds g ⟨rfl, hσ, fr, hlt', hmg, hog⟩
    rw [List.take_of_length_le (by omega)] at hmg hog
    rw [← hl] at hog
    simp
    exact hQ _ g (σ' 10) (by simp) (fun t h1 h2 h3 h4 => by simp only [upd_some]; rw [if_neg (by omega)]; exact hσ t h1 h2 h3 h4) fr hlt' hmg hog

end Go.Dk

namespace Go.Dk
open Go Go.Dr
set_option maxRecDepth 100000

theorem ref13_Can {h : AH} {n : Nat} {v : AV} {xs : List (AV × Ep)} (s : Sl h 5 n v (xs.flatMap enC)) (hn : n ≤ 2 ^ 40) (he : ∀ x ∈ xs, EnOk h x ∧ Short x.2.ls ∧ x.2.ls.length < 2 ^ 62) :
    Ev P SI (.fn f_ref13_Can) [v] h fun r g => r = .bool (canE (xs.map (·.2))) ∧ Fr h g := by
  refine ev_fn k_ref13_Can rfl rfl ?_
  have hl : xs.length = n := by have := s.1; rw [en_len] at this; omega
  simp [c_ref13_Can, s.len]
  refine w_count (n := n) (by rfl) (fun j σ ds g => ds = [] ∧ σ 0 = v ∧ σ 7 = v ∧ σ 8 = .int .i64 (n : Int) ∧ Fr h g ∧ ∃ pos, σ 3 = .int .i64 pos ∧ CanJ xs j pos) (by omega) (by simp)
    ⟨rfl, by simp, by simp, by simp, .refl _, 0, by simp, rfl⟩ (fun j σ ds g hJ => by simp [hJ.2.2.2.1]) ?_ ?_
  · rintro j σ ds g hj hi ⟨rfl, e0, e7, e8, fr, pos, e3, hJ⟩
    obtain ⟨x, hx⟩ := at_some (l := xs) (j := j) (by omega)
    obtain ⟨hok, hsh, hll⟩ := he x (List.mem_of_getElem? hx)
    obtain ⟨id, o, a1, a2, _⟩ := en_at (s.fr fr) hx
    have okg := hok.fr fr
    have hlc := Sl.oneCell okg
    have stn := opStore_new (h := g) (n := 5) (z := [.nils, .int .i64 0, .int .i64 0, .int .i64 0, .int .i64 0]) (l := enC x) rfl rfl (by simp [enC, allScalar, hlc.2])
    have fp := Fr.push (.refl g) (.cells (enC x) false)
    have ge : (g.push (.cells (enC x) false)).get g.next = some (.cells (enC x) false) := get_push_new _
    have gn : (g.push (.cells (enC x) false)).next = g.next + 1 := rfl
    generalize hg1 : g.push (.cells (enC x) false) = g1 at *
    have ok1' := okg.fr fp
    have m0 : load1 g1 g.next 0 = .ok x.1 := load1_of ge
    have hstep := hJ.step hx
    simp [e7, hi, a1, opLoadN, a2, stn, m0]
    refine (ref07_Can ok1' hsh).mono ?_
    rintro r g2 ⟨rfl, f2⟩
    have ge2 := f2.get g.next (by omega)
    rw [ge] at ge2
    have F2 := (fr.trans fp).trans f2
    have m0 : load1 g2 g.next 0 = .ok x.1 := load1_of ge2
    have m1 : load1 g2 g.next 1 = .ok (.int .i64 x.2.pl) := load1_of ge2
    have m2 : load1 g2 g.next 2 = .ok (.int .i64 x.2.sz) := load1_of ge2
    have m3 : load1 g2 g.next 3 = .ok (.int .i64 x.2.mn) := load1_of ge2
    have m4 : load1 g2 g.next 4 = .ok (.int .i64 x.2.mx) := load1_of ge2
    have no : ok1 pos x.2 = false → canE (xs.map (·.2)) = false := fun h => canE_no (by rw [hstep, h]; rfl)
    cases c1 : canL x.2.ls with
    | false =>
      have := no (by simp [ok1, c1])
      simp [this]
      exact F2
    | true =>
    by_cases c2 : x.2.mn ≤ x.2.mx
    case neg =>
      have := no (by simp [ok1, c2])
      have c2' : x.2.mx < x.2.mn := by omega
      simp [m3, m4, c2', this]
      exact F2
    have c2' : ¬ x.2.mx < x.2.mn := by omega
    by_cases c3 : 1 ≤ x.2.sz
    case neg =>
      have := no (by simp [ok1, c3])
      have c3' : x.2.sz < 1 := by omega
      simp [m2, m3, m4, c2', c3', this]
      exact F2
    have c3' : ¬ x.2.sz < 1 := by omega
    by_cases c4 : x.2.sz ≤ 2147483647
    case neg =>
      have := no (by simp [ok1, c4])
      have c4' : 2147483647 < x.2.sz := by omega
      simp [m2, m3, m4, c2', c3', c4', this]
      exact F2
    have c4' : ¬ 2147483647 < x.2.sz := by omega
    by_cases c5 : x.2.pl = pos
    case neg =>
      have := no (by simp [ok1, c5])
      simp [m1, m2, m3, m4, e3, c2', c3', c4', c5, this]
      exact F2
    have hok1 : ok1 pos x.2 = true := by simp [ok1, c1, c2, c3, c4, c5]
    by_cases hj0 : j = 0
    · subst hj0
      have hnx := hJ.next hx hok1 (by simp [prevOf, okNext])
      simp [m1, m2, m3, m4, e3, c2', c3', c4', c5, e0, e7, e8, hi]
      exact ⟨F2, hnx⟩
    obtain ⟨i, rfl⟩ : ∃ i, j = i + 1 := ⟨j - 1, by omega⟩
    obtain ⟨y, hy⟩ := at_some (l := xs) (j := i) (by omega)
    obtain ⟨hoky, _, hlly⟩ := he y (List.mem_of_getElem? hy)
    have hpv : prevOf xs (i + 1) = some y.2 := by simp [prevOf, hy]
    rw [hpv] at hstep
    obtain ⟨idy, oy, b1, b2, _⟩ := en_at (s.fr F2) hy
    have okgy := hoky.fr F2
    obtain ⟨_, _, b1', _, b3, _, b5, _⟩ := en_at (s.fr F2) hy
    rw [b1] at b1'
    cases b1'
    have hlcy := Sl.oneCell okgy
    have hsy := Sl.same okgy
    have hsx := Sl.same okg
    have hpos : (0 : Int) < ((i + 1 : Nat) : Int) := by omega
    have w1 : wrapF .i64 (((i + 1 : Nat) : Int) - 1) = (i : Int) := by rw [wrap_i64 (by omega) (by omega)]; omega
    have w1' : wrapF .i64 (i : Int) = (i : Int) := wrap_i64 (by omega) (by omega)
    have cmp := ref07_Compare okgy ((okg.fr fp).fr f2) hlly hll
    have hne : ¬ ((i : Int) + 1 = 0) := by omega
    have F4 := F2
    have no2 : okNext (some y.2) x.2 = false → canE (xs.map (·.2)) = false := fun h => canE_no (by rw [hstep, h]; simp)
    generalize hcm : cmpL y.2.ls x.2.ls = cm at *
    have hjc : ((i + 1 : Nat) : Int) ≠ 0 := by omega
    by_cases d1 : 0 < cm
    · have := no2 (by simp [okNext, hcm, d1])
      simp [m0, m1, m2, m3, m4, e3, c2', c3', c4', c5, e0, e7, e8, hi, hne, w1, w1', b1, b3, b5, cmp, hsy, hsx, d1, this]
      exact F4
    · by_cases d2 : cm = 0
      · by_cases d3 : x.2.mn ≤ y.2.mx
        · have := no2 (by simp [okNext, hcm, d2, d3])
          simp [m0, m1, m2, m3, m4, e3, c2', c3', c4', c5, e0, e7, e8, hi, hne, w1, w1', b1, b3, b5, cmp, hsy, hsx, d2, d3, this]
          exact F4
        · have hnx := hJ.next hx hok1 (by rw [hpv]; simp [okNext, hcm, d2, d3])
          simp [m0, m1, m2, m3, m4, e3, c2', c3', c4', c5, e0, e7, e8, hi, hne, w1, w1', b1, b3, b5, cmp, hsy, hsx, d2, d3]
          exact ⟨F4, hnx⟩
      · have hnx := hJ.next hx hok1 (by rw [hpv]; simp [okNext, hcm, d1, d2])
        simp [m0, m1, m2, m3, m4, e3, c2', c3', c4', c5, e0, e7, e8, hi, hne, w1, w1', b1, b3, b5, cmp, hsy, hsx, d1, d2]
        exact ⟨F4, hnx⟩
  · rintro σ ds g ⟨rfl, e0, e7, e8, fr, pos, e3, hJ⟩
    have : canFE 0 none (xs.map (·.2)) = true := by rw [hJ, List.drop_of_length_le (by omega)]; rfl
    have hc : canE (xs.map (·.2)) = decide ((n : Int) ≤ 100000) := by
      simp only [canE, this, Bool.true_and, List.length_map, hl]
      congr 1
      simp only [eq_iff_iff]
      omega
    simp [e0, s.len, hc]
    exact fr

end Go.Dk

namespace Go.Dk
open Go Go.Dr
set_option maxRecDepth 100000

/-- entries that are laid one behind another -/
def AccI (B : Nat) (g : AH) (acc : AV) (xs : List (AV × Ep)) : Prop :=
  Own B g 5 xs.length acc (xs.flatMap enC) ∧ ∀ x ∈ xs, EnOk g x ∧ (∀ i, idOf x.1 = some i → B ≤ i ∧ idOf acc ≠ some i) ∧ Short x.2.ls ∧ x.2.ls.length < 2 ^ 62

theorem AccI.nil (B : Nat) (g : AH) : AccI B g .nils [] := ⟨Own.nil _ _, fun x hx => by simp at hx⟩

theorem AccI.fr {B : Nat} {g g' : AH} {acc : AV} {xs : List (AV × Ep)} (a : AccI B g acc xs) (f : Fr g g') : AccI B g' acc xs :=
  ⟨a.1.fr f, fun x hx => ⟨(a.2 x hx).1.fr f, (a.2 x hx).2⟩⟩

theorem AccI.frX {B id : Nat} {g g' : AH} {acc : AV} {xs : List (AV × Ep)} (a : AccI B g acc xs) (f : FrX id g g') (hid : id < B) : AccI B g' acc xs :=
  ⟨Own.frX a.1 f hid, fun x hx => ⟨Sl.frX (a.2 x hx).1 f (fun e => by have := ((a.2 x hx).2.1 _ e).1; omega), (a.2 x hx).2⟩⟩

theorem AccI.set {B j : Nat} {g : AH} {acc : AV} {xs : List (AV × Ep)} (a : AccI B g acc xs) (o : AObj) (h1 : idOf acc ≠ some j) (h2 : ∀ x ∈ xs, idOf x.1 ≠ some j) : AccI B (g.set j o) acc xs :=
  ⟨a.1.set _ h1, fun x hx => ⟨Sl.setX (a.2 x hx).1 _ (h2 x hx), (a.2 x hx).2⟩⟩

theorem AccI.snoc {B : Nat} {g : AH} {acc : AV} {xs : List (AV × Ep)} (a : AccI B g acc xs) (hB : B ≤ g.next) {x : AV × Ep} (hx : EnOk g x) (hf : ∀ i, idOf x.1 = some i → B ≤ i ∧ idOf acc ≠ some i) (hs : Short x.2.ls) (hl : x.2.ls.length < 2 ^ 62) (hn : xs.length ≤ 2 ^ 30) :
    ∃ v' g', opApp 5 56 acc (.slice g.next 0 1 1 true 5) (g.push (.cells (enC x) false)) = okV v' g' ∧ AccI B g' v' (xs ++ [x]) ∧ FrB B g g' ∧ (∀ i, i < g.next → idOf acc ≠ some i → g'.get i = g.get i) ∧ (∀ i, idOf v' = some i → idOf acc = some i ∨ g.next < i) := by
  have hc := Sl.oneCell hx
  obtain ⟨v', g', e, o, f, p1, p2⟩ := a.1.snoc2 (x := enC x) (bytes := 56) hB rfl (by simp [enC, allScalar, hc.2]) (by omega) (by omega)
  have keep : ∀ y : AV × Ep, EnOk g y → (∀ i, idOf y.1 = some i → B ≤ i ∧ idOf acc ≠ some i) → EnOk g' y ∧ (∀ i, idOf y.1 = some i → B ≤ i ∧ idOf v' ≠ some i) := by
    intro y hy hyf
    refine ⟨⟨hy.1, ?_⟩, fun i hi => ⟨(hyf i hi).1, fun e => ?_⟩⟩
    · rcases hy.2 with e | ⟨i, off, cap, z, vs, ro, e1, e2, e3, e4, e5, e6⟩
      · exact .inl e
      · exact .inr ⟨i, off, cap, z, vs, ro, e1, Nat.lt_of_lt_of_le e2 f.next, e3, by rw [p1 i e2 (hyf i (by rw [e1]; rfl)).2]; exact e4, e5, e6⟩
    · rcases p2 i e with e | e
      · exact (hyf i hi).2 e
      · have := Sl.idLt hy hi; omega
  refine ⟨v', g', e, ⟨?_, fun y hy => ?_⟩, f, p1, p2⟩
  · rw [List.length_append, List.flatMap_append]
    simpa using o
  · rcases List.mem_append.1 hy with h | h
    · obtain ⟨h1, h2⟩ := keep y (a.2 y h).1 (a.2 y h).2.1
      exact ⟨h1, h2, (a.2 y h).2.2⟩
    · simp at h
      subst h
      obtain ⟨h1, h2⟩ := keep y hx hf
      exact ⟨h1, h2, hs, hl⟩

theorem CurO.set {h : AH} {id j : Nat} {v : AV} {n : Nat} {b : List Nat} {at' : Nat} {bad : Bool} (u : CurO h id v n b at' bad) (o : AObj) (hj : id < j) : CurO (h.set j o) id v n b at' bad :=
  ⟨by rw [get_set_old (by omega), u.cells], u.lt, Sl.setX u.sl _ (fun e => by have := u.lo _ e; omega), u.lo⟩

theorem CurO.frB {h g : AH} {B id : Nat} {v : AV} {n : Nat} {b : List Nat} {at' : Nat} {bad : Bool} (u : CurO h id v n b at' bad) (f : FrB B h g) (hid : id < B) : CurO g id v n b at' bad := by
  refine ⟨by rw [f.get _ hid, u.cells], Nat.lt_of_lt_of_le u.lt f.next, ⟨u.sl.1, ?_⟩, u.lo⟩
  rcases u.sl.2 with e | ⟨i, off, cap, x, vs, ro, e1, e2, e3, e4, e5, e6⟩
  · exact .inl e
  · exact .inr ⟨i, off, cap, x, vs, ro, e1, Nat.lt_of_lt_of_le e2 f.next, e3, by rw [f.get i (by have := u.lo i (by rw [e1]; rfl); omega)]; exact e4, e5, e6⟩

end Go.Dk

namespace Go.Dk
open Go Go.Dr
set_option maxRecDepth 100000

end Go.Dk

namespace Go.Dk
open Go Go.Dr
set_option maxRecDepth 100000

theorem Own.keep {B es n : Nat} {g g' : AH} {a v : AV} {l : List AV} (s : Own B g es n v l) (hn : g.next ≤ g'.next) (p : ∀ i, i < g.next → idOf a ≠ some i → g'.get i = g.get i) (h : ∀ i, idOf v = some i → idOf a ≠ some i) : Own B g' es n v l := by
  refine ⟨s.1, ?_⟩
  rcases s.2 with e | ⟨i, off, x, vs, e1, e2, e3, e4, e5⟩
  · exact .inl e
  · exact .inr ⟨i, off, x, vs, e1, e2, Nat.lt_of_lt_of_le e3 hn, by rw [p i e3 (h i (by rw [e1]; rfl))]; exact e4, e5⟩

theorem Sl.keep {es n : Nat} {g g' : AH} {a v : AV} {l : List AV} (s : Sl g es n v l) (hn : g.next ≤ g'.next) (p : ∀ i, i < g.next → idOf a ≠ some i → g'.get i = g.get i) (h : ∀ i, idOf v = some i → idOf a ≠ some i) : Sl g' es n v l := by
  refine ⟨s.1, ?_⟩
  rcases s.2 with e | ⟨i, off, cap, x, vs, ro, e1, e2, e3, e4, e5, e6⟩
  · exact .inl e
  · exact .inr ⟨i, off, cap, x, vs, ro, e1, Nat.lt_of_lt_of_le e2 hn, e3, by rw [p i e2 (h i (by rw [e1]; rfl))]; exact e4, e5, e6⟩

end Go.Dk

namespace Go.Dk
open Go Go.Dr
set_option maxRecDepth 100000

/-! ### the lists of places: what stands in the heap -/

structure I3 (B : Nat) (g : AH) (m3 : Nat) (ov : AV) (os : List AV) (kvs : List ((Nat × Nat) × AV)) (mm : List ((Nat × Nat) × List Nat)) : Prop where
  own : Own B g 1 os.length ov os
  ne : idOf ov ≠ some m3
  lm : MapO kP g m3 kvs
  lo : B ≤ m3
  lt : m3 < g.next
  keys : kvs.map (·.1) = mm.map (·.1)
  nd : (mm.map (·.1)).Nodup
  vals : ∀ (i : Nat) (p : Nat × Nat) (v : AV) (l : List Nat), kvs[i]? = some (p, v) → mm[i]? = some (p, l) → Own B g 1 l.length v (nv l) ∧ idOf v ≠ some m3 ∧ ∀ id, idOf v = some id → idOf ov ≠ some id
  dis : ∀ (i j : Nat) (p q : Nat × Nat) (v w : AV) (id : Nat), i ≠ j → kvs[i]? = some (p, v) → kvs[j]? = some (q, w) → idOf v = some id → idOf w ≠ some id

theorem I3.push {B m3 : Nat} {g : AH} {ov : AV} {os : List AV} {kvs : List ((Nat × Nat) × AV)} {mm : List ((Nat × Nat) × List Nat)} (h : I3 B g m3 ov os kvs mm) (o : AObj) : I3 B (g.push o) m3 ov os kvs mm := by
  have f := Fr.push (.refl g) o
  refine ⟨h.own.fr f, h.ne, ?_, h.lo, Nat.lt_succ_of_lt h.lt, h.keys, h.nd, fun i p v l h1 h2 => ?_, h.dis⟩
  · show (g.push o).get m3 = _
    rw [f.get _ h.lt]; exact h.lm
  · obtain ⟨a, b, c⟩ := h.vals i p v l h1 h2
    exact ⟨a.fr f, b, c⟩

/-- a block that is none of those that are turned -/
def Pr (m3 z : Nat) (g : AH) (ov : AV) (kvs : List ((Nat × Nat) × AV)) : Prop := z < g.next ∧ z ≠ m3 ∧ idOf ov ≠ some z ∧ ∀ (i : Nat) (p : Nat × Nat) (v : AV), kvs[i]? = some (p, v) → idOf v ≠ some z

theorem own_id_lt {B n es : Nat} {g : AH} {v : AV} {l : List AV} (o : Own B g es n v l) {id : Nat} (h : idOf v = some id) : B ≤ id ∧ id < g.next := by
  rcases o.2 with ⟨rfl, _⟩ | ⟨i, off, x, vs, rfl, e2, e3, _⟩
  · cases h
  · cases h; exact ⟨e2, e3⟩

/-- more is written behind -/
theorem I3.app {B m3 : Nat} {g : AH} {ov : AV} {os ws : List AV} {kvs : List ((Nat × Nat) × AV)} {mm : List ((Nat × Nat) × List Nat)} (h : I3 B g m3 ov os kvs mm) {k : Nat} (hk : ws.length = k) (hs : allScalar ws = true) (hb : os.length + k ≤ 2 ^ 30) :
    ∃ v' g', opApp 1 16 ov (.slice g.next 0 k k true 1) (g.push (.cells ws false)) = okV v' g' ∧ I3 B g' m3 v' (os ++ ws) kvs mm ∧ FrB B g g' ∧ ∀ z, Pr m3 z g ov kvs → Pr m3 z g' v' kvs ∧ g'.get z = g.get z := by
  have hp := h.push (.cells ws false)
  have sx := (Own.fresh (B := 0) (h := g) (es := 1) (n := k) (l := ws) true (Nat.zero_le _) (by omega)).sl
  obtain ⟨v', g', e, o, f, p, q⟩ := hp.own.append (bytes := 16) sx (by have := h.lo; have := h.lt; show B ≤ g.next + 1; omega) hs (by omega) (by omega)
  have hlt := hp.lt
  have hn := f.next
  refine ⟨v', g', e, ⟨?_, fun hid => ?_, ?_, h.lo, by omega, h.keys, h.nd, fun i p' v l h1 h2 => ?_, h.dis⟩, ((Fr.push (.refl g) _).b (by have := h.lo; have := h.lt; omega)).trans f, fun z hz => ?_⟩
  · rw [List.length_append, hk]; exact o
  · rcases q m3 hid with h1 | h1
    · exact h.ne h1
    · omega
  · show g'.get m3 = _
    rw [p m3 hlt h.ne]; exact hp.lm
  · obtain ⟨a, b, c⟩ := hp.vals i p' v l h1 h2
    refine ⟨Own.keep a hn p (fun id hid => c id hid), b, fun id hid hv' => ?_⟩
    rcases q id hv' with h3 | h3
    · exact c id hid h3
    · have := (own_id_lt a hid).2; omega
  · obtain ⟨z1, z2, z3, z4⟩ := hz
    have hgn : (g.push (.cells ws false)).next = g.next + 1 := rfl
    refine ⟨⟨by omega, z2, fun hid => ?_, z4⟩, ?_⟩
    · rcases q z hid with h1 | h1
      · exact z3 h1
      · omega
    · rw [p z (by omega) z3, get_push_old (by omega)]

theorem addP_new : ∀ (m : List ((Nat × Nat) × List Nat)) (e : (Nat × Nat) × Nat), e.1 ∉ m.map (·.1) → addP m e = m ++ [(e.1, [e.2])]
  | [], _, _ => rfl
  | x :: m, e, h => by
    simp only [List.map_cons, List.mem_cons, not_or] at h
    have : ¬ x.1 = e.1 := fun h' => h.1 h'.symm
    simp only [addP, this, if_false, addP_new m e h.2, List.cons_append]
theorem addP_old : ∀ (m : List ((Nat × Nat) × List Nat)) (p : Nat × Nat) (i n : Nat) (l : List Nat), m[n]? = some (p, l) → (m.map (·.1)).Nodup → addP m (p, i) = m.set n (p, l ++ [i])
  | [], _, _, _, _, h, _ => by simp at h
  | x :: m, p, i, 0, l, h, _ => by simp at h; subst h; simp [addP]
  | x :: m, p, i, n + 1, l, h, hn => by
    simp only [List.getElem?_cons_succ] at h
    simp only [List.map_cons, List.nodup_cons] at hn
    have hne : ¬ x.1 = p := fun e => hn.1 (by rw [e]; exact List.mem_map.2 ⟨(p, l), List.mem_of_getElem? h, rfl⟩)
    simp only [addP, hne, if_false, List.set_cons_succ, addP_old m p i n l h hn.2]

/-- a place is put into the list of a pair -/
theorem I3.add {B m3 : Nat} {g : AH} {ov : AV} {os : List AV} {kvs : List ((Nat × Nat) × AV)} {mm : List ((Nat × Nat) × List Nat)} (h : I3 B g m3 ov os kvs mm) (p : Nat × Nat) (i : Nat) (hlen : ∀ (n : Nat) (p : Nat × Nat) (l : List Nat), mm[n]? = some (p, l) → l.length ≤ 2 ^ 30) :
    ∃ v st g1 v' g2 g3 kvs', opMapEntry P t_index_pair .nils (g.push (.cells [.int .i64 (i : Int)] false)) (.map m3) (kP p) = okV (.tuple [v, st]) g1 ∧
      opApp 1 8 v (.slice g.next 0 1 1 true 1) g1 = okV v' g2 ∧ opEntryStore g2 (.map m3) st v' = .ok g3 ∧ I3 B g3 m3 ov os kvs' (addP mm (p, i)) ∧ FrB B g g3 ∧ ∀ z, Pr m3 z g ov kvs → Pr m3 z g3 ov kvs' ∧ g3.get z = g.get z := by
  have hp := h.push (.cells [.int .i64 (i : Int)] false)
  have sx := (Own.fresh (B := 0) (h := g) (es := 1) (n := 1) (l := [.int .i64 (i : Int)]) true (Nat.zero_le _) (by simp)).sl
  generalize hgp : g.push (.cells [.int .i64 (i : Int)] false) = gp at *
  have hgn : gp.next = g.next + 1 := by rw [← hgp]; rfl
  have fp : FrB B g gp := by rw [← hgp]; exact (Fr.push (.refl g) _).b (by have := h.lo; have := h.lt; omega)
  have hkl : kvs.length = mm.length := by have := congrArg List.length h.keys; simpa using this
  have hndk : (kvs.map (·.1)).Nodup := by rw [h.keys]; exact h.nd
  have hBlo := h.lo
  have hBlt := h.lt
  by_cases hin : p ∈ kvs.map (·.1)
  · -- the pair is there
    obtain ⟨n, hn1, hn2⟩ := List.mem_iff_getElem.1 hin
    simp only [List.length_map] at hn1
    obtain ⟨v, hv⟩ : ∃ v, kvs[n]? = some (p, v) := by
      simp only [List.getElem_map] at hn2
      exact ⟨kvs[n].2, by rw [List.getElem?_eq_getElem hn1, ← hn2]⟩
    obtain ⟨l, hl⟩ : ∃ l, mm[n]? = some (p, l) := by
      have e1 : (mm.map (·.1))[n]? = some p := by rw [← h.keys]; simp [hv]
      rw [List.getElem?_map] at e1
      obtain ⟨y, hy, rfl⟩ := Option.map_eq_some_iff.1 e1
      exact ⟨y.2, hy⟩
    have ent := hp.lm.entry_old keyP (z := .nils) hv hndk
    generalize hg1 : gp.set m3 (.map (mk0 0 (kvA kP kvs)) kvs.length) = g1 at ent
    have n1 : g1.next = gp.next := by rw [← hg1]; rfl
    have o1 : ∀ j, g1.get j = gp.get j := by
      intro j
      by_cases hj : j = m3
      · subst hj; rw [← hg1, get_set_new]; exact hp.lm.symm
      · rw [← hg1, get_set_old hj]
    have f1 : Fr gp g1 := ⟨by omega, fun j _ => o1 j⟩
    obtain ⟨ov1, ob1, oc1⟩ := hp.vals n p v l hv hl
    obtain ⟨v', g2, e2, o2, f2, p2, q2⟩ := (ov1.fr f1).append (bytes := 8) (sx.fr f1) (by omega) rfl (by have := hlen n p l hl; omega) (by have := hlen n p l hl; omega)
    have hm3 : g2.get m3 = g1.get m3 := p2 m3 (by omega) ob1
    have lm2 : MapO kP g2 m3 kvs := by show g2.get m3 = _; rw [hm3, o1]; exact hp.lm
    have st := lm2.store (n := n) (v := v') hv
    have n2 := f2.next
    have hnv : idOf v' ≠ some m3 := fun hid => by
      rcases q2 m3 hid with h1 | h1
      · exact ob1 h1
      · omega
    have hno : ∀ id, idOf v' = some id → idOf ov ≠ some id := fun id hid hov => by
      rcases q2 id hid with h1 | h1
      · exact oc1 id h1 hov
      · have := (own_id_lt hp.own hov).2; omega
    refine ⟨v, .int .i64 (n : Int), g1, v', g2, _, kvs.set n (p, v'), ent, e2, st, ⟨?_, h.ne, get_set_new _ _, h.lo, ?_, ?_, ?_, fun j q w l' h1 h2 => ?_, fun j k q r w x id hjk h1 h2 hid => ?_⟩, ?_, fun z hz => ?_⟩
    · refine Own.set2 ?_ _ h.ne
      exact Own.keep (hp.own.fr f1) n2 p2 (fun id hid hv => oc1 id hv hid)
    · show m3 < g2.next; omega
    · rw [addP_old mm p i n l hl h.nd, List.map_set, List.map_set, h.keys]
    · exact addP_nodup _ _ h.nd
    · rw [addP_old mm p i n l hl h.nd] at h2
      rw [List.getElem?_set] at h1 h2
      by_cases hjn : n = j
      · subst hjn
        rw [if_pos rfl, if_pos (by omega)] at h1 h2
        cases h1; cases h2
        refine ⟨?_, hnv, hno⟩
        have := Own.set2 (j := m3) o2 (.map (mk0 0 (kvA kP (kvs.set n (p, v')))) (kvs.set n (p, v')).length) hnv
        rw [List.length_append, List.length_singleton]
        have e3 : nv (l ++ [i]) = nv l ++ [.int .i64 (i : Int)] := by simp [nv]
        rw [e3]; exact this
      · rw [if_neg hjn] at h1 h2
        obtain ⟨a, b, c⟩ := hp.vals j q w l' h1 h2
        refine ⟨Own.set2 ?_ _ b, b, c⟩
        exact Own.keep (a.fr f1) n2 p2 (fun id hid hv' => h.dis j n q p w v id (fun e => hjn e.symm) h1 hv hid hv')
    · rw [List.getElem?_set] at h1 h2
      by_cases hj : n = j
      · subst hj
        rw [if_pos rfl, if_pos (by omega)] at h1
        rw [if_neg hjk] at h2
        cases h1
        intro hx
        rcases q2 id hid with h3 | h3
        · exact h.dis n k p r v x id hjk hv h2 h3 hx
        · obtain ⟨l2, hl2⟩ : ∃ l2, mm[k]? = some (r, l2) := by
            have e1 : (mm.map (·.1))[k]? = some r := by rw [← h.keys]; simp [h2]
            rw [List.getElem?_map] at e1
            obtain ⟨y, hy, rfl⟩ := Option.map_eq_some_iff.1 e1
            exact ⟨y.2, hy⟩
          have := (own_id_lt (hp.vals k r x l2 h2 hl2).1 hx).2
          omega
      · rw [if_neg hj] at h1
        by_cases hk : n = k
        · subst hk
          rw [if_pos rfl, if_pos (by omega)] at h2
          cases h2
          intro hx
          rcases q2 id hx with h3 | h3
          · exact h.dis j n q p w v id hjk h1 hv hid h3
          · obtain ⟨l2, hl2⟩ : ∃ l2, mm[j]? = some (q, l2) := by
              have e1 : (mm.map (·.1))[j]? = some q := by rw [← h.keys]; simp [h1]
              rw [List.getElem?_map] at e1
              obtain ⟨y, hy, rfl⟩ := Option.map_eq_some_iff.1 e1
              exact ⟨y.2, hy⟩
            have := (own_id_lt (hp.vals j q w l2 h1 hl2).1 hid).2
            omega
        · rw [if_neg hk] at h2
          exact h.dis j k q r w x id hjk h1 h2 hid
    · refine fp.trans ⟨by show gp.next ≤ g2.next; omega, fun j hj => ?_⟩
      rw [get_set_old (by omega), f2.get j (by omega), o1]
    · obtain ⟨z1, z2, z3, z4⟩ := hz
      refine ⟨⟨by show z < g2.next; omega, z2, z3, fun j q w h1 => ?_⟩, ?_⟩
      · rw [List.getElem?_set] at h1
        by_cases hjn : n = j
        · subst hjn
          rw [if_pos rfl, if_pos (by omega)] at h1
          cases h1
          intro hid
          rcases q2 z hid with h3 | h3
          · exact z4 n p v hv h3
          · omega
        · rw [if_neg hjn] at h1; exact z4 j q w h1
      · rw [get_set_old z2, p2 z (by omega) (z4 n p v hv), o1, ← hgp, get_push_old (by omega)]
  · -- a new pair
    have hin' : p ∉ mm.map (·.1) := by rw [← h.keys]; exact hin
    have ent := hp.lm.entry_new keyP (z := .nils) hin
    generalize hg1 : gp.set m3 (.map (mk0 0 (kvA kP (kvs ++ [(p, AV.nils)]))) (kvs ++ [(p, AV.nils)]).length) = g1 at ent
    have n1 : g1.next = gp.next := by rw [← hg1]; rfl
    have o1 : ∀ j, j ≠ m3 → g1.get j = gp.get j := fun j hj => by rw [← hg1, get_set_old hj]
    have lm1 : MapO kP g1 m3 (kvs ++ [(p, .nils)]) := by rw [← hg1]; exact get_set_new _ _
    have sx1 : Sl g1 1 1 (.slice g.next 0 1 1 true 1) [.int .i64 (i : Int)] := by
      refine ⟨rfl, .inr ⟨g.next, 0, 1, true, [.int .i64 (i : Int)], false, rfl, by omega, by omega, ?_, by simp, rfl⟩⟩
      rw [o1 _ (by omega), ← hgp]; exact get_push_new _
    obtain ⟨v', g2, e2, o2, f2, p2, q2⟩ := (Own.nil (h := g1) B 1).append (bytes := 8) sx1 (by omega) rfl (by omega) (by omega)
    have n2 := f2.next
    have lm2 : MapO kP g2 m3 (kvs ++ [(p, .nils)]) := by show g2.get m3 = _; rw [p2 m3 (by omega) (by intro h; cases h)]; exact lm1
    have hget : (kvs ++ [(p, AV.nils)])[kvs.length]? = some (p, .nils) := by simp
    have st := lm2.store (n := kvs.length) (v := v') hget
    have hset : (kvs ++ [(p, AV.nils)]).set kvs.length (p, v') = kvs ++ [(p, v')] := by simp
    rw [hset] at st
    have hq : ∀ id, idOf v' = some id → g1.next ≤ id := fun id hid => by
      rcases q2 id hid with h3 | h3
      · cases h3
      · exact h3
    have hnv : idOf v' ≠ some m3 := fun hid => by have := hq _ hid; omega
    have keep : ∀ {n : Nat} {w : AV} {l : List AV}, Own B gp 1 n w l → idOf w ≠ some m3 → Own B g2 1 n w l := by
      intro n w l o hw
      have a1 : Own B g1 1 n w l := by rw [← hg1]; exact o.set2 _ hw
      exact Own.keep (a := .nils) a1 n2 p2 (fun id _ h => by cases h)
    have hmk : ∀ (j : Nat) (q : Nat × Nat) (w : AV), kvs[j]? = some (q, w) → ∃ l2, mm[j]? = some (q, l2) := by
      intro j q w h2
      have e1 : (mm.map (·.1))[j]? = some q := by rw [← h.keys]; simp [h2]
      rw [List.getElem?_map] at e1
      obtain ⟨y, hy, rfl⟩ := Option.map_eq_some_iff.1 e1
      exact ⟨y.2, hy⟩
    refine ⟨.nils, .int .i64 (kvs.length : Int), g1, v', g2, _, kvs ++ [(p, v')], ent, e2, st, ⟨?_, h.ne, get_set_new _ _, h.lo, ?_, ?_, ?_, fun j q w l' h1 h2 => ?_, fun j k q r w x id hjk h1 h2 hid => ?_⟩, ?_, fun z hz => ?_⟩
    · exact Own.set2 (keep hp.own h.ne) _ h.ne
    · show m3 < g2.next; omega
    · rw [addP_new mm (p, i) hin']; simp [h.keys]
    · exact addP_nodup _ _ h.nd
    · rw [addP_new mm (p, i) hin'] at h2
      by_cases hj : j < kvs.length
      · rw [List.getElem?_append_left hj] at h1
        rw [List.getElem?_append_left (by omega)] at h2
        obtain ⟨a, b, c⟩ := hp.vals j q w l' h1 h2
        exact ⟨Own.set2 (keep a b) _ b, b, c⟩
      · have hj2 : j = kvs.length := by
          have := (List.getElem?_eq_some_iff.1 h1).1
          simp at this; omega
        subst hj2
        simp at h1
        rw [hkl] at h2
        simp at h2
        obtain ⟨rfl, rfl⟩ := h1
        obtain ⟨_, rfl⟩ := h2
        refine ⟨?_, hnv, fun id hid hov => ?_⟩
        · have := Own.set2 (j := m3) o2 (AObj.map (mk0 0 (kvA kP (kvs ++ [(p, v')]))) (kvs ++ [(p, v')]).length) hnv
          exact this
        · have := hq id hid
          have := (own_id_lt hp.own hov).2; omega
    · have hlast : ∀ (j : Nat) (y : (Nat × Nat) × AV), (kvs ++ [(p, v')])[j]? = some y → j < kvs.length ∧ kvs[j]? = some y ∨ j = kvs.length ∧ y = (p, v') := by
        intro j y hy
        by_cases hj : j < kvs.length
        · rw [List.getElem?_append_left hj] at hy; exact .inl ⟨hj, hy⟩
        · have := (List.getElem?_eq_some_iff.1 hy).1
          simp at this
          have : j = kvs.length := by omega
          subst this
          simp at hy
          exact .inr ⟨rfl, hy.symm⟩
      intro hx
      rcases hlast j _ h1 with ⟨_, h5⟩ | ⟨hj5, h5⟩
      · rcases hlast k _ h2 with ⟨_, h6⟩ | ⟨hk6, h6⟩
        · exact h.dis j k q r w x id hjk h5 h6 hid hx
        · cases h6
          obtain ⟨l2, hl2⟩ := hmk j q w h5
          have := (own_id_lt (hp.vals j q w l2 h5 hl2).1 hid).2
          have := hq id hx
          omega
      · cases h5
        rcases hlast k _ h2 with ⟨_, h6⟩ | ⟨hk6, h6⟩
        · obtain ⟨l2, hl2⟩ := hmk k r x h6
          have := (own_id_lt (hp.vals k r x l2 h6 hl2).1 hx).2
          have := hq id hid
          omega
        · exact hjk (hj5.trans hk6.symm)
    · refine fp.trans ⟨by show gp.next ≤ g2.next; omega, fun j hj => ?_⟩
      rw [get_set_old (by omega), f2.get j (by omega), o1 _ (by omega)]
    · obtain ⟨z1, z2, z3, z4⟩ := hz
      refine ⟨⟨by show z < g2.next; omega, z2, z3, fun j q w h1 => ?_⟩, ?_⟩
      · by_cases hj : j < kvs.length
        · rw [List.getElem?_append_left hj] at h1; exact z4 j q w h1
        · have hj2 : j = kvs.length := by
            have := (List.getElem?_eq_some_iff.1 h1).1
            simp at this; omega
          subst hj2
          simp at h1
          obtain ⟨_, rfl⟩ := h1
          intro hid
          have := hq z hid
          omega
      · rw [get_set_old z2, p2 z (by omega) (by intro h; cases h), o1 _ z2, ← hgp, get_push_old (by omega)]

end Go.Dk

namespace Go.Dk
open Go Go.Dr
set_option maxRecDepth 100000

/-- the words of labels -/
def wordsL (T : List Txt) (l : List Lab) : List AV := l.flatMap fun k => [wA (pl T k.1 : Int) 4, wA (pl T k.2 : Int) 4]
theorem wordsL_len (T : List Txt) (l : List Lab) : (wordsL T l).length = 2 * l.length := by
  unfold wordsL
  induction l with
  | nil => rfl
  | cons x l ih => rw [List.flatMap_cons, List.length_append, ih]; simp; omega
/-- the events of an entry's labels -/
def evL (T : List Txt) (e : Nat) (l : List Lab) : List ((Nat × Nat) × Nat) := l.map fun k => ((pl T k.1, pl T k.2), e)

def Shorter (c : Nat) (mm : List ((Nat × Nat) × List Nat)) : Prop := ∀ (n : Nat) (p : Nat × Nat) (l : List Nat), mm[n]? = some (p, l) → l.length ≤ c
theorem Shorter.add {c : Nat} {mm : List ((Nat × Nat) × List Nat)} (h : Shorter c mm) (e : (Nat × Nat) × Nat) : Shorter (c + 1) (addP mm e) := by
  have key : ∀ x ∈ addP mm e, x.2.length ≤ c + 1 := by
    have h0 : ∀ x ∈ mm, x.2.length ≤ c := fun x hx => by
      obtain ⟨n, hn1, hn2⟩ := List.mem_iff_getElem.1 hx
      exact h n x.1 x.2 (by rw [List.getElem?_eq_getElem hn1, hn2])
    clear h
    induction mm with
    | nil => intro x hx; simp [addP] at hx; subst hx; simp
    | cons y mm ih =>
      intro x hx
      unfold addP at hx
      split at hx
      · rcases List.mem_cons.1 hx with rfl | hx
        · have := h0 y List.mem_cons_self
          simp; omega
        · have := h0 x (List.mem_cons_of_mem _ hx); omega
      · rcases List.mem_cons.1 hx with rfl | hx
        · have := h0 x List.mem_cons_self; omega
        · exact ih (fun z hz => h0 z (List.mem_cons_of_mem _ hz)) x hx
  intro n p l hl
  exact key (p, l) (List.mem_of_getElem? hl)

/-- an entry's labels: words, and places -/
theorem items_3i {Q : Post} {σ : Sg} {h g0 : AH} {m2 m3 n e c : Nat} {lv ov : AV} {ls : List Lab} {T : List Txt} {os : List AV} {kvs : List ((Nat × Nat) × AV)} {mm : List ((Nat × Nat) × List Nat)}
    (h9 : σ 9 = .map m2) (h13 : σ 13 = .map m3) (h10 : σ 10 = ov) (h14 : σ 14 = .int .i64 (e : Int)) (h93 : σ 93 = lv) (h94 : σ 94 = .int .i64 (n : Int)) (h95 : σ 95 = .int .i64 0)
    (hs : Sl h 2 n lv (ls.flatMap labC)) (hn : n ≤ 8) (f0 : Fr h g0) (hb : h.next ≤ m2) (hpm : MapO AV.str g0 m2 (plKV T)) (hT : T.Nodup) (hmem : ∀ k ∈ ls, k.1 ∈ T ∧ k.2 ∈ T)
    (hI : I3 (m2 + 1) g0 m3 ov os kvs mm) (hsh : Shorter c mm) (hc : c ≤ 2 ^ 29) (hol : os.length ≤ 2 ^ 29)
    (hQ : ∀ σ' g' ov' kvs', σ' 10 = ov' → (∀ t, t ≠ 10 → t ≠ 17 → t ≠ 18 → (t < 95 ∨ 127 < t) → σ' t = σ t) → FrB (m2 + 1) g0 g' → I3 (m2 + 1) g' m3 ov' (os ++ wordsL T ls) kvs' ((evL T e ls).foldl addP mm) → Shorter (c + n) ((evL T e ls).foldl addP mm) →
      (∀ z, Pr m3 z g0 ov kvs → Pr m3 z g' ov' kvs' ∧ g'.get z = g0.get z) → Q .normal σ' [] g') :
    wpC P SI c_items_3i Q σ [] g0 := by
  have hl := lab_len hs
  simp only [c_items_3i, wpC_block]
  refine w_count (n := n) (by rfl) (fun j σ' ds g => ds = [] ∧ (∀ t, t ≠ 10 → t ≠ 17 → t ≠ 18 → (t < 95 ∨ 127 < t) → σ' t = σ t) ∧ FrB (m2 + 1) g0 g ∧ Shorter (c + j) ((evL T e (ls.take j)).foldl addP mm) ∧ ∃ kvs', I3 (m2 + 1) g m3 (σ' 10) (os ++ wordsL T (ls.take j)) kvs' ((evL T e (ls.take j)).foldl addP mm) ∧
      ∀ z, Pr m3 z g0 ov kvs → Pr m3 z g (σ' 10) kvs' ∧ g.get z = g0.get z) (by omega) h95
    ⟨rfl, fun _ _ _ _ _ => rfl, .refl _ _, by simpa [evL] using hsh, kvs, by simpa [evL, wordsL, h10] using hI, fun z hz => ⟨by rw [h10]; exact hz, rfl⟩⟩ ?_ ?_ ?_
  · rintro j σ' ds g ⟨rfl, hσ, _⟩
    simp [hσ 94 (by omega) (by omega) (by omega) (by omega), h94]
  · rintro j σ' ds g hj hi ⟨rfl, hσ, fb, hshj, kv1, hIj, hpr⟩
    obtain ⟨⟨nm, vl⟩, hx⟩ := at_some (l := ls) (j := j) (by omega)
    have fr : Fr h g := ⟨by have := f0.next; have := fb.next; omega, fun i hi' => by rw [fb.get i (by omega)]; exact f0.get i hi'⟩
    obtain ⟨i1, o1, a1, a2, _⟩ := lab_at (hs.fr fr) (k := .i64) (i := (j : Int)) rfl hx
    obtain ⟨hT1, hT2⟩ := hmem _ (List.mem_of_getElem? hx)
    have e9 := (hσ 9 (by omega) (by omega) (by omega) (by omega)).trans h9
    have e13 := (hσ 13 (by omega) (by omega) (by omega) (by omega)).trans h13
    have e14 := (hσ 14 (by omega) (by omega) (by omega) (by omega)).trans h14
    have e93 := (hσ 93 (by omega) (by omega) (by omega) (by omega)).trans h93
    obtain ⟨ov1, hov⟩ : ∃ ov1, σ' 10 = ov1 := ⟨_, rfl⟩
    rw [hov] at hIj hpr
    have hlo := hIj.lo
    have hlt := hIj.lt
    have hpmg : MapO AV.str g m2 (plKV T) := by show g.get m2 = _; rw [fb.get m2 (by omega)]; exact hpm
    have stn := opStore_new (h := g) (n := 2) (z := [.str [], .str []]) (l := [.str nm, .str vl]) rfl rfl rfl
    have I1 := hIj.push (.cells [.str nm, .str vl] false)
    have ge : (g.push (.cells [.str nm, .str vl] false)).get g.next = some (.cells [.str nm, .str vl] false) := get_push_new _
    have gn : (g.push (.cells [.str nm, .str vl] false)).next = g.next + 1 := rfl
    have hp1 : MapO AV.str (g.push (.cells [.str nm, .str vl] false)) m2 (plKV T) := by show (g.push _).get m2 = _; rw [get_push_old (by omega)]; exact hpmg
    have go1 : ∀ z, z < g.next → (g.push (.cells [.str nm, .str vl] false)).get z = g.get z := fun z hz => get_push_old (by omega)
    generalize hg1 : g.push (.cells [.str nm, .str vl] false) = g1 at *
    have m0 : load1 g1 g.next 0 = .ok (.str nm) := load1_of ge
    have m1 : load1 g1 g.next 1 = .ok (.str vl) := load1_of ge
    have k1 := hp1.lookup_some keyT (z := .int .i64 0) (plKV_get (pl_get hT1)) (by rw [plKV_keys]; exact hT)
    have k2 := hp1.lookup_some keyT (z := .int .i64 0) (plKV_get (pl_get hT2)) (by rw [plKV_keys]; exact hT)
    obtain ⟨a, ha⟩ : ∃ a, pl T nm = a := ⟨_, rfl⟩
    obtain ⟨b, hb'⟩ : ∃ b, pl T vl = b := ⟨_, rfl⟩
    rw [ha] at k1
    rw [hb'] at k2
    have stn2 := opStore_new (h := g1) (n := 2) (z := [.int .i64 0, .int .i64 0]) (l := [.int .i64 (a : Int), .int .i64 (b : Int)]) rfl rfl rfl
    have I2 := I1.push (.cells [.int .i64 (a : Int), .int .i64 (b : Int)] false)
    have ge2 : (g1.push (.cells [.int .i64 (a : Int), .int .i64 (b : Int)] false)).get g1.next = some (.cells [.int .i64 (a : Int), .int .i64 (b : Int)] false) := get_push_new _
    have gn2 : (g1.push (.cells [.int .i64 (a : Int), .int .i64 (b : Int)] false)).next = g1.next + 1 := rfl
    have go2 : ∀ z, z < g1.next → (g1.push (.cells [.int .i64 (a : Int), .int .i64 (b : Int)] false)).get z = g1.get z := fun z hz => get_push_old (by omega)
    generalize hg2 : g1.push (.cells [.int .i64 (a : Int), .int .i64 (b : Int)] false) = g2 at *
    have p0 : load1 g2 g1.next 0 = .ok (.int .i64 (a : Int)) := load1_of ge2
    have p1 : load1 g2 g1.next 1 = .ok (.int .i64 (b : Int)) := load1_of ge2
    have hwl := wordsL_len T (ls.take j)
    rw [List.length_take, Nat.min_eq_left (by omega)] at hwl
    obtain ⟨ov2, g3, b1, I3', b3, b4⟩ := I2.app (k := 2) (ws := [wA (a : Int) 4, wA (b : Int) 4]) rfl rfl (by rw [List.length_append, hwl]; omega)
    have prz : Pr m3 g1.next g2 ov1 kv1 := ⟨by omega, by omega, fun hid => by have := (own_id_lt hIj.own hid).2; omega, fun i p v hv hid => by
      obtain ⟨l2, hl2⟩ : ∃ l2, ((evL T e (ls.take j)).foldl addP mm)[i]? = some (p, l2) := by
        have e1 : (((evL T e (ls.take j)).foldl addP mm).map (·.1))[i]? = some p := by rw [← hIj.keys]; simp [hv]
        rw [List.getElem?_map] at e1
        obtain ⟨y, hy, rfl⟩ := Option.map_eq_some_iff.1 e1
        exact ⟨y.2, hy⟩
      have := (own_id_lt (hIj.vals i p v l2 hv hl2).1 hid).2
      omega⟩
    have gz := (b4 _ prz).2
    have p2 : loadN g3 g1.next 0 2 = .ok [.int .i64 (a : Int), .int .i64 (b : Int)] := loadN_of (by rw [gz]; exact ge2) rfl
    obtain ⟨v, st, g4, v', g5, g6, kv2, c1, c2, c3, c4, c5, c6⟩ := I3'.add (a, b) e (fun n p l h => Nat.le_trans (hshj n p l h) (by omega))
    have hz3 : .agg [.int .i64 (a : Int), .int .i64 (b : Int)] = kP (a, b) := rfl
    simp only [labC] at a2
    simp only [wA] at b1
    simp [hi, e9, e13, e14, e93, hov, a1, a2, opLoadN, stn, m0, m1, k1, k2, splice_eq, stn2, p0, p1, b1, p2]
    have c1' := c1
    unfold kP at c1'
    simp [hi, c1', c2, c3]
    have hsnoc : evL T e (ls.take (j + 1)) = evL T e (ls.take j) ++ [((a, b), e)] := by
      rw [take_snoc _ _ _ hx]; simp [evL, ha, hb']
    have hwsn : wordsL T (ls.take (j + 1)) = wordsL T (ls.take j) ++ [wA (a : Int) 4, wA (b : Int) 4] := by
      rw [take_snoc _ _ _ hx]; simp [wordsL, ha, hb']
    refine ⟨fun t h1 h2 h3 h4 => ?_, ?_, ?_, kv2, ?_, fun z hz => ?_⟩
    · repeat rw [if_neg (by omega)]
      exact hσ t h1 h2 h3 h4
    · refine fb.trans (FrB.trans ⟨by omega, fun i hi' => ?_⟩ (b3.trans c5))
      rw [go2 i (by omega), go1 i (by omega)]
    · rw [hsnoc, List.foldl_append]
      exact hshj.add _
    · rw [hsnoc, hwsn, List.foldl_append, ← List.append_assoc]
      exact c4
    · obtain ⟨q1, q2⟩ := hpr z hz
      have zl := q1.1
      have q3 : Pr m3 z g2 ov1 kv1 := ⟨by omega, q1.2.1, q1.2.2.1, q1.2.2.2⟩
      obtain ⟨r1, r2⟩ := b4 z q3
      obtain ⟨s1, s2⟩ := c6 z r1
      exact ⟨s1, by rw [s2, r2, go2 z (by omega), go1 z zl, q2]⟩
  · rintro σ' ds g ⟨rfl, hσ, fb, hshj, kv1, hIj, hpr⟩
    rw [List.take_of_length_le (by omega)] at hIj hshj
    simp
    exact hQ _ g (σ' 10) kv1 (by simp) (fun t h1 h2 h3 h4 => by simp only [upd_some]; rw [if_neg (by omega)]; exact hσ t h1 h2 h3 h4) fb hIj hshj hpr

/-- the words of an entry -/
def wordsE (T : List Txt) (x : Ep) : List AV := wA (x.ls.length : Int) 1 :: wordsL T x.ls ++ [wA x.sz 4, wA x.mn 8, wA x.mx 8]
theorem wordsE_len (T : List Txt) (x : Ep) (h : x.ls.length ≤ 8) : (wordsE T x).length ≤ 20 := by
  simp only [wordsE, List.cons_append, List.length_cons, List.length_append, wordsL_len, List.length_nil]; omega
theorem wordsE_len_all (T : List Txt) : ∀ l : List Ep, (∀ x ∈ l, x.ls.length ≤ 8) → (l.flatMap (wordsE T)).length ≤ 20 * l.length
  | [], _ => by simp
  | x :: l, h => by
    rw [List.flatMap_cons, List.length_append, List.length_cons]
    have h1 := wordsE_len T x (h x List.mem_cons_self)
    have h2 := wordsE_len_all T l (fun y hy => h y (List.mem_cons_of_mem _ hy))
    omega
/-- the events of entries -/
def evE (T : List Txt) : Nat → List Ep → List ((Nat × Nat) × Nat)
  | _, [] => []
  | i, x :: l => evL T i x.ls ++ evE T (i + 1) l
theorem evE_snoc (T : List Txt) : ∀ (l : List Ep) (i : Nat) (x : Ep), evE T i (l ++ [x]) = evE T i l ++ evL T (i + l.length) x.ls
  | [], i, x => by simp [evE]
  | y :: l, i, x => by
    simp only [List.cons_append, evE, evE_snoc T l (i + 1) x, List.length_cons, List.append_assoc]
    rw [show i + 1 + l.length = i + (l.length + 1) by omega]

/-- all entries: words, and places -/
theorem items_3 {Q : Post} {σ : Sg} {h g0 : AH} {m2 m3 n : Nat} {v ov : AV} {xs : List (AV × Ep)} {T : List Txt} {os : List AV}
    (h9 : σ 9 = .map m2) (h13 : σ 13 = .map m3) (h10 : σ 10 = ov) (h77 : σ 77 = v) (h78 : σ 78 = .int .i64 (n : Int)) (h79 : σ 79 = .int .i64 0)
    (hs : Sl h 5 n v (xs.flatMap enC)) (hn : n ≤ 100000) (he : ∀ x ∈ xs, EnOk h x ∧ x.2.ls.length ≤ 8) (f0 : Fr h g0) (hb : h.next ≤ m2) (hpm : MapO AV.str g0 m2 (plKV T)) (hT : T.Nodup)
    (hmem : ∀ x ∈ xs, ∀ k ∈ x.2.ls, k.1 ∈ T ∧ k.2 ∈ T) (hI : I3 (m2 + 1) g0 m3 ov os [] []) (hol : os.length ≤ 2 ^ 28)
    (hQ : ∀ σ' g' ov' kvs', σ' 10 = ov' → (∀ t, t ≠ 10 → t ≠ 14 → t ≠ 15 → t ≠ 17 → t ≠ 18 → (t < 79 ∨ 143 < t) → σ' t = σ t) → FrB (m2 + 1) g0 g' → I3 (m2 + 1) g' m3 ov' (os ++ (xs.map (·.2)).flatMap (wordsE T)) kvs' (gath (evE T 0 (xs.map (·.2)))) → Q .normal σ' [] g') :
    wpC P SI c_items_3 Q σ [] g0 := by
  have hl : xs.length = n := by have := hs.1; rw [en_len] at this; omega
  simp only [c_items_3, wpC_block]
  refine w_count (n := n) (by rfl) (fun j σ' ds g => ds = [] ∧ (∀ t, t ≠ 10 → t ≠ 14 → t ≠ 15 → t ≠ 17 → t ≠ 18 → (t < 79 ∨ 143 < t) → σ' t = σ t) ∧ FrB (m2 + 1) g0 g ∧ Shorter (8 * j) (gath (evE T 0 ((xs.take j).map (·.2)))) ∧ ∃ kvs', I3 (m2 + 1) g m3 (σ' 10) (os ++ ((xs.take j).map (·.2)).flatMap (wordsE T)) kvs' (gath (evE T 0 ((xs.take j).map (·.2))))) (by omega) h79
    ⟨rfl, fun _ _ _ _ _ _ _ => rfl, .refl _ _, fun n p l hl => by simp [evE, gath] at hl, [], by simpa [evE, gath, h10] using hI⟩ ?_ ?_ ?_
  · rintro j σ' ds g ⟨rfl, hσ, _⟩
    simp [hσ 78 (by omega) (by omega) (by omega) (by omega) (by omega) (by omega), h78]
  · rintro j σ' ds g hj hi ⟨rfl, hσ, fb, hshj, kv1, hIj⟩
    obtain ⟨x, hx⟩ := at_some (l := xs) (j := j) (by omega)
    have hxm := List.mem_of_getElem? hx
    obtain ⟨hok, hl8⟩ := he x hxm
    have fr : Fr h g := ⟨by have := f0.next; have := fb.next; omega, fun i hi' => by rw [fb.get i (by omega)]; exact f0.get i hi'⟩
    obtain ⟨id, o, a1, a2, _⟩ := en_at (hs.fr fr) hx
    have okg := hok.fr fr
    have hlc := Sl.oneCell okg
    have e9 := (hσ 9 (by omega) (by omega) (by omega) (by omega) (by omega) (by omega)).trans h9
    have e13 := (hσ 13 (by omega) (by omega) (by omega) (by omega) (by omega) (by omega)).trans h13
    have e77 := (hσ 77 (by omega) (by omega) (by omega) (by omega) (by omega) (by omega)).trans h77
    obtain ⟨ov1, hov⟩ : ∃ ov1, σ' 10 = ov1 := ⟨_, rfl⟩
    rw [hov] at hIj
    have hlo := hIj.lo
    have hlt := hIj.lt
    have stn := opStore_new (h := g) (n := 5) (z := [.nils, .int .i64 0, .int .i64 0, .int .i64 0, .int .i64 0]) (l := enC x) rfl rfl (by simp [enC, allScalar, hlc.2])
    have I1 := hIj.push (.cells (enC x) false)
    have f1 : Fr h (g.push (.cells (enC x) false)) := fr.push _
    have ge : (g.push (.cells (enC x) false)).get g.next = some (.cells (enC x) false) := get_push_new _
    have gn : (g.push (.cells (enC x) false)).next = g.next + 1 := rfl
    have go1 : ∀ z, z < g.next → (g.push (.cells (enC x) false)).get z = g.get z := fun z hz => get_push_old (by omega)
    generalize hg1 : g.push (.cells (enC x) false) = g1 at *
    have m0 : load1 g1 g.next 0 = .ok x.1 := load1_of ge
    have lv1 : opLenV x.1 = .ok (.int .i64 (x.2.ls.length : Int)) := (hok.fr f1).len
    have hwl : (((xs.take j).map (·.2)).flatMap (wordsE T)).length ≤ 20 * j := by
      have := wordsE_len_all T ((xs.take j).map (·.2)) (fun y hy => by
        obtain ⟨z, hz, rfl⟩ := List.mem_map.1 hy
        exact (he z (List.mem_of_mem_take hz)).2)
      rwa [List.length_map, List.length_take, Nat.min_eq_left (by omega)] at this
    have prz : Pr m3 g.next g1 ov1 kv1 := ⟨by omega, by omega, fun hid => by have := (own_id_lt hIj.own hid).2; omega, fun i p v hv hid => by
      obtain ⟨l2, hl2⟩ : ∃ l2, (gath (evE T 0 ((xs.take j).map (·.2))))[i]? = some (p, l2) := by
        have e1 : ((gath (evE T 0 ((xs.take j).map (·.2)))).map (·.1))[i]? = some p := by rw [← hIj.keys]; simp [hv]
        rw [List.getElem?_map] at e1
        obtain ⟨y, hy, rfl⟩ := Option.map_eq_some_iff.1 e1
        exact ⟨y.2, hy⟩
      have := (own_id_lt (hIj.vals i p v l2 hv hl2).1 hid).2
      omega⟩
    obtain ⟨ov2, g2, b1, I2, b3, b4⟩ := I1.app (k := 1) (ws := [wA (x.2.ls.length : Int) 1]) rfl rfl (by rw [List.length_append]; omega)
    obtain ⟨prz2, gz2⟩ := b4 _ prz
    have m0' : load1 g2 g.next 0 = .ok x.1 := load1_of (id := g.next) (vs := enC x) (ro := false) (by rw [gz2]; exact ge)
    have fb2 : FrB (m2 + 1) g0 g2 := fb.trans (FrB.trans ⟨by omega, fun i hi' => go1 i (by omega)⟩ b3)
    have f2 : Fr h g2 := ⟨by have := f0.next; have := fb2.next; omega, fun i hi' => by rw [fb2.get i (by omega)]; exact f0.get i hi'⟩
    have lv2 : opLenV x.1 = .ok (.int .i64 (x.2.ls.length : Int)) := lv1
    simp only [wA] at b1
    simp only [wpC_seq]
    simp [hi, e77, hov, a1, opLoadN, a2, stn, m0, lv1, splice_eq, b1, m0']
    refine items_3i (h := h) (m2 := m2) (m3 := m3) (n := x.2.ls.length) (e := j) (c := 8 * j) (lv := x.1) (ov := ov2) (ls := x.2.ls) (T := T) (os := (os ++ ((xs.take j).map (·.2)).flatMap (wordsE T)) ++ [wA (x.2.ls.length : Int) 1]) (kvs := kv1) (mm := gath (evE T 0 ((xs.take j).map (·.2))))
      (by simp [e9]) (by simp [e13]) (by simp) (by simp) (by simp) (by simp) (by simp) hok hl8 f2 hb (by show g2.get m2 = _; rw [fb2.get m2 (by omega)]; exact hpm) hT (hmem x hxm) I2 hshj (by omega) (by simp only [List.length_append, List.length_singleton]; omega) ?_
    intro σ3 g3 ov3 kv3 h310 hσ3 fb3 I3' hsh3 hpr3
    obtain ⟨prz3, gz3⟩ := hpr3 _ prz2
    have ge3 : g3.get g.next = some (.cells (enC x) false) := by rw [gz3, gz2]; exact ge
    have q2 : load1 g3 g.next 2 = .ok (.int .i64 x.2.sz) := load1_of (id := g.next) (vs := enC x) (ro := false) ge3
    have q3 : load1 g3 g.next 3 = .ok (.int .i64 x.2.mn) := load1_of (id := g.next) (vs := enC x) (ro := false) ge3
    have q4 : load1 g3 g.next 4 = .ok (.int .i64 x.2.mx) := load1_of (id := g.next) (vs := enC x) (ro := false) ge3
    have e15 : σ3 15 = .ptr g.next 0 := by rw [hσ3 15 (by omega) (by omega) (by omega) (by omega)]; simp
    have e79 : σ3 79 = .int .i64 (j : Int) := by rw [hσ3 79 (by omega) (by omega) (by omega) (by omega)]; simp [hi]
    have hw3 := wordsL_len T x.2.ls
    obtain ⟨ov4, g4, d1, I4, d3, d4⟩ := I3'.app (k := 3) (ws := [wA x.2.sz 4, wA x.2.mn 8, wA x.2.mx 8]) rfl rfl (by simp only [List.length_append, List.length_singleton]; omega)
    simp only [wA] at d1
    simp [e15, e79, h310, q2, q3, q4, splice_eq, d1]
    have hsn : (xs.take (j + 1)).map (·.2) = (xs.take j).map (·.2) ++ [x.2] := by rw [take_snoc _ _ _ hx]; simp
    have hev : gath (evE T 0 ((xs.take (j + 1)).map (·.2))) = (evL T j x.2.ls).foldl addP (gath (evE T 0 ((xs.take j).map (·.2)))) := by
      rw [hsn, evE_snoc, gath, gath, List.foldl_append, List.length_map, List.length_take, Nat.min_eq_left (by omega), Nat.zero_add]
    rw [← List.map_take]
    refine ⟨fun t h1 h2 h3 h4 h5 h6 => ?_, ?_, ?_, kv3, ?_⟩
    · repeat rw [if_neg (by omega)]
      rw [hσ3 t (by omega) (by omega) (by omega) (by omega)]
      simp only [upd_some]
      repeat rw [if_neg (by omega)]
      exact hσ t h1 h2 h3 h4 h5 h6
    · exact fb2.trans (fb3.trans d3)
    · rw [hev]
      intro n p l hl
      have := hsh3 n p l hl
      omega
    · rw [hev, hsn, List.flatMap_append]
      have : wordsE T x.2 = [wA (x.2.ls.length : Int) 1] ++ wordsL T x.2.ls ++ [wA x.2.sz 4, wA x.2.mn 8, wA x.2.mx 8] := rfl
      simp only [List.flatMap_cons, List.flatMap_nil, List.append_nil, this]
      simp only [List.append_assoc] at I4 ⊢
      exact I4
  · rintro σ' ds g ⟨rfl, hσ, fb, hshj, kv1, hIj⟩
    rw [List.take_of_length_le (by omega)] at hIj
    simp
    exact hQ _ g (σ' 10) kv1 (by simp) (fun t h1 h2 h3 h4 h5 h6 => by simp only [upd_some]; rw [if_neg (by omega)]; exact hσ t h1 h2 h3 h4 h5 h6) fb hIj

end Go.Dk

namespace Go.Dk
open Go Go.Dr
set_option maxRecDepth 100000

/-! ### the pairs, sorted -/

def iP (p : Nat × Nat) : Int × Int := ((p.1 : Int), (p.2 : Int))
/-- pairs sorted -/
def srtP (ks : List (Nat × Nat)) : List (Nat × Nat) := (srt2 cfP (ks.map iP)).map fun z => (z.1.toNat, z.2.toNat)
theorem srtP_int (ks : List (Nat × Nat)) : (srtP ks).map iP = srt2 cfP (ks.map iP) := by
  unfold srtP
  rw [List.map_map]
  have : ∀ z ∈ srt2 cfP (ks.map iP), (iP ∘ fun z : Int × Int => (z.1.toNat, z.2.toNat)) z = z := by
    intro z hz
    obtain ⟨p, _, rfl⟩ := List.mem_map.1 ((srt2_perm cfP _).mem_iff.1 hz)
    simp [iP]
  rw [List.map_congr_left this, List.map_id'']
  intro z; rfl
theorem srtP_mem (ks : List (Nat × Nat)) (p : Nat × Nat) : p ∈ srtP ks ↔ p ∈ ks := by
  have h1 : p ∈ srtP ks ↔ iP p ∈ (srtP ks).map iP := by
    constructor
    · intro h; exact List.mem_map.2 ⟨p, h, rfl⟩
    · intro h
      obtain ⟨q, hq, e⟩ := List.mem_map.1 h
      have : q = p := by
        obtain ⟨q1, q2⟩ := q
        obtain ⟨p1, p2⟩ := p
        simp only [iP, Prod.mk.injEq] at e
        exact Prod.ext (by simp; omega) (by simp; omega)
      rw [← this]; exact hq
  rw [h1, srtP_int, (srt2_perm cfP _).mem_iff]
  constructor
  · intro h
    obtain ⟨q, hq, e⟩ := List.mem_map.1 h
    have : q = p := by
      obtain ⟨q1, q2⟩ := q
      obtain ⟨p1, p2⟩ := p
      simp only [iP, Prod.mk.injEq] at e
      exact Prod.ext (by simp; omega) (by simp; omega)
    rw [← this]; exact hq
  · intro h; exact List.mem_map.2 ⟨p, h, rfl⟩
theorem srtP_len (ks : List (Nat × Nat)) : (srtP ks).length = ks.length := by simp [srtP, srt2_length]
theorem srtP_asc {ks : List (Nat × Nat)} (hn : ks.Nodup) : (srtP ks).Pairwise lt2 := by
  have h1 := srt2_pairwise swoP (ks.map iP)
  have hnd : (srt2 cfP (ks.map iP)).Nodup := by
    refine (srt2_perm cfP _).nodup_iff.2 ?_
    refine List.pairwise_map.2 (hn.imp fun {a b} hab e => hab ?_)
    obtain ⟨a1, a2⟩ := a
    obtain ⟨b1, b2⟩ := b
    simp only [iP, Prod.mk.injEq] at e
    exact Prod.ext (by simp; omega) (by simp; omega)
  rw [← srtP_int] at h1 hnd
  have h3 : ((srtP ks).map iP).Pairwise fun x y => (x.1 < y.1 ∨ x.1 = y.1 ∧ x.2 < y.2) := by
    refine (h1.and hnd).imp fun {x y} h => ?_
    obtain ⟨h1, h2⟩ := h
    rw [ltP] at h1
    simp only [Bool.not_eq_true', decide_eq_false_iff_not] at h1
    have : ¬ (x.1 = y.1 ∧ x.2 = y.2) := fun e => h2 (Prod.ext e.1 e.2)
    omega
  refine (List.pairwise_map.1 h3).imp fun {a b} h => ?_
  simp only [iP] at h
  unfold lt2
  omega

theorem fl2_flat' (l : List (Int × Int)) : fl2 .i64 .i64 l = l.flatMap fun z => [AV.int .i64 z.1, AV.int .i64 z.2] := by
  induction l with
  | nil => rfl
  | cons z l ih => rw [List.flatMap_cons, ← ih]; rfl

theorem eqAV_pair (a b : Int) : eqAV 12 (.agg [.int .i64 a, .int .i64 b]) (.agg [.int .i64 a, .int .i64 b]) = true := by
  show Bool.and (decide (IntKind.i64 = IntKind.i64) && decide (a = a)) (Bool.and (decide (IntKind.i64 = IntKind.i64) && decide (b = b)) true) = true
  simp

/-- the slice at a pair -/
def valK (kvs : List ((Nat × Nat) × AV)) (p : Nat × Nat) : AV := match kvs.find? (fun x => x.1 = p) with | some x => x.2 | none => .nils
theorem valK_get : ∀ {kvs : List ((Nat × Nat) × AV)} {n : Nat} {p : Nat × Nat} {v : AV}, kvs[n]? = some (p, v) → (kvs.map (·.1)).Nodup → valK kvs p = v
  | [], _, _, _, h, _ => by simp at h
  | x :: l, 0, p, v, h, _ => by simp at h; subst h; simp [valK]
  | x :: l, n + 1, p, v, h, hn => by
    simp only [List.getElem?_cons_succ] at h
    simp only [List.map_cons, List.nodup_cons] at hn
    have hne : ¬ x.1 = p := fun e => hn.1 (by rw [e]; exact List.mem_map.2 ⟨(p, v), List.mem_of_getElem? h, rfl⟩)
    have := valK_get h hn.2
    simp only [valK, List.find?_cons, hne, decide_false] at this ⊢
    exact this
/-- what is written of the lists -/
def wordsP (kvs : List ((Nat × Nat) × AV)) (S : List (Nat × Nat)) : List AV := S.flatMap fun p => [wA (p.1 : Int) 4, wA (p.2 : Int) 4, .iface t_index_places (valK kvs p)]
theorem wordsP_len (kvs : List ((Nat × Nat) × AV)) (S : List (Nat × Nat)) : (wordsP kvs S).length = 3 * S.length := by
  unfold wordsP
  induction S with
  | nil => rfl
  | cons x l ih => rw [List.flatMap_cons, List.length_append, ih]; simp; omega

theorem Sl.same_get {es n : Nat} {g g' : AH} {v : AV} {l : List AV} (s : Sl g es n v l) (hn : g.next ≤ g'.next) (p : ∀ id, idOf v = some id → g'.get id = g.get id) : Sl g' es n v l := by
  refine ⟨s.1, ?_⟩
  rcases s.2 with e | ⟨i, off, cap, x, vs, ro, e1, e2, e3, e4, e5, e6⟩
  · exact .inl e
  · exact .inr ⟨i, off, cap, x, vs, ro, e1, Nat.lt_of_lt_of_le e2 hn, e3, by rw [p i (by rw [e1]; rfl)]; exact e4, e5, e6⟩

/-- the lists are written -/
theorem items_4 {Q : Post} {σ : Sg} {g0 : AH} {B m3 n : Nat} {u ov : AV} {S : List (Nat × Nat)} {os : List AV} {kvs : List ((Nat × Nat) × AV)} {mm : List ((Nat × Nat) × List Nat)}
    (h13 : σ 13 = .map m3) (h10 : σ 10 = ov) (h147 : σ 147 = u) (h148 : σ 148 = .int .i64 (n : Int)) (h149 : σ 149 = .int .i64 0)
    (hI : I3 B g0 m3 ov os kvs mm) (hu : Sl g0 2 n u (fl2 .i64 .i64 (S.map iP))) (hpr : ∀ id, idOf u = some id → Pr m3 id g0 ov kvs) (hn : n ≤ 2 ^ 28) (hol : os.length ≤ 2 ^ 28) (hS : ∀ p ∈ S, p ∈ kvs.map (·.1))
    (hQ : ∀ σ' g' ov', σ' 10 = ov' → FrB B g0 g' → I3 B g' m3 ov' (os ++ wordsP kvs S) kvs mm → Q .normal σ' [] g') :
    wpC P SI c_items_4 Q σ [] g0 := by
  have hl : S.length = n := by have := hu.1; rw [fl2_length, List.length_map] at this; omega
  rw [fl2_flat'] at hu
  simp only [c_items_4, wpC_block]
  refine w_count (n := n) (by rfl) (fun j σ' ds g => ds = [] ∧ (∀ t, t ≠ 10 → t ≠ 21 → t < 149 → σ' t = σ t) ∧ FrB B g0 g ∧ I3 B g m3 (σ' 10) (os ++ wordsP kvs (S.take j)) kvs mm ∧ ∀ id, idOf u = some id → Pr m3 id g (σ' 10) kvs ∧ g.get id = g0.get id) (by omega) h149
    ⟨rfl, fun _ _ _ _ => rfl, .refl _ _, by simpa [wordsP, h10] using hI, fun id hid => ⟨by rw [h10]; exact hpr id hid, rfl⟩⟩ ?_ ?_ ?_
  · rintro j σ' ds g ⟨rfl, hσ, _⟩
    simp [hσ 148 (by omega) (by omega) (by omega), h148]
  · rintro j σ' ds g hj hi ⟨rfl, hσ, fb, hIj, hprj⟩
    obtain ⟨⟨a, b⟩, hx⟩ := at_some (l := S) (j := j) (by omega)
    have hug := Sl.same_get hu fb.next (fun id hid => (hprj id hid).2)
    obtain ⟨i1, o1, a1, a2, _⟩ := hug.elem (fun _ _ => rfl) (by omega) (k := .i64) (i := (j : Int)) rfl (x := iP (a, b)) (by simp [hx])
    have e13 := (hσ 13 (by omega) (by omega) (by omega)).trans h13
    have e147 := (hσ 147 (by omega) (by omega) (by omega)).trans h147
    obtain ⟨ov1, hov⟩ : ∃ ov1, σ' 10 = ov1 := ⟨_, rfl⟩
    rw [hov] at hIj hprj
    have hlo := hIj.lo
    have hlt := hIj.lt
    have hndk : (kvs.map (·.1)).Nodup := by rw [hIj.keys]; exact hIj.nd
    obtain ⟨q, hq1, hq2⟩ := List.mem_iff_getElem.1 (hS _ (List.mem_of_getElem? hx))
    simp only [List.length_map] at hq1
    simp only [List.getElem_map] at hq2
    obtain ⟨v, hv⟩ : ∃ v, kvs[q]? = some ((a, b), v) := ⟨kvs[q].2, by rw [List.getElem?_eq_getElem hq1, ← hq2]⟩
    obtain ⟨l, hl2⟩ : ∃ l, mm[q]? = some ((a, b), l) := by
      have e1 : (mm.map (·.1))[q]? = some (a, b) := by rw [← hIj.keys]; simp [hv]
      rw [List.getElem?_map] at e1
      obtain ⟨y, hy, e2⟩ := Option.map_eq_some_iff.1 e1
      exact ⟨y.2, by rw [hy, ← e2]⟩
    have hvo := (hIj.vals q (a, b) v l hv hl2).1
    have hvs := hvo.sl.same
    have hvc := hvo.sl.oneCell
    have stn := opStore_new (h := g) (n := 2) (z := [.int .i64 0, .int .i64 0]) (l := [.int .i64 (a : Int), .int .i64 (b : Int)]) rfl rfl rfl
    have I1 := hIj.push (.cells [.int .i64 (a : Int), .int .i64 (b : Int)] false)
    have ge : (g.push (.cells [.int .i64 (a : Int), .int .i64 (b : Int)] false)).get g.next = some (.cells [.int .i64 (a : Int), .int .i64 (b : Int)] false) := get_push_new _
    have gn : (g.push (.cells [.int .i64 (a : Int), .int .i64 (b : Int)] false)).next = g.next + 1 := rfl
    have go1 : ∀ z, z < g.next → (g.push (.cells [.int .i64 (a : Int), .int .i64 (b : Int)] false)).get z = g.get z := fun z hz => get_push_old (by omega)
    generalize hg1 : g.push (.cells [.int .i64 (a : Int), .int .i64 (b : Int)] false) = g1 at *
    have m0 : load1 g1 g.next 0 = .ok (.int .i64 (a : Int)) := load1_of ge
    have m1 : load1 g1 g.next 1 = .ok (.int .i64 (b : Int)) := load1_of ge
    have mN : loadN g1 g.next 0 2 = .ok [.int .i64 (a : Int), .int .i64 (b : Int)] := loadN_of ge rfl
    have lk := I1.lm.lookup_some keyP (z := .nils) hv hndk
    unfold kP at lk
    have hwl := wordsP_len kvs (S.take j)
    rw [List.length_take, Nat.min_eq_left (by omega)] at hwl
    have I2 := I1.push (.cells [wA (a : Int) 4, wA (b : Int) 4, .iface t_index_places v] false)
    have n0 : load1 (g1.push (.cells [wA (a : Int) 4, wA (b : Int) 4, .iface t_index_places v] false)) g.next 0 = .ok (.int .i64 (a : Int)) := load1_of (id := g.next) (vs := [.int .i64 (a : Int), .int .i64 (b : Int)]) (ro := false) (by rw [get_push_old (by omega)]; exact ge)
    have n1 : load1 (g1.push (.cells [wA (a : Int) 4, wA (b : Int) 4, .iface t_index_places v] false)) g.next 1 = .ok (.int .i64 (b : Int)) := load1_of (id := g.next) (vs := [.int .i64 (a : Int), .int .i64 (b : Int)]) (ro := false) (by rw [get_push_old (by omega)]; exact ge)
    have nN : loadN (g1.push (.cells [wA (a : Int) 4, wA (b : Int) 4, .iface t_index_places v] false)) g.next 0 2 = .ok [.int .i64 (a : Int), .int .i64 (b : Int)] := loadN_of (by rw [get_push_old (by omega)]; exact ge) rfl
    have lk2 := I2.lm.lookup_some keyP (z := .nils) hv hndk
    unfold kP at lk2
    obtain ⟨ov2, g3, b1, I3', b3, b4⟩ := I1.app (k := 3) (ws := [wA (a : Int) 4, wA (b : Int) 4, .iface t_index_places v]) rfl (by simp [wA, allScalar, AV.scalar]) (by rw [List.length_append, hwl]; omega)
    simp only [wA] at b1 n0 n1 nN lk2
    simp only [iP] at a2
    simp [hi, e13, e147, hov, a1, a2, opLoadN, stn, m0, m1, mN, lk, splice_eq, n0, n1, nN, lk2, hvs, eqAV_pair, b1]
    have hwsn : wordsP kvs (S.take (j + 1)) = wordsP kvs (S.take j) ++ [wA (a : Int) 4, wA (b : Int) 4, .iface t_index_places v] := by
      rw [take_snoc _ _ _ hx]; simp [wordsP, valK_get hv hndk]
    refine ⟨fun t h1 h2 h3 => ?_, ?_, ?_, fun id hid => ?_⟩
    · repeat rw [if_neg (by omega)]
      exact hσ t h1 h2 h3
    · refine fb.trans (FrB.trans ⟨by omega, fun i hi' => ?_⟩ b3)
      exact go1 i (by omega)
    · rw [hwsn, ← List.append_assoc]
      exact I3'
    · obtain ⟨q1, q2⟩ := hprj id hid
      have q3 : Pr m3 id g1 ov1 kvs := ⟨by have := q1.1; omega, q1.2.1, q1.2.2.1, q1.2.2.2⟩
      obtain ⟨r1, r2⟩ := b4 id q3
      exact ⟨r1, by rw [r2, go1 id q1.1, q2]⟩
  · rintro σ' ds g ⟨rfl, hσ, fb, hIj, hprj⟩
    rw [List.take_of_length_le (by omega)] at hIj
    simp
    exact hQ _ g (σ' 10) (by simp) fb hIj

end Go.Dk

namespace Go.Dk
open Go Go.Dr
set_option maxRecDepth 100000

theorem I3.fr {B m3 : Nat} {g g' : AH} {ov : AV} {os : List AV} {kvs : List ((Nat × Nat) × AV)} {mm : List ((Nat × Nat) × List Nat)} (h : I3 B g m3 ov os kvs mm) (f : Fr g g') : I3 B g' m3 ov os kvs mm := by
  refine ⟨h.own.fr f, h.ne, ?_, h.lo, Nat.lt_of_lt_of_le h.lt f.next, h.keys, h.nd, fun i p v l h1 h2 => ?_, h.dis⟩
  · show g'.get m3 = _
    rw [f.get _ h.lt]; exact h.lm
  · obtain ⟨a, b, c⟩ := h.vals i p v l h1 h2
    exact ⟨a.fr f, b, c⟩

theorem keysT_fn {h : AH} {m : Nat} (K : AV → AH → Prop) : Ev P SI (.fn f_maps_Keys_map_string_bool_string_bool) [.map m] h K = K (.func (.func f_maps_Keys_map_string_bool_string_bool_1) [] [.ptr h.next 0]) (h.push (.cells [.map m] false)) := by
  refine Ev.eq (ev_fn k_maps_Keys_map_string_bool_string_bool rfl rfl ?_) K
  simp [c_maps_Keys_map_string_bool_string_bool, AV.cells]
theorem keysP_fn {h : AH} {m : Nat} (K : AV → AH → Prop) : Ev P SI (.fn f_maps_Keys_map_index_pair_index_places_index_pair_index_places) [.map m] h K = K (.func (.func f_maps_Keys_map_index_pair_index_places_index_pair_index_places_1) [] [.ptr h.next 0]) (h.push (.cells [.map m] false)) := by
  refine Ev.eq (ev_fn k_maps_Keys_map_index_pair_index_places_index_pair_index_places rfl rfl ?_) K
  simp [c_maps_Keys_map_index_pair_index_places_index_pair_index_places, AV.cells]

/-! ### what is written, plain -/

def Tof (l : List Ep) : List Txt := srtT (addE [] (l.map (·.ls)))
theorem Tof_mem (l : List Ep) (s : Txt) : s ∈ Tof l ↔ ∃ y ∈ l.map (·.ls), ∃ k ∈ y, s = k.1 ∨ s = k.2 := by
  unfold Tof srtT
  rw [(List.mergeSort_perm _ _).mem_iff, addE_mem]
  simp
theorem Tof_nodup (l : List Ep) : (Tof l).Nodup := (List.mergeSort_perm _ _).nodup_iff.2 (addE_nodup _ (by simp))
theorem Tof_len (l : List Ep) (h : ∀ x ∈ l, x.ls.length ≤ 8) : (Tof l).length ≤ 16 * l.length := by
  unfold Tof srtT
  rw [List.length_mergeSort]
  have := addE_len (l.map (·.ls)) [] (fun y hy => by obtain ⟨x, hx, rfl⟩ := List.mem_map.1 hy; exact h x hx)
  simpa using this

def mmOf (l : List Ep) : List ((Nat × Nat) × List Nat) := gath (evE (Tof l) 0 l)
def itE (T : List Txt) (x : Ep) : List It := .w (x.ls.length : Int) 1 :: (x.ls.flatMap fun k => [It.w (pl T k.1 : Int) 4, .w (pl T k.2 : Int) 4]) ++ [.w x.sz 4, .w x.mn 8, .w x.mx 8]
def itP (mm : List ((Nat × Nat) × List Nat)) (S : List (Nat × Nat)) : List It := S.flatMap fun p => [It.w (p.1 : Int) 4, .w (p.2 : Int) 4, .p (atK mm p)]
def itemsOf (l : List Ep) : List It := ([It.w ((Tof l).length : Int) 4] ++ (Tof l).map It.t ++ [.w (l.length : Int) 4] ++ l.flatMap (itE (Tof l))) ++ itP (mmOf l) (srtP ((mmOf l).map (·.1)))

/-- values that stand for items -/
def OkL (h : AH) (os : List AV) (its : List It) : Prop := os.length = its.length ∧ ∀ (i : Nat) (v : AV) (it : It), os[i]? = some v → its[i]? = some it → OkI h v it
theorem OkL.append {h : AH} {a b : List AV} {c d : List It} (h1 : OkL h a c) (h2 : OkL h b d) : OkL h (a ++ b) (c ++ d) := by
  refine ⟨by rw [List.length_append, List.length_append, h1.1, h2.1], fun i v it hv hi => ?_⟩
  by_cases hc : i < a.length
  · rw [List.getElem?_append_left hc] at hv
    rw [List.getElem?_append_left (by rw [← h1.1]; exact hc)] at hi
    exact h1.2 i v it hv hi
  · rw [List.getElem?_append_right (by omega)] at hv
    rw [List.getElem?_append_right (by rw [← h1.1]; omega), ← h1.1] at hi
    exact h2.2 _ v it hv hi
theorem OkL.nil (h : AH) : OkL h [] [] := ⟨rfl, fun i v it hv _ => by simp at hv⟩
theorem OkL.one {h : AH} {v : AV} {it : It} (hv : OkI h v it) : OkL h [v] [it] := ⟨rfl, fun i w jt hw hi => by
  match i with
  | 0 => simp at hw hi; subst hw hi; exact hv
  | i + 1 => simp at hw⟩
theorem OkL.cons {h : AH} {v : AV} {it : It} {a : List AV} {c : List It} (hv : OkI h v it) (h1 : OkL h a c) : OkL h (v :: a) (it :: c) := (OkL.one hv).append h1
theorem OkL.flat {α : Type} {h : AH} {l : List α} {f : α → List AV} {k : α → List It} (hf : ∀ x ∈ l, OkL h (f x) (k x)) : OkL h (l.flatMap f) (l.flatMap k) := by
  induction l with
  | nil => exact .nil h
  | cons x l ih =>
    rw [List.flatMap_cons, List.flatMap_cons]
    exact (hf x List.mem_cons_self).append (ih fun y hy => hf y (List.mem_cons_of_mem _ hy))

theorem okl_w (h : AH) (n : Int) (k : Nat) : OkI h (wA n (k : Int)) (.w n k) := rfl
theorem okl_words (h : AH) (T : List Txt) (x : Ep) : OkL h (wordsE T x) (itE T x) := by
  unfold wordsE itE wordsL
  refine (OkL.cons (okl_w h _ 1) (OkL.flat fun k _ => ?_)).append ?_
  · exact (OkL.one (okl_w h _ 4)).append (OkL.one (okl_w h _ 4))
  · exact .cons (okl_w h _ 4) (.cons (okl_w h _ 8) (.one (okl_w h _ 8)))

theorem okl_texts (h : AH) : ∀ T : List Txt, OkL h (T.map tA) (T.map It.t)
  | [] => .nil h
  | s :: T => .cons rfl (okl_texts h T)

theorem okl_places {B m3 : Nat} {g : AH} {ov : AV} {os : List AV} {kvs : List ((Nat × Nat) × AV)} {mm : List ((Nat × Nat) × List Nat)} (hI : I3 B g m3 ov os kvs mm) {S : List (Nat × Nat)} (hS : ∀ p ∈ S, p ∈ mm.map (·.1)) : OkL g (wordsP kvs S) (itP mm S) := by
  unfold wordsP itP
  refine OkL.flat fun p hp => ?_
  refine .cons (okl_w g _ 4) (.cons (okl_w g _ 4) (.one ?_))
  have hndk : (kvs.map (·.1)).Nodup := by rw [hI.keys]; exact hI.nd
  obtain ⟨q, hq1, hq2⟩ := List.mem_iff_getElem.1 (hS _ hp)
  simp only [List.length_map] at hq1
  simp only [List.getElem_map] at hq2
  have hl : mm[q]? = some (p, mm[q].2) := by rw [List.getElem?_eq_getElem hq1, ← hq2]
  obtain ⟨v, hv⟩ : ∃ v, kvs[q]? = some (p, v) := by
    have e1 : (kvs.map (·.1))[q]? = some p := by rw [hI.keys]; simp [hl]
    rw [List.getElem?_map] at e1
    obtain ⟨y, hy, e2⟩ := Option.map_eq_some_iff.1 e1
    exact ⟨y.2, by rw [hy, ← e2]⟩
  have hat : atK mm p = mm[q].2 := by
    have : ∀ (m : List ((Nat × Nat) × List Nat)) (n : Nat) (l : List Nat), m[n]? = some (p, l) → (m.map (·.1)).Nodup → atK m p = l := by
      intro m
      induction m with
      | nil => intro n l h; simp at h
      | cons x m ih =>
        intro n l h hn
        cases n with
        | zero => simp at h; subst h; simp [atK]
        | succ n =>
          simp only [List.getElem?_cons_succ] at h
          simp only [List.map_cons, List.nodup_cons] at hn
          have hne : ¬ x.1 = p := fun e => hn.1 (by rw [e]; exact List.mem_map.2 ⟨(p, l), List.mem_of_getElem? h, rfl⟩)
          have := ih n l h hn.2
          simp only [atK, List.find?_cons, hne, decide_false] at this ⊢
          exact this
    exact this mm q _ hl hI.nd
  refine ⟨v, by rw [valK_get hv hndk], ?_⟩
  rw [hat]
  exact (hI.vals q p v _ hv hl).1.sl

/-- what items gives -/
def ItemsK (h : AH) (l : List Ep) (r : AV) (g : AH) : Prop := ∃ os, Own h.next g 1 os.length r os ∧ Fr h g ∧ OkL g os (itemsOf l)

theorem index_items {h : AH} {n : Nat} {v : AV} {xs : List (AV × Ep)} (s : Sl h 5 n v (xs.flatMap enC)) (hn : n ≤ 100000) (he : ∀ x ∈ xs, EnOk h x ∧ x.2.ls.length ≤ 8) :
    Ev P SI (.fn f_index_items) [v] h (ItemsK h (xs.map (·.2))) := by
  refine ev_fn k_index_items rfl rfl ?_
  have hl : xs.length = n := by have := s.1; rw [en_len] at this; omega
  have hl8 : ∀ x ∈ xs.map (·.2), x.ls.length ≤ 8 := fun x hx => by obtain ⟨y, hy, rfl⟩ := List.mem_map.1 hx; exact (he y hy).2
  have e0 : opMkM none h = okV (.map h.next) (h.push (.map [] 0)) := rfl
  simp [c_index_items, -wpC_block, s.len, e0]
  refine items_1 (h := h) (m := h.next) (n := n) (v := v) (xs := xs) (by simp) (by simp) (by simp) (by simp) s hn he rfl (Fr.push (.refl h) _) (Nat.lt_succ_self _) (get_push_new _) ?_
  intro σ1 g1 hσ1 f1 hlt1 hm1
  have e3 : σ1 3 = .map h.next := by rw [hσ1 3 (by omega) (by omega) (by omega)]; simp
  have e00 : σ1 0 = v := by rw [hσ1 0 (by omega) (by omega) (by omega)]; simp
  generalize hks : addE [] (xs.map (·.2.ls)) = ks at hm1
  have hks2 : Tof (xs.map (·.2)) = srtT ks := by rw [← hks]; unfold Tof; rw [List.map_map]; rfl
  have hkn : ks.Nodup := by rw [← hks]; exact addE_nodup _ (by simp)
  have hkl : ks.length ≤ 16 * n := by
    have := addE_len (xs.map (·.2.ls)) [] (fun y hy => by obtain ⟨x, hx, rfl⟩ := List.mem_map.1 hy; exact (he x hx).2)
    rw [hks] at this; simp at this; omega
  simp [-wpC_block, e3, keysT_fn]
  have hm1' : (g1.push (.cells [.map h.next] false)).get h.next = some (.map (mk0 0 (kvA AV.str (setKV ks))) (setKV ks).length) := by rw [get_push_old (by omega)]; exact hm1
  refine sorted_T (c := g1.next) (m := h.next) (ro := false) (ss := ks) (get_push_new _) hm1' (Nat.lt_succ_self _) (Nat.lt_succ_of_lt hlt1) (fun e he' => ?_) (mk0_nodup _ _) ?_ ?_ _ ?_
  · have := mk0_lt e he'; rw [kvA_length] at this; omega
  · rw [mk0_keys]; simp [kvA, setKV, tx, Function.comp_def]
  · rw [mk0_length, kvA_length, setKV, List.length_map]; omega
  intro u g2 ho2 f2
  rw [← hks2] at ho2
  generalize hT : Tof (xs.map (·.2)) = T at *
  have hTl : T.length = ks.length := by rw [hks2]; exact List.length_mergeSort _
  have hTn : T.Nodup := by rw [← hT]; exact Tof_nodup _
  have fh2 : Fr h g2 := (f1.push _).trans f2
  have e0' : opMkM none g2 = okV (.map g2.next) (g2.push (.map [] 0)) := rfl
  have ulen := ho2.sl.len
  simp [-wpC_block, e0', ulen, splice_eq]
  have hw : AV.iface t_index_word (.agg [.int .i64 (ks.length : Int), .int .i64 4]) = wA (ks.length : Int) 4 := rfl
  rw [hw]
  have fo3 := Own.fresh (B := g2.next + 1) (h := g2.push (.map [] 0)) (es := 1) (n := 1) (l := [wA (ks.length : Int) 4]) true (Nat.le_refl _) rfl
  refine items_2 (h := g2) (m := g2.next) (n := ks.length) (u := u) (ov := .slice (g2.next + 1) 0 1 1 true 1) (T := T) (os := [wA (ks.length : Int) 4]) (by simp) (by simp) (by simp) (by simp) (by simp) ho2.sl (by omega) hTn rfl ((Fr.push (.refl g2) _).push _)
    (by show AH.get _ _ = _; rw [get_push_old (by show g2.next ≠ g2.next + 1; omega)]; exact get_push_new _) fo3 (by simp) (by show g2.next < g2.next + 1 + 1; omega) ?_
  intro σ2 g3 ov3 h310 hσ2 f3 hlt3 hp3 ho3
  have e20 : σ2 0 = v := by rw [hσ2 0 (by omega) (by omega) (by omega) (by omega)]; simp [e00]
  have e29 : σ2 9 = .map g2.next := by rw [hσ2 9 (by omega) (by omega) (by omega) (by omega)]; simp
  have fh3 : Fr h g3 := fh2.trans f3
  have hlt2 := f2.next
  have hb2 : h.next ≤ g2.next := fh2.next
  obtain ⟨ov4, g4, b1, ho4, b3, b4, b5⟩ := ho3.snoc2 (bytes := 16) (x := [wA (n : Int) 4]) (by omega) rfl rfl (by simp; omega) (by simp; omega)
  have fh4 : Fr h g4 := ⟨by have := fh3.next; have := b3.next; omega, fun i hi => by rw [b3.get i (by omega)]; exact fh3.get i hi⟩
  have hp4 : MapO AV.str g4 g2.next (plKV T) := by show g4.get _ = _; rw [b3.get _ (by omega)]; exact hp3
  have e0'' : opMkM none g4 = okV (.map g4.next) (g4.push (.map [] 0)) := rfl
  have hlt4 := b3.next
  simp only [wA] at b1
  simp [-wpC_block, h310, e20, s.len, splice_eq, b1, e0'']
  have hne4 : idOf ov4 ≠ some g4.next := fun hid => by have := (own_id_lt ho4 hid).2; omega
  have I0 : I3 (g2.next + 1) (g4.push (.map [] 0)) g4.next ov4 (([wA (ks.length : Int) 4] ++ T.map tA) ++ [wA (n : Int) 4]) [] [] :=
    ⟨by have := ho4.fr (Fr.push (.refl g4) (.map [] 0)); simpa [Nat.add_comm, Nat.add_assoc, Nat.add_left_comm] using this, hne4, get_push_new _, by omega, Nat.lt_succ_self _, rfl, by simp, fun i p v l h1 _ => by simp at h1, fun i j p q v w id _ h1 _ _ => by simp at h1⟩
  refine items_3 (h := h) (m2 := g2.next) (m3 := g4.next) (n := n) (v := v) (ov := ov4) (xs := xs) (T := T) (by simp [e29]) (by simp) (by simp) (by simp) (by simp) (by simp) s hn he (fh4.push _) hb2
    (by show AH.get _ _ = _; rw [get_push_old (by omega)]; exact hp4) hTn (fun x hx k hk => ?_) I0 (by simp; omega) ?_
  · have hm : ∀ s, (s = k.1 ∨ s = k.2) → s ∈ T := fun s hs => by
      rw [← hT, Tof_mem]
      exact ⟨x.2.ls, List.mem_map.2 ⟨x.2, List.mem_map.2 ⟨x, hx, rfl⟩, rfl⟩, k, hk, hs⟩
    exact ⟨hm _ (.inl rfl), hm _ (.inr rfl)⟩
  intro σ3 g5 ov5 kvs h510 hσ3 fb5 I5
  have e313 : σ3 13 = .map g4.next := by rw [hσ3 13 (by omega) (by omega) (by omega) (by omega) (by omega) (by omega)]; simp
  simp [-wpC_block, e313, keysP_fn]
  have I6 := I5.push (.cells [.map g4.next] false)
  have hkl5 : kvs.length = (gath (evE T 0 (xs.map (·.2)))).length := by have := congrArg List.length I5.keys; simpa using this
  have hevl : ∀ (l : List Ep) (i : Nat), (∀ x ∈ l, x.ls.length ≤ 8) → (evE T i l).length ≤ 8 * l.length := by
    intro l
    induction l with
    | nil => intro i _; simp [evE]
    | cons x l ih =>
      intro i h
      have h1 := ih (i + 1) (fun y hy => h y (List.mem_cons_of_mem _ hy))
      have h2 := h x List.mem_cons_self
      simp only [evE, evL, List.length_append, List.length_map, List.length_cons] at h1 ⊢
      omega
  have hgl : ∀ (evs : List ((Nat × Nat) × Nat)) (m : List ((Nat × Nat) × List Nat)), (evs.foldl addP m).length ≤ m.length + evs.length := by
    have h1 : ∀ (m : List ((Nat × Nat) × List Nat)) (e : (Nat × Nat) × Nat), (addP m e).length ≤ m.length + 1 := by
      intro m e
      induction m with
      | nil => simp [addP]
      | cons x m ih => unfold addP; split <;> simp; omega
    intro evs
    induction evs with
    | nil => intro m; simp
    | cons e evs ih =>
      intro m
      have := ih (addP m e)
      have := h1 m e
      simp only [List.foldl_cons, List.length_cons]
      omega
  have hkb : kvs.length ≤ 8 * n := by
    have h1 := hgl (evE T 0 (xs.map (·.2))) []
    have h2 := hevl (xs.map (·.2)) 0 hl8
    rw [hkl5]
    unfold gath
    simp at h1 h2 ⊢
    omega
  refine sorted_P (c := g5.next) (m := g4.next) (ro := false) (ss := (kvs.map (·.1)).map iP) (get_push_new _) I6.lm (Nat.lt_succ_self _) I6.lt (fun e he' => ?_) (mk0_nodup _ _) ?_ ?_ _ ?_
  · have := mk0_lt e he'; rw [kvA_length] at this; omega
  · rw [mk0_keys]; simp [kvA, pk, kP, iP, Function.comp_def]
  · rw [mk0_length, kvA_length]; omega
  intro sv5 g7 ho7 f7
  rw [← srtP_int] at ho7
  have I7 := I6.fr f7
  have svl := ho7.sl.len
  simp [-wpC_block, svl]
  have hwl5 := wordsE_len_all T (xs.map (·.2)) hl8
  rw [List.length_map, hl] at hwl5
  have e510 : σ3 10 = ov5 := h510
  have hm5 : (gath (evE T 0 (xs.map (·.2)))) = mmOf (xs.map (·.2)) := by rw [mmOf, hT]
  refine items_4 (B := g2.next + 1) (m3 := g4.next) (n := kvs.length) (u := sv5) (ov := ov5) (S := srtP (kvs.map (·.1))) (os := ([wA (ks.length : Int) 4] ++ T.map tA ++ [wA (n : Int) 4]) ++ (xs.map (·.2)).flatMap (wordsE T)) (kvs := kvs) (mm := gath (evE T 0 (xs.map (·.2))))
    (by simp [e313]) (by simp [e510]) (by simp) (by simp) (by simp) I7 (by simpa using ho7.sl) (fun id hid => ?_) (by omega) (by simp only [List.length_append, List.length_map, List.length_singleton]; omega) (fun p hp => (srtP_mem _ p).1 hp) ?_
  · have h1 := (own_id_lt ho7 hid)
    have h2 : g5.next < id := by have := h1.1; show g5.next < id; exact this
    refine ⟨h1.2, by have := I5.lt; omega, fun ho => ?_, fun i p v hv ho => ?_⟩
    · have := (own_id_lt I5.own ho).2; omega
    · obtain ⟨l2, hl2⟩ : ∃ l2, (gath (evE T 0 (xs.map (·.2))))[i]? = some (p, l2) := by
        have e1 : ((gath (evE T 0 (xs.map (·.2)))).map (·.1))[i]? = some p := by rw [← I5.keys]; simp [hv]
        rw [List.getElem?_map] at e1
        obtain ⟨y, hy, rfl⟩ := Option.map_eq_some_iff.1 e1
        exact ⟨y.2, hy⟩
      have := (own_id_lt (I5.vals i p v l2 hv hl2).1 ho).2
      omega
  intro σ4 g8 ov8 h810 fb8 I8
  simp [h810]
  refine ⟨_, I8.own.base (by omega), ⟨?_, fun i hi => ?_⟩, ?_⟩
  · have := fh4.next; have := fb5.next; have := f7.next; have := fb8.next
    have e1 : (g4.push (.map [] 0)).next = g4.next + 1 := rfl
    have e2 : (g5.push (.cells [.map g4.next] false)).next = g5.next + 1 := rfl
    omega
  · have h4 := fh4.next
    have h5 := fb5.next
    have e1 : (g4.push (.map [] 0)).next = g4.next + 1 := rfl
    rw [fb8.get i (by omega), f7.get i (by show i < g5.next + 1; omega), get_push_old (by omega), fb5.get i (by omega), get_push_old (by omega)]
    exact fh4.get i hi
  · unfold itemsOf
    rw [hT, ← hm5, ← I8.keys]
    refine OkL.append ?_ (okl_places I8 (fun p hp => by rw [← I8.keys]; exact (srtP_mem _ p).1 hp))
    rw [show (T.length : Int) = (ks.length : Int) by rw [hTl], show ((xs.map (·.2)).length : Int) = (n : Int) by rw [List.length_map, hl]]
    refine ((((OkL.one (okl_w g8 _ 4)).append (okl_texts g8 T)).append (OkL.one (okl_w g8 _ 4)))).append ?_
    exact OkL.flat fun x _ => okl_words g8 T x

end Go.Dk

namespace Go.Dk
open Go Go.Dr
set_option maxRecDepth 100000

def f_index_word_size : FuncId := 203
def f_index_text_size : FuncId := 204
def f_index_places_size : FuncId := 205

-- reached: 3
/-- (dryrot/index.word).size, of 1 -/
noncomputable def c_index_word_size : CC :=
 (.seq
  (.ops [
   .row ⟨(some 1), none, .box (.t 0)⟩,
   .row ⟨(some 2), none, .move (.c (.int .i64 0))⟩])
  (.seq
   (.ops [
    .row ⟨(some 3), none, .fieldAddr 1 (.t 1)⟩,
    .row ⟨(some 4), none, .load1 (.t 3)⟩,
    .row ⟨(some 2), none, .move (.t 4)⟩])
   .ret))

theorem k_index_word_size : compF P f_index_word_size = .ok ⟨5, [.tmp 2], c_index_word_size⟩ := by kernel_rfl

/-- (dryrot/index.text).size, of 1 -/
noncomputable def c_index_text_size : CC :=
 (.seq
  (.ops [
   .row ⟨(some 2), none, .move (.c (.int .i64 0))⟩])
  (.seq
   (.ops [
    .row ⟨(some 3), none, .move (.t 0)⟩,
    .row ⟨(some 4), none, .lenS (.t 3)⟩,
    .row ⟨(some 5), none, .bin .add t_int true (.c (.int .i64 1)) (.t 4)⟩,
    .row ⟨(some 2), none, .move (.t 5)⟩])
   .ret))

theorem k_index_text_size : compF P f_index_text_size = .ok ⟨6, [.tmp 2], c_index_text_size⟩ := by kernel_rfl

/-- (dryrot/index.places).size, of 1 -/
noncomputable def c_index_places_size : CC :=
 (.seq
  (.ops [
   .row ⟨(some 2), none, .move (.c (.int .i64 0))⟩])
  (.seq
   (.ops [
    .row ⟨(some 3), none, .move (.t 0)⟩,
    .row ⟨(some 4), none, .lenV (.t 3)⟩,
    .row ⟨(some 5), none, .bin .mul t_int true (.c (.int .i64 4)) (.t 4)⟩,
    .row ⟨(some 6), none, .bin .add t_int true (.c (.int .i64 4)) (.t 5)⟩,
    .row ⟨(some 2), none, .move (.t 6)⟩])
   .ret))

theorem k_index_places_size : compF P f_index_places_size = .ok ⟨7, [.tmp 2], c_index_places_size⟩ := by kernel_rfl


end Go.Dk

/-
  More is put behind a slice: out of whatever; and where there is room.
-/
namespace Go.Dr

section
variable {P : Program} {h : AH}

/-- append, to what is ours, out of whatever -/
theorem Own.append_src {B es n m bytes : Nat} {v x : AV} {l r : List AV} (s : Own B h es n v l) (hsrc : srcCells h es x = .ok (m, r)) (hr : r.length = m * es) (hB : B ≤ h.next) (hs : allScalar r = true) (h1 : (n + m) * bytes ≤ 2 ^ 40) (h2 : n + m ≤ 2 ^ 40) :
    ∃ v' h', opApp es bytes v x h = okV v' h' ∧ Own B h' es (n + m) v' (l ++ r) ∧ FrB B h h' ∧ (∀ i, i < h.next → idOf v ≠ some i → h'.get i = h.get i) ∧ (∀ i, idOf v' = some i → idOf v = some i ∨ h.next ≤ i) := by
  have hlr : (l ++ r).length = (n + m) * es := by rw [List.length_append, s.1, hr, Nat.add_mul]
  unfold opApp
  rw [hsrc]
  simp only []
  by_cases hm : m = 0
  · subst hm
    have hr0 : r = [] := by simpa using hr
    subst hr0
    refine ⟨v, h, ?_, by simpa using s, .refl _ _, fun _ _ _ => rfl, fun i hi => .inl hi⟩
    rcases s.2 with ⟨rfl, rfl⟩ | ⟨id, off, x', vs, rfl, e2, e3, e4, e5, e6⟩
    · simp [appTo]
    · have hb : Nat.ble n n = true := Nat.ble_eq_true_of_le (Nat.le_refl n)
      simp [appTo, forceN_eq, storeN, hb]
  · rcases s.2 with ⟨rfl, rfl⟩ | ⟨id, off, x', vs, rfl, e2, e3, e4, e5, e6⟩
    · have hl0 : l = [] := by simpa using s.1
      subst hl0
      refine ⟨.slice h.next 0 m m false es, h.push (.cells r false), ?_, ?_, (Fr.push (.refl h) _).b hB, fun i hi _ => get_push_old (by omega), fun i hi => by cases hi; exact .inr (Nat.le_refl _)⟩
      · simp only [appTo]
        rw [if_neg hm, if_pos ⟨by simpa using h1, by simpa using h2⟩]
      · rw [Nat.zero_add]
        exact Own.fresh false hB (by simpa using hr)
    · have hnb : Nat.ble (n + m) n = false := by
        cases e : Nat.ble (n + m) n with
        | false => rfl
        | true => have := Nat.le_of_ble_eq_true e; omega
      have hld : loadN h id off (n * es) = .ok l := by
        have hb : Nat.ble (off + n * es) vs.length = true := Nat.ble_eq_true_of_le e5
        simp [loadN, e4, hb, e6]
      cases x' with
      | true =>
        refine ⟨.slice h.next 0 (n + m) (n + m) false es, h.push (.cells (l ++ r) false), ?_, ?_, (Fr.push (.refl h) _).b hB, fun i hi _ => get_push_old (by omega), fun i hi => by cases hi; exact .inr (Nat.le_refl _)⟩
        · simp only [appTo, forceN_eq, hnb, cond_false, hld, hs, if_true]
          rw [if_neg (by simp), if_pos ⟨h1, h2⟩]
        · exact Own.fresh false hB hlr
      | false =>
        refine ⟨.slice h.next 0 (n + m) (n + m) false es, (h.kill id).push (.cells (l ++ r) false), ?_, ?_, ?_, fun i hi hne => ?_, fun i hi => by cases hi; exact .inr (Nat.le_refl _)⟩
        · simp only [appTo, forceN_eq, hnb, cond_false, hld, hs, if_true, e4]
          rw [if_neg (by simp), if_pos ⟨h1, h2⟩]
        · exact Own.fresh (h := h.kill id) false hB hlr
        · exact ⟨by simp, fun i hi => by rw [get_push_old (by simp; omega), get_kill_old (by omega)]⟩
        · rw [get_push_old (by simp; omega), get_kill_old (by intro e; apply hne; rw [e]; rfl)]



theorem bytesAV_by8 : ∀ s : Txt, bytesAV s = by8 (s.map UInt8.toNat)
  | [] => rfl
  | b :: s => by simp only [bytesAV, bytesAV_by8 s]; rfl
theorem src_str (s : Txt) : srcCells h 1 (.str s) = .ok (s.length, by8 (s.map UInt8.toNat)) := by
  simp [srcCells, bytesAV_by8]

/-- a slice of ours that was made with room for cap bytes -/
def Buf (B : Nat) (h : AH) (n cap : Nat) (v : AV) (l : List AV) : Prop :=
  l.length = n ∧ n ≤ cap ∧ ∃ id rest, v = .slice id 0 n cap true 1 ∧ B ≤ id ∧ id < h.next ∧ h.get id = some (.cells (l ++ rest) false) ∧ (l ++ rest).length = cap

theorem Buf.make {B cap : Nat} (hB : B ≤ h.next) (k : IntKind) (hc : cap ≤ 2 ^ 40) : ∃ h', opMkS 1 1 [.int .u8 0] (.int .i64 0) (.int k (cap : Int)) h = okV (.slice h.next 0 0 cap true 1) h' ∧ Buf B h' 0 cap (.slice h.next 0 0 cap true 1) [] ∧ Fr h h' := by
  refine ⟨h.push (.cells (repl [.int .u8 0] cap) false), ?_, ⟨rfl, Nat.zero_le _, h.next, repl [.int .u8 0] cap, rfl, hB, Nat.lt_succ_self _, get_push_new _, ?_⟩, Fr.push (.refl h) _⟩
  · simp only [opMkS]
    rw [if_pos ⟨by omega, by omega, by omega, by omega⟩]
    rfl
  · rw [repl_one]; simp

theorem Buf.keep {B n cap : Nat} {h' : AH} {v : AV} {l : List AV} (b : Buf B h n cap v l) (f : FrB B h h') (hB : ∀ id, idOf v = some id → h'.get id = h.get id) : Buf B h' n cap v l := by
  obtain ⟨h1, h2, id, rest, rfl, h4, h5, h6, h7⟩ := b
  exact ⟨h1, h2, id, rest, rfl, h4, Nat.lt_of_lt_of_le h5 f.next, by rw [hB id rfl]; exact h6, h7⟩
theorem Buf.fr {B n cap : Nat} {h' : AH} {v : AV} {l : List AV} (b : Buf B h n cap v l) (f : Fr h h') : Buf B h' n cap v l := by
  obtain ⟨h1, h2, id, rest, rfl, h4, h5, h6, h7⟩ := b
  exact ⟨h1, h2, id, rest, rfl, h4, Nat.lt_of_lt_of_le h5 f.next, by rw [f.get id h5]; exact h6, h7⟩

theorem Buf.sl {B n cap : Nat} {v : AV} {l : List AV} (b : Buf B h n cap v l) : Sl h 1 n v l := by
  obtain ⟨h1, h2, id, rest, rfl, h4, h5, h6, h7⟩ := b
  refine ⟨by omega, .inr ⟨id, 0, cap, true, l ++ rest, false, rfl, h5, h2, h6, ?_, ?_⟩⟩
  · rw [h7]; omega
  · rw [List.drop_zero, Nat.mul_one, List.take_left' h1]

/-- append, where there is room -/
theorem Buf.append {B n cap m : Nat} {v x : AV} {l r : List AV} (b : Buf B h n cap v l) (hsrc : srcCells h 1 x = .ok (m, r)) (hr : r.length = m) (hs : allScalar r = true) (hroom : n + m ≤ cap) :
    ∃ v' h', opApp 1 1 v x h = okV v' h' ∧ Buf B h' (n + m) cap v' (l ++ r) ∧ FrB B h h' ∧ h'.next = h.next ∧ idOf v' = idOf v ∧ ∀ i, idOf v ≠ some i → h'.get i = h.get i := by
  obtain ⟨h1, h2, id, rest, rfl, h4, h5, h6, h7⟩ := b
  have hle : Nat.ble (n + m) cap = true := Nat.ble_eq_true_of_le hroom
  unfold opApp
  rw [hsrc]
  simp only [appTo]
  rw [if_neg (by simp)]
  simp only [forceN_eq, hle, cond_true, Nat.zero_add, Nat.mul_one]
  cases r with
  | nil =>
    simp only [List.length_nil] at hr
    subst hr
    refine ⟨_, h, by simp [storeN], ⟨by simpa using h1, by simpa using hroom, id, rest, rfl, h4, h5, by simpa using h6, by simpa using h7⟩, .refl _ _, rfl, rfl, fun _ _ => rfl⟩
  | cons y r =>
    have hb : Nat.ble (n + (y :: r).length) (l ++ rest).length = true := Nat.ble_eq_true_of_le (by omega)
    have st : storeN h id n (y :: r) = .ok (h.set id (.cells (splice (l ++ rest) n (y :: r)) false)) := by
      simp only [storeN, h6, hb, hs, Bool.and_self, cond_true]
    have hsp : splice (l ++ rest) n (y :: r) = (l ++ (y :: r)) ++ rest.drop m := by
      rw [splice_eq, List.take_left' h1, hr, ← List.drop_drop, List.drop_left' h1, List.append_assoc]
    rw [st, hsp]
    refine ⟨.slice id 0 (n + m) cap true 1, h.set id (.cells (l ++ (y :: r) ++ rest.drop m) false), rfl, ⟨by rw [List.length_append, h1, hr], hroom, id, rest.drop m, rfl, h4, h5, get_set_new _ _, ?_⟩, ⟨Nat.le_refl _, fun i hi => get_set_old (by omega)⟩, rfl, rfl, fun i hi => get_set_old (by intro e; apply hi; rw [e]; rfl)⟩
    rw [List.length_append] at h7
    rw [List.length_append, List.length_append, List.length_drop, hr]
    omega

end
end Go.Dr

namespace Go.Dk
open Go Go.Dr
set_option maxRecDepth 100000

/-! ### an item's size, an item's bytes -/

theorem meth_t (s : Txt) (h : AH) : callMeth P (.iface t_index_text (.str s)) "dryrot/index.size" [] h = .ok (.enter f_index_text_size [.str s], h) := by kernel_rfl
theorem meth_w (l : List AV) (h : AH) : callMeth P (.iface t_index_word (.agg l)) "dryrot/index.size" [] h = .ok (.enter f_index_word_size [.agg l], h) := by kernel_rfl
theorem meth_p (v : AV) (h : AH) : callMeth P (.iface t_index_places v) "dryrot/index.size" [] h = .ok (.enter f_index_places_size [v], h) := by kernel_rfl

def itB : It → List Nat
  | .t s => s.length % 256 :: bT s
  | .w n k => be k (n64 n)
  | .p l => be 4 l.length ++ l.flatMap (be 4)
/-- an item that is no giant -/
def itOk : It → Prop
  | .t s => s.length ≤ 2 ^ 29
  | .w _ k => k ≤ 8
  | .p l => l.length ≤ 2 ^ 29 ∧ ∀ x ∈ l, x < 2 ^ 62

theorem be_flat_len (l : List Nat) : (l.flatMap (be 4)).length = 4 * l.length := by
  induction l with
  | nil => rfl
  | cons x l ih => rw [List.flatMap_cons, List.length_append, be_length, ih, List.length_cons]; omega

theorem it_size {h : AH} {v : AV} {it : It} (hv : OkI h v it) (ho : itOk it) : ∃ f a, callMeth P v "dryrot/index.size" [] h = .ok (.enter f a, h) ∧ Ev P SI (.fn f) a h (fun r g => r = .int .i64 ((itB it).length : Int) ∧ Fr h g) := by
  cases it with
  | t s =>
    cases hv
    refine ⟨_, _, meth_t s h, ?_⟩
    refine ev_fn k_index_text_size rfl rfl ?_
    have w : wrapF .i64 (1 + (s.length : Int)) = 1 + (s.length : Int) := wrap_i64 (by omega) (by simp only [itOk] at ho; omega)
    have w' : wrapF .i64 ((s.length : Int) + 1) = (s.length : Int) + 1 := wrap_i64 (by omega) (by simp only [itOk] at ho; omega)
    simp [c_index_text_size, w, w', itB, bT, Fr.refl]
    omega
  | w n k =>
    cases hv
    refine ⟨_, _, meth_w _ h, ?_⟩
    refine ev_fn k_index_word_size rfl rfl ?_
    have stn := opStore_new (h := h) (n := 2) (z := [.int .i64 0, .int .i64 0]) (l := [.int .i64 n, .int .i64 (k : Int)]) rfl rfl rfl
    have m1 : load1 (h.push (.cells [.int .i64 n, .int .i64 (k : Int)] false)) h.next 1 = .ok (.int .i64 (k : Int)) := load1_of (get_push_new _)
    simp [c_index_word_size, stn, m1, itB, be_length]
    exact Fr.push (.refl h) _
  | p l =>
    obtain ⟨u, rfl, hs⟩ := hv
    refine ⟨_, _, meth_p _ h, ?_⟩
    refine ev_fn k_index_places_size rfl rfl ?_
    simp only [itOk] at ho
    have w1 : wrapF .i64 (4 * (l.length : Int)) = 4 * (l.length : Int) := wrap_i64 (by omega) (by omega)
    have w2 : wrapF .i64 (4 + 4 * (l.length : Int)) = 4 + 4 * (l.length : Int) := wrap_i64 (by omega) (by omega)
    simp [c_index_places_size, hs.len, w1, w2, itB, be_length, be_flat_len, Fr.refl, -List.length_flatMap]

theorem ta_tt (s : Txt) : opTypeAssert P (.iface t_index_text (.str s)) t_index_text true = .ok (.tuple [.str s, .bool true]) := by kernel_rfl
theorem ta_wt (l : List AV) : opTypeAssert P (.iface t_index_word (.agg l)) t_index_text true = .ok (.tuple [.str [], .bool false]) := by kernel_rfl
theorem ta_pt (v : AV) : opTypeAssert P (.iface t_index_places v) t_index_text true = .ok (.tuple [.str [], .bool false]) := by kernel_rfl
theorem ta_ww (l : List AV) : opTypeAssert P (.iface t_index_word (.agg l)) t_index_word true = .ok (.tuple [.agg l, .bool true]) := by kernel_rfl
theorem ta_pw (v : AV) : opTypeAssert P (.iface t_index_places v) t_index_word true = .ok (.tuple [.agg [.int .i64 0, .int .i64 0], .bool false]) := by kernel_rfl
theorem ta_pp (v : AV) : opTypeAssert P (.iface t_index_places v) t_index_places false = .ok v := by kernel_rfl

theorem n64_of_nat (n : Nat) (hn : n < 2 ^ 64) : n64 (n : Int) = n := by unfold n64; omega
theorem wrap_n64 (z : Int) : wrapF .u64 z = ((n64 z : Nat) : Int) := by
  unfold n64
  rw [wrap64, Int.toNat_of_nonneg (Int.emod_nonneg _ (by decide))]

theorem n64_lt (z : Int) : n64 z < 2 ^ 64 := by unfold n64; omega

/-- an item's bytes, in a slice that is ours -/
theorem index_bytesOf {h : AH} {v : AV} {it : It} (hv : OkI h v it) (ho : itOk it) : Ev P SI (.fn f_index_bytesOf) [v] h (fun r g => Own h.next g 1 (itB it).length r (by8 (itB it)) ∧ Fr h g) := by
  refine ev_fn k_index_bytesOf rfl rfl ?_
  cases it with
  | t s =>
    cases hv
    simp only [itOk] at ho
    have w : wrapF .u8 (s.length : Int) = ((s.length % 256 : Nat) : Int) := by rw [wrap8]; omega
    obtain ⟨b, hb⟩ : ∃ b, s.length % 256 = b := ⟨_, rfl⟩
    rw [hb] at w
    have o1 := Own.fresh (B := h.next) (h := h) (es := 1) (n := 1) (l := [.int .u8 (b : Int)]) true (Nat.le_refl _) rfl
    obtain ⟨v', g', e, o, f, p, q⟩ := o1.append_src (bytes := 1) (src_str s) (by simp) (Nat.le_succ _) (by8_scalar _) (by omega) (by omega)
    simp [c_index_bytesOf, ta_tt, w, splice_eq, e]
    have hgn : (h.push (.cells [.int .u8 (b : Int)] false)).next = h.next + 1 := rfl
    refine ⟨?_, by have := f.next; omega, fun i hi => ?_⟩
    · have e2 : itB (.t s) = b :: bT s := by simp [itB, hb]
      rw [e2]
      have e3 : (b :: bT s).length = 1 + s.length := by simp [bT]; omega
      rw [e3]
      exact o
    · rw [f.get i hi, get_push_old (by omega)]
  | w n k =>
    cases hv
    have hk : k ≤ 8 := ho
    have stn := opStore_new (h := h) (n := 2) (z := [.int .i64 0, .int .i64 0]) (l := [.int .i64 n, .int .i64 (k : Int)]) rfl rfl rfl
    have m0 : load1 (h.push (.cells [.int .i64 n, .int .i64 (k : Int)] false)) h.next 0 = .ok (.int .i64 n) := load1_of (get_push_new _)
    have m1 : load1 (h.push (.cells [.int .i64 n, .int .i64 (k : Int)] false)) h.next 1 = .ok (.int .i64 (k : Int)) := load1_of (get_push_new _)
    simp [c_index_bytesOf, ta_wt, ta_ww, stn, m0, m1, wrap_n64, crc_Put (n64 n) k (n64_lt n) hk]
    have o1 := Own.fresh (B := h.next) (h := h.push (.cells [.int .i64 n, .int .i64 (k : Int)] false)) (es := 1) (n := k) (l := by8 (be k (n64 n))) true (Nat.le_succ _) (by simp)
    refine ⟨?_, (Fr.push (.refl h) _).push _⟩
    simp only [itB, be_length]
    exact o1
  | p l =>
    obtain ⟨u, rfl, hs⟩ := hv
    obtain ⟨hl1, hl2⟩ := ho
    have stn := opStore_new (h := h) (n := 2) (z := [.int .i64 0, .int .i64 0]) (l := [.int .i64 0, .int .i64 0]) rfl rfl rfl
    have w : wrapF .u64 (l.length : Int) = ((l.length : Nat) : Int) := wrap_u64 (by omega) (by omega)
    have cp := crc_Put l.length 4 (by omega) (by omega)
    have e4 : ((4 : Nat) : Int) = 4 := rfl
    rw [e4] at cp
    simp [c_index_bytesOf, ta_pt, ta_pw, ta_pp, stn, hs.len, w, cp]
    have f1 : Fr h ((h.push (.cells [.int .i64 0, .int .i64 0] false)).push (.cells (by8 (be 4 l.length)) false)) := (Fr.push (.refl h) _).push _
    have o1 := Own.fresh (B := h.next) (h := h.push (.cells [.int .i64 0, .int .i64 0] false)) (es := 1) (n := 4) (l := by8 (be 4 l.length)) true (Nat.le_succ _) (by simp)
    refine w_count (n := l.length) (by rfl) (fun j σ ds g => ds = [] ∧ σ 41 = u ∧ σ 42 = .int .i64 (l.length : Int) ∧ Fr h g ∧ Own h.next g 1 (4 + 4 * j) (σ 8) (by8 (be 4 l.length ++ (l.take j).flatMap (be 4)))) (by omega) (by simp) ⟨rfl, by simp, by simp, f1, by simpa using o1⟩ (fun j σ ds g hJ => by simp [hJ.2.2.1]) ?_ ?_
    · rintro j σ ds g hj hi ⟨rfl, e41, e42, fr, ho⟩
      obtain ⟨x, hx⟩ := at_some (l := l) (j := j) hj
      obtain ⟨id, o, a1, a2, _⟩ := (hs.fr fr).get1 (k := .i64) (i := (j : Int)) rfl hj (x := .int .i64 (x : Int)) (by simp [nv, hx])
      have hx2 := hl2 x (List.mem_of_getElem? hx)
      have wx : wrapF .u64 (x : Int) = ((x : Nat) : Int) := wrap_u64 (by omega) (by omega)
      have cx := crc_Put x 4 (by omega) (by omega)
      rw [e4] at cx
      obtain ⟨ov, hov⟩ : ∃ ov, σ 8 = ov := ⟨_, rfl⟩
      rw [hov] at ho
      have fp := Fr.push (.refl g) (.cells (by8 (be 4 x)) false)
      have sx := (Own.fresh (B := 0) (h := g) (es := 1) (n := 4) (l := by8 (be 4 x)) true (Nat.zero_le _) (by simp)).sl
      have hnn := fr.next
      obtain ⟨v', g', e, o2, f, p, q⟩ := (ho.fr fp).append (bytes := 1) sx (by show h.next ≤ g.next + 1; omega) (by8_scalar _) (by omega) (by omega)
      simp [e41, e42, hi, hov, a1, a2, wx, cx, e]
      refine ⟨?_, ?_⟩
      · have hf := f.next
        have gn : (g.push (.cells (by8 (be 4 x)) false)).next = g.next + 1 := rfl
        exact ⟨by omega, fun i hi' => by rw [f.get i hi', get_push_old (by omega)]; exact fr.get i hi'⟩
      · have e5 : 4 + 4 * (j + 1) = 4 + 4 * j + 4 := by omega
        rw [e5, take_snoc _ _ _ hx, List.flatMap_append, ← List.append_assoc, by8_append]
        simpa using o2
    · rintro σ ds g ⟨rfl, e41, e42, fr, ho⟩
      rw [List.take_of_length_le (by omega)] at ho
      simp
      refine ⟨?_, fr⟩
      have e6 : (be 4 l.length ++ l.flatMap (be 4)).length = 4 + 4 * l.length := by rw [List.length_append, be_length, be_flat_len]
      simp only [itB, e6]
      exact ho

end Go.Dk

namespace Go.Dk
open Go Go.Dr
set_option maxRecDepth 100000

/-! ### how much there is -/

theorem canF_mem : ∀ (l : List Ep) (pos : Int) (prev : Option Ep), canFE pos prev l = true → ∀ x ∈ l, canL x.ls = true ∧ 1 ≤ x.sz ∧ x.sz ≤ 2147483647
  | [], _, _, _, x, hx => by cases hx
  | y :: l, pos, prev, h, x, hx => by
    simp only [canFE, Bool.and_eq_true] at h
    obtain ⟨⟨h1, h2⟩, h3⟩ := h
    rcases List.mem_cons.1 hx with rfl | hx
    · simp only [ok1, Bool.and_eq_true, decide_eq_true_eq] at h1
      exact ⟨h1.1.1.1.1, h1.1.1.2, h1.1.2⟩
    · exact canF_mem l _ _ h3 x hx

theorem valueOk_short {s : Txt} (h : valueOk s = true) : 1 ≤ s.length ∧ s.length ≤ 40 := by
  unfold valueOk at h
  simp only [Bool.and_eq_true, decide_eq_true_eq] at h
  exact h.1

theorem canFrom_mem : ∀ (l : List Lab) (last : Txt), canFrom last l = true → ∀ k ∈ l, k.1.length ≤ 24 ∧ k.2.length ≤ 40 ∧ k.1 ≠ [] ∧ k.2 ≠ [] ∧ Op.bytesLess last k.1 = true
  | [], _, _, k, hk => by cases hk
  | y :: l, last, h, k, hk => by
    simp only [canFrom, Bool.and_eq_true] at h
    obtain ⟨h1, h2, h3, h4⟩ := h
    rcases List.mem_cons.1 hk with rfl | hk
    · refine ⟨nameOk_short h1, (valueOk_short h2).2, fun e => ?_, fun e => ?_, h3⟩
      · rw [e] at h1; simp [nameOk] at h1
      · have := (valueOk_short h2).1; rw [e] at this; simp at this
    · obtain ⟨a, b, c, d, e⟩ := canFrom_mem l y.1 h4 k hk
      exact ⟨a, b, c, d, less_trans h3 e⟩

theorem canFrom_asc : ∀ (l : List Lab) (last : Txt), canFrom last l = true → l.Pairwise fun a b => Op.bytesLess a.1 b.1 = true
  | [], _, _ => .nil
  | y :: l, last, h => by
    simp only [canFrom, Bool.and_eq_true] at h
    obtain ⟨h1, h2, h3, h4⟩ := h
    refine List.pairwise_cons.2 ⟨fun b hb => ?_, canFrom_asc l y.1 h4⟩
    obtain ⟨_, _, _, _, e⟩ := canFrom_mem l y.1 h4 b hb
    exact e

theorem canL_mem {l : List Lab} (h : canL l = true) : l.length ≤ 8 ∧ ∀ k ∈ l, k.1.length ≤ 24 ∧ k.2.length ≤ 40 ∧ k.1 ≠ [] ∧ k.2 ≠ [] := by
  simp only [canL, Bool.and_eq_true, decide_eq_true_eq] at h
  exact ⟨h.1.2, fun k hk => by
    obtain ⟨a, b, c, d, _⟩ := canFrom_mem l [] h.2 k hk
    exact ⟨a, b, c, d⟩⟩
theorem canL_parted {l : List Lab} (h : canL l = true) : Parted l := by
  simp only [canL, Bool.and_eq_true, decide_eq_true_eq] at h
  unfold Parted
  refine List.pairwise_map.2 ((canFrom_asc l [] h.2).imp fun {a b} hab e => ?_)
  rw [e, less_irrefl] at hab
  cases hab

theorem canE_mem {l : List Ep} (h : canE l = true) : ∀ x ∈ l, canL x.ls = true ∧ 1 ≤ x.sz ∧ x.sz ≤ 2147483647 := by
  simp only [canE, Bool.and_eq_true] at h
  exact canF_mem l 0 none h.1
theorem canE_ls8 {l : List Ep} (h : canE l = true) : ∀ x ∈ l, x.ls.length ≤ 8 := fun x hx => (canL_mem (canE_mem h x hx).1).1

theorem evE_mem (T : List Txt) : ∀ (l : List Ep) (i : Nat) (e : (Nat × Nat) × Nat), e ∈ evE T i l → i ≤ e.2 ∧ e.2 < i + l.length
  | [], _, _, h => by cases h
  | x :: l, i, e, h => by
    rcases List.mem_append.1 h with h | h
    · obtain ⟨k, _, rfl⟩ := List.mem_map.1 h
      simp only [List.length_cons]; omega
    · have := evE_mem T l (i + 1) e h
      simp only [List.length_cons]; omega

theorem evE_len (T : List Txt) : ∀ (l : List Ep) (i : Nat), (∀ x ∈ l, x.ls.length ≤ 8) → (evE T i l).length ≤ 8 * l.length
  | [], _, _ => by simp [evE]
  | x :: l, i, h => by
    have h1 := evE_len T l (i + 1) (fun y hy => h y (List.mem_cons_of_mem _ hy))
    have h2 := h x List.mem_cons_self
    simp only [evE, evL, List.length_append, List.length_map, List.length_cons]
    omega

theorem mm_at (l : List Ep) (h8 : ∀ x ∈ l, x.ls.length ≤ 8) (p : Nat × Nat) : (atK (mmOf l) p).length ≤ 8 * l.length ∧ ∀ x ∈ atK (mmOf l) p, x < l.length := by
  unfold mmOf
  rw [gath_at]
  constructor
  · rw [List.length_map]
    exact Nat.le_trans (List.length_filter_le _ _) (evE_len _ l 0 h8)
  · intro x hx
    obtain ⟨e, he, rfl⟩ := List.mem_map.1 hx
    have := evE_mem _ l 0 e (List.mem_filter.1 he).1
    omega

theorem mm_keys (l : List Ep) (h8 : ∀ x ∈ l, x.ls.length ≤ 8) : ((mmOf l).map (·.1)).length ≤ 8 * l.length := by
  rw [List.length_map]
  have h1 : ∀ (m : List ((Nat × Nat) × List Nat)) (e : (Nat × Nat) × Nat), (addP m e).length ≤ m.length + 1 := by
    intro m e
    induction m with
    | nil => simp [addP]
    | cons x m ih => unfold addP; split <;> simp; omega
  have h2 : ∀ (evs : List ((Nat × Nat) × Nat)) (m : List ((Nat × Nat) × List Nat)), (evs.foldl addP m).length ≤ m.length + evs.length := by
    intro evs
    induction evs with
    | nil => intro m; simp
    | cons e evs ih =>
      intro m
      have := ih (addP m e)
      have := h1 m e
      simp only [List.foldl_cons, List.length_cons]
      omega
  have := h2 (evE (Tof l) 0 l) []
  have := evE_len (Tof l) l 0 h8
  unfold mmOf gath
  simp at *
  omega

theorem itE_len (T : List Txt) (x : Ep) (h : x.ls.length ≤ 8) : (itE T x).length ≤ 20 := by
  have : ∀ l : List Lab, (l.flatMap fun k => [It.w (pl T k.1 : Int) 4, .w (pl T k.2 : Int) 4]).length = 2 * l.length := by
    intro l
    induction l with
    | nil => rfl
    | cons y l ih => rw [List.flatMap_cons, List.length_append, ih]; simp; omega
  simp only [itE, List.cons_append, List.length_cons, List.length_append, this, List.length_nil]
  omega

theorem flat_le {α β : Type} (f : α → List β) (M : Nat) : ∀ l : List α, (∀ x ∈ l, (f x).length ≤ M) → (l.flatMap f).length ≤ l.length * M
  | [], _ => by simp
  | x :: l, h => by
    rw [List.flatMap_cons, List.length_append, List.length_cons, Nat.add_mul]
    have h1 := h x List.mem_cons_self
    have h2 := flat_le f M l (fun y hy => h y (List.mem_cons_of_mem _ hy))
    omega

theorem items_len (l : List Ep) (hn : l.length ≤ 10000) (h8 : ∀ x ∈ l, x.ls.length ≤ 8) : (itemsOf l).length ≤ 700000 := by
  have h1 := Tof_len l h8
  have h2 := flat_le (itE (Tof l)) 20 l (fun x hx => itE_len _ x (h8 x hx))
  have h3 : ∀ S : List (Nat × Nat), (itP (mmOf l) S).length = 3 * S.length := by
    intro S
    unfold itP
    induction S with
    | nil => rfl
    | cons y S ih => rw [List.flatMap_cons, List.length_append, ih]; simp; omega
  have h4 := mm_keys l h8
  simp only [itemsOf, List.length_append, List.length_map, List.length_singleton, h3, srtP_len]
  rw [List.length_map] at h4
  omega

theorem item_ok {l : List Ep} (hn : l.length ≤ 10000) (hc : canE l = true) : ∀ it ∈ itemsOf l, itOk it ∧ (itB it).length ≤ 400000 := by
  have h8 := canE_ls8 hc
  have w : ∀ (n : Int) (k : Nat), k ≤ 8 → itOk (.w n k) ∧ (itB (.w n k)).length ≤ 400000 := fun n k hk => ⟨hk, by simp only [itB, be_length]; omega⟩
  intro it hit
  simp only [itemsOf, List.mem_append, List.mem_singleton, List.mem_map, List.mem_flatMap] at hit
  rcases hit with (((rfl | ⟨s, hs, rfl⟩) | rfl) | ⟨x, hx, hit⟩) | hit
  · exact w _ _ (by omega)
  · obtain ⟨y, hy, k, hk, hsk⟩ := (Tof_mem l s).1 hs
    obtain ⟨x, hx, rfl⟩ := List.mem_map.1 hy
    obtain ⟨a, b, _⟩ := (canL_mem (canE_mem hc x hx).1).2 k hk
    have : s.length ≤ 40 := by rcases hsk with rfl | rfl <;> omega
    exact ⟨by simp only [itOk]; omega, by simp only [itB, bT, List.length_cons, List.length_map]; omega⟩
  · exact w _ _ (by omega)
  · simp only [itE, List.cons_append, List.mem_cons, List.mem_append, List.mem_flatMap, List.not_mem_nil, or_false] at hit
    rcases hit with rfl | ⟨k, _, rfl | rfl⟩ | rfl | rfl | rfl <;> exact w _ _ (by omega)
  · unfold itP at hit
    obtain ⟨p, _, hit⟩ := List.mem_flatMap.1 hit
    simp only [List.mem_cons, List.not_mem_nil, or_false] at hit
    rcases hit with rfl | rfl | rfl
    · exact w _ _ (by omega)
    · exact w _ _ (by omega)
    · obtain ⟨a, b⟩ := mm_at l h8 p
      refine ⟨⟨by omega, fun x hx => by have := b x hx; omega⟩, ?_⟩
      simp only [itB, List.length_append, be_length, be_flat_len]
      omega

/-- the bytes of an index -/
def bytesI (l : List Ep) : List Nat := (itemsOf l).flatMap itB
theorem bytesI_len {l : List Ep} (hn : l.length ≤ 10000) (hc : canE l = true) : (bytesI l).length ≤ 2 ^ 39 := by
  have h1 := items_len l hn (canE_ls8 hc)
  have h2 := flat_le itB 400000 (itemsOf l) (fun x hx => (item_ok hn hc x hx).2)
  unfold bytesI
  omega

/-! ### index.Encode -/

/-- what Encode answers -/
def EncIK (h : AH) (l : List Ep) (r : AV) (g : AH) : Prop :=
  if canE l = true then ∃ u, r = .tuple [u, .int .i64 0] ∧ Sl g 1 (bytesI l).length u (by8 (bytesI l)) ∧ Fr h g else r = .tuple [.nils, .int .i64 1] ∧ Fr h g

theorem index_Encode {h : AH} {n : Nat} {v : AV} {xs : List (AV × Ep)} (s : Sl h 5 n v (xs.flatMap enC)) (hn : n ≤ 10000) (he : ∀ x ∈ xs, EnOk h x ∧ Short x.2.ls ∧ x.2.ls.length < 2 ^ 62) :
    Ev P SI (.fn f_index_Encode) [v] h (EncIK h (xs.map (·.2))) := by
  refine ev_fn k_index_Encode rfl rfl ?_
  have hl : xs.length = n := by have := s.1; rw [en_len] at this; omega
  simp only [c_index_Encode, wpC_seq]
  simp
  refine (index_Can s (by omega) he).mono ?_
  rintro r g ⟨rfl, f1⟩
  cases hc : canE (xs.map (·.2)) with
  | false =>
    simp [EncIK, hc]
    exact f1
  | true =>
    have hll : (xs.map (·.2)).length ≤ 10000 := by rw [List.length_map]; omega
    have h8 := canE_ls8 hc
    simp
    refine (index_items (s.fr f1) (by omega) (fun x hx => ⟨(he x hx).1.fr f1, h8 x.2 (List.mem_map.2 ⟨x, hx, rfl⟩)⟩)).mono ?_
    rintro r g2 ⟨os, ho, f2, hok⟩
    generalize hits : itemsOf (xs.map (·.2)) = its at hok
    have hits2 : ∀ it ∈ its, itOk it ∧ (itB it).length ≤ 400000 := by rw [← hits]; exact item_ok hll hc
    have hnum : its.length ≤ 700000 := by rw [← hits]; exact items_len _ hll h8
    have hB : bytesI (xs.map (·.2)) = its.flatMap itB := by rw [bytesI, hits]
    have hBl := bytesI_len hll hc
    have osl := ho.sl.len
    have hlen : os.length = its.length := hok.1
    have pre : ∀ j, (((its.take j).flatMap itB).length) ≤ 2 ^ 39 := fun j => by
      have : (its.take j).flatMap itB <+: its.flatMap itB := by
        conv => rhs; rw [← List.take_append_drop j its]
        rw [List.flatMap_append]
        exact List.prefix_append _ _
      have := this.length_le
      rw [hB] at hBl
      omega
    simp [osl, -List.length_flatMap]
    refine w_count (n := os.length) (by rfl) (fun j σ ds g => ds = [] ∧ σ 4 = r ∧ σ 16 = r ∧ σ 17 = .int .i64 (os.length : Int) ∧ σ 5 = .int .i64 (((its.take j).flatMap itB).length : Int) ∧ Fr g2 g) (by omega) (by simp) ⟨rfl, by simp, by simp, by simp, by simp, .refl _⟩ (fun j σ ds g hJ => by simp [hJ.2.2.2.1]) ?_ ?_
    · rintro j σ ds g hj hi ⟨rfl, e4, e16, e17, e5, fr⟩
      obtain ⟨ov, hov⟩ := at_some (l := os) (j := j) hj
      obtain ⟨it, hit⟩ := at_some (l := its) (j := j) (by omega)
      have okv := OkI.fr fr (hok.2 j ov it hov hit)
      obtain ⟨id, o, a1, a2, _⟩ := (ho.sl.fr fr).get1 (k := .i64) (i := (j : Int)) rfl hj (x := ov) (by simpa using hov)
      obtain ⟨f, a, e1, e2⟩ := it_size okv (hits2 it (List.mem_of_getElem? hit)).1
      simp [e16, hi, a1, a2, e1, -List.length_flatMap]
      refine e2.mono ?_
      rintro r' g' ⟨rfl, f'⟩
      have p1 := pre j
      have p2 := pre (j + 1)
      have hsum : ((its.take (j + 1)).flatMap itB).length = ((its.take j).flatMap itB).length + (itB it).length := by
        rw [take_snoc _ _ _ hit, List.flatMap_append, List.length_append]; simp
      have w : wrapF .i64 ((((its.take j).flatMap itB).length : Int) + ((itB it).length : Int)) = (((its.take (j + 1)).flatMap itB).length : Int) := by
        rw [hsum, wrap_i64 (by omega) (by omega)]; omega
      obtain ⟨q1, hq1⟩ : ∃ q, ((its.take j).flatMap itB).length = q := ⟨_, rfl⟩
      obtain ⟨q2, hq2⟩ : ∃ q, ((its.take (j + 1)).flatMap itB).length = q := ⟨_, rfl⟩
      rw [hq1] at w e5
      rw [hq2] at w
      simp [e4, e5, e16, e17, hi, w, hq2, -List.length_flatMap]
      exact fr.trans f'
    · rintro σ ds g ⟨rfl, e4, e16, e17, e5, fr⟩
      rw [List.take_of_length_le (by omega), ← hB] at e5
      obtain ⟨g3, mk, bf, f3⟩ := Buf.make (B := h.next) (h := g) (cap := (bytesI (xs.map (·.2))).length) (by have := f1.next; have := f2.next; have := fr.next; omega) .i64 (by omega)
      obtain ⟨cap, hcap⟩ : ∃ q, (bytesI (xs.map (·.2))).length = q := ⟨_, rfl⟩
      rw [hcap] at mk bf e5
      simp [e4, e5, mk, osl, -List.length_flatMap]
      refine w_count (n := os.length) (by rfl) (fun j σ ds g' => ds = [] ∧ σ 29 = r ∧ σ 30 = .int .i64 (os.length : Int) ∧ FrB h.next g3 g' ∧ Fr h g' ∧ Buf h.next g' (((its.take j).flatMap itB).length) cap (σ 8) (by8 ((its.take j).flatMap itB)) ∧ idOf (σ 8) = some g.next ∧ (∀ i, i < g.next → g'.get i = g.get i)) (by omega) (by simp)
        ⟨rfl, by simp, by simp, .refl _ _, ((f1.trans f2).trans fr).trans f3, by simpa [by8] using bf, by simp [idOf], fun i hi => f3.get i hi⟩ (fun j σ ds g hJ => by simp [hJ.2.2.1]) ?_ ?_
      · rintro j σ' ds g' hj hi ⟨rfl, e29, e30, fb, fh, bfj, hid, hst⟩
        obtain ⟨ov, hov⟩ := at_some (l := os) (j := j) hj
        obtain ⟨it, hit⟩ := at_some (l := its) (j := j) (by omega)
        have fr' : Fr g g' := ⟨by have := f3.next; have := fb.next; omega, hst⟩
        have okv := OkI.fr (fr.trans fr') (hok.2 j ov it hov hit)
        obtain ⟨id, o, a1, a2, _⟩ := (ho.sl.fr (fr.trans fr')).get1 (k := .i64) (i := (j : Int)) rfl hj (x := ov) (by simpa using hov)
        obtain ⟨bv, hbv⟩ : ∃ bv, σ' 8 = bv := ⟨_, rfl⟩
        rw [hbv] at bfj hid
        simp [e29, hi, a1, a2, -List.length_flatMap]
        refine (index_bytesOf okv (hits2 it (List.mem_of_getElem? hit)).1).mono ?_
        rintro r' g4 ⟨ho4, f4⟩
        have hsum : ((its.take (j + 1)).flatMap itB).length = ((its.take j).flatMap itB).length + (itB it).length := by
          rw [take_snoc _ _ _ hit, List.flatMap_append, List.length_append]; simp
        have hle : ((its.take (j + 1)).flatMap itB).length ≤ cap := by
          have : (its.take (j + 1)).flatMap itB <+: its.flatMap itB := by
            conv => rhs; rw [← List.take_append_drop (j + 1) its]
            rw [List.flatMap_append]
            exact List.prefix_append _ _
          have := this.length_le
          rw [← hB, hcap] at this
          exact this
        obtain ⟨bv', g5, b1, b2, b3, b4, b5, b6⟩ := (bfj.fr f4).append (x := r') ho4.sl.cells (by simp) (by8_scalar _) (by omega)
        simp [hbv, b1, e29, e30, hi, -List.length_flatMap]
        refine ⟨?_, ?_, ?_, b5.trans hid, fun i hi' => ?_⟩
        · exact fb.trans ((f4.b (by have := fh.next; omega)).trans b3)
        · exact ⟨by have := fh.next; have := f4.next; omega, fun i hi' => by rw [b3.get i hi', f4.get i (by have := fh.next; omega)]; exact fh.get i hi'⟩
        · rw [hsum, take_snoc _ _ _ hit, List.flatMap_append, by8_append]
          rw [show [it].flatMap itB = itB it by simp]; exact b2
        · rw [b6 i (by rw [hid]; intro e; cases e; omega), f4.get i (by have := fr'.next; omega)]
          exact hst i hi'
      · rintro σ' ds g' ⟨rfl, e29, e30, fb, fh, bfj, hid, hst⟩
        rw [List.take_of_length_le (by omega), ← hB] at bfj
        simp [EncIK, hc]
        exact ⟨bfj.sl, fh⟩

end Go.Dk

namespace Go.Dk
open Go Go.Dr
set_option maxRecDepth 100000

/-! ### the document's answer: small things -/

theorem ref13_four (z : Int) (h : AH) (K : AV → AH → Prop) : Ev P SI (.fn f_ref13_four) [.int .i64 z] h K = K (.slice h.next 0 4 4 true 1) (h.push (.cells (by8 (be 4 (n64 z))) false)) := by
  refine Ev.eq (ev_fn k_ref13_four rfl rfl ?_) K
  have cp := ref01_Put (n64 z) 4 (n64_lt z) (by omega)
  rw [show ((4 : Nat) : Int) = 4 from rfl] at cp
  simp [c_ref13_four, wrap_n64, cp]
theorem ref10_Big (z : Int) (h : AH) (K : AV → AH → Prop) : Ev P SI (.fn f_ref10_Big) [.int .i64 z] h K = K (.slice h.next 0 8 8 true 1) (h.push (.cells (by8 (be 8 (n64 z))) false)) := by
  refine Ev.eq (ev_fn k_ref10_Big rfl rfl ?_) K
  have cp := ref01_Put (n64 z) 8 (n64_lt z) (by omega)
  rw [show ((8 : Nat) : Int) = 8 from rfl] at cp
  simp [c_ref10_Big, wrap_n64, cp]

theorem ref13_place {h : AH} {n : Nat} {v : AV} {T : List Txt} {s : Txt} (hv : Sl h 1 n v (tx T)) (hn : n ≤ 2 ^ 40) (hs : s ∈ T) (K : AV → AH → Prop) : Ev P SI (.fn f_ref13_place) [v, .str s] h K = K (.int .i64 (pl T s : Int)) h := by
  refine Ev.eq (ev_fn k_ref13_place rfl rfl ?_) K
  have hl : T.length = n := by have := hv.1; simpa [tx] using this
  have hp := pl_lt hs
  simp [c_ref13_place, hv.len]
  refine w_count (n := n) (by rfl) (fun j σ ds g => ds = [] ∧ σ 1 = .str s ∧ σ 7 = v ∧ σ 8 = .int .i64 (n : Int) ∧ g = h ∧ j ≤ pl T s) (by omega) (by simp) (by simp) (fun j σ ds g hJ => by simp [hJ.2.2.2.1]) ?_ ?_
  · rintro j σ ds g hj hi ⟨rfl, e1, e7, e8, rfl, hle⟩
    obtain ⟨x, hx⟩ := at_some (l := T) (j := j) (by omega)
    obtain ⟨id, o, a1, a2, _⟩ := hv.get1 (k := .i64) (i := (j : Int)) rfl hj (x := .str x) (by simp [tx, hx])
    by_cases he : x = s
    · subst he
      have : pl T x = j := by
        by_cases hlt : j < pl T x
        · exfalso
          have := List.not_of_lt_findIdx (p := fun y => y == x) (xs := T) (i := j) (by simpa [pl, List.idxOf] using hlt)
          simp [List.getElem?_eq_some_iff.1 hx |>.2] at this
        · omega
      simp [e1, e7, e8, hi, a1, a2, this]
    · have hne : j ≠ pl T s := fun e => he (by have := pl_get hs; rw [← e, hx] at this; exact Option.some.inj this)
      simp [e1, e7, e8, hi, a1, a2, he]
      omega
  · rintro σ ds g ⟨rfl, e1, e7, e8, rfl, hle⟩
    omega

/-- a label's value, or nothing -/
def getL : List Lab → Txt → Txt
  | [], _ => []
  | k :: l, n => if k.1 = n then k.2 else getL l n
theorem getL_drop : ∀ (l : List Lab) (j : Nat) (n : Txt), (∀ i x, i < j → l[i]? = some x → x.1 ≠ n) → getL l n = getL (l.drop j) n
  | l, 0, n, _ => rfl
  | [], j + 1, n, _ => by simp
  | k :: l, j + 1, n, h => by
    have h0 := h 0 k (by omega) rfl
    rw [getL, if_neg h0, List.drop_succ_cons]
    exact getL_drop l j n (fun i x hi hx => h (i + 1) x (by omega) (by simpa using hx))

theorem ref07_Get {h : AH} {n : Nat} {v : AV} {l : List Lab} {s : Txt} (hv : Sl h 2 n v (l.flatMap labC)) (hn : n ≤ 2 ^ 40) : Ev P SI (.fn f_ref07_Get) [v, .str s] h fun r g => r = .str (getL l s) ∧ Fr h g := by
  refine ev_fn k_ref07_Get rfl rfl ?_
  have hl := lab_len hv
  simp [c_ref07_Get, hv.len]
  refine w_count (n := n) (by rfl) (fun j σ ds g => ds = [] ∧ σ 1 = .str s ∧ σ 7 = v ∧ σ 8 = .int .i64 (n : Int) ∧ Fr h g ∧ ∀ i x, i < j → l[i]? = some x → x.1 ≠ s) (by omega) (by simp) ⟨rfl, by simp, by simp, by simp, .refl _, fun i x hi => by omega⟩ (fun j σ ds g hJ => by simp [hJ.2.2.2.1]) ?_ ?_
  · rintro j σ ds g hj hi ⟨rfl, e1, e7, e8, fr, hne⟩
    obtain ⟨⟨nm, vl⟩, hx⟩ := at_some (l := l) (j := j) (by omega)
    obtain ⟨i1, o1, a1, a2, _⟩ := lab_at (hv.fr fr) (k := .i64) (i := (j : Int)) rfl hx
    have stn := opStore_new (h := g) (n := 2) (z := [.str [], .str []]) (l := [.str nm, .str vl]) rfl rfl rfl
    have fp := Fr.push fr (.cells [.str nm, .str vl] false)
    have ge : (g.push (.cells [.str nm, .str vl] false)).get g.next = some (.cells [.str nm, .str vl] false) := get_push_new _
    have m0 : load1 (g.push (.cells [.str nm, .str vl] false)) g.next 0 = .ok (.str nm) := load1_of ge
    have m1 : load1 (g.push (.cells [.str nm, .str vl] false)) g.next 1 = .ok (.str vl) := load1_of ge
    by_cases he : nm = s
    · subst he
      have : getL l nm = vl := by
        rw [getL_drop l j nm hne, drop_at hx, getL, if_pos rfl]
      simp [e1, e7, e8, hi, a1, a2, opLoadN, stn, m0, m1, this]
      exact fp
    · simp [e1, e7, e8, hi, a1, a2, opLoadN, stn, m0, m1, he]
      refine ⟨fp, fun i a b hi' hx' => ?_⟩
      by_cases hij : i = j
      · subst hij; rw [hx] at hx'; cases hx'; exact he
      · exact hne i (a, b) (by omega) hx'
  · rintro σ ds g ⟨rfl, e1, e7, e8, fr, hne⟩
    have : getL l s = [] := by rw [getL_drop l n s hne, List.drop_of_length_le (by omega)]; rfl
    simp [this]
    exact fr

theorem asc_insert {α : Type} {lt : α → α → Prop} (ht : ∀ a b c, lt a b → lt b c → lt a c) {l : List α} {q : Nat} {s : α} (h : l.Pairwise lt) (h1 : ∀ x ∈ l.take q, lt x s) (h2 : ∀ x ∈ l.drop q, lt s x) : (l.take q ++ [s] ++ l.drop q).Pairwise lt := by
  rw [List.append_assoc, List.pairwise_append]
  refine ⟨h.sublist (List.take_sublist _ _), ?_, fun a ha b hb => ?_⟩
  · rw [List.singleton_append, List.pairwise_cons]
    exact ⟨h2, h.sublist (List.drop_sublist _ _)⟩
  · rw [List.singleton_append] at hb
    rcases List.mem_cons.1 hb with rfl | hb
    · exact h1 a ha
    · exact ht _ _ _ (h1 a ha) (h2 b hb)

theorem tx_scalar : ∀ (l : List Txt), allScalar (tx l) = true
  | [] => rfl
  | x :: l => by
    show (AV.scalar (.str x) && allScalar (tx l)) = true
    rw [tx_scalar l]; rfl
theorem tx_append (a b : List Txt) : tx (a ++ b) = tx a ++ tx b := by simp [tx]

/-- what 'with' answers -/
def WithK (h : AH) (n : Nat) (l : List Txt) (s : Txt) (r : AV) (g : AH) : Prop := ∃ l' n', Sl g 1 n' r (tx l') ∧ AscT l' ∧ (∀ x, x ∈ l' ↔ x ∈ l ∨ x = s) ∧ Fr h g ∧ n' ≤ n + 1

theorem ref13_with {h : AH} {n : Nat} {v : AV} {l : List Txt} {s : Txt} (hv : Sl h 1 n v (tx l)) (hA : AscT l) (hn : n ≤ 2 ^ 30) : Ev P SI (.fn f_ref13_with) [v, .str s] h (WithK h n l s) := by
  refine ev_fn k_ref13_with rfl rfl ?_
  have hl : l.length = n := by have := hv.1; simpa [tx] using this
  simp [c_ref13_with, hv.len]
  refine w_loop (fun q σ ds g => q ≤ n ∧ ds = [] ∧ σ 0 = v ∧ σ 1 = .str s ∧ σ 5 = .int .i64 (q : Int) ∧ g = h ∧ ∀ i y, q ≤ i → l[i]? = some y → Op.bytesLess y s = false) n ⟨Nat.le_refl _, rfl, by simp, by simp, by simp, rfl, fun i y hi hy => by have := (List.getElem?_eq_some_iff.1 hy).1; omega⟩ ?_
  rintro q σ ds g ⟨hq, rfl, e0, e1, e5, rfl, hge⟩
  obtain ⟨a, b, v1, g1, v2, g2, v3, g3, f1, f2, f3, f4, f5, f6, f7⟩ := ins3 (x := [.str s]) (bytes := 16) hv hq rfl (by rw [show tx l ++ [AV.str s] = tx (l ++ [s]) from by rw [tx_append]; rfl]; exact tx_scalar _) (by omega) (by omega) .i64 .i64
  -- where the loop ends
  have fin : (∀ i y, i < q → l[i]? = some y → Op.bytesLess y s = true) → (∀ y, l[q]? = some y → y ≠ s) → WithK g n l s v3 g3 := by
    intro hlt hne
    refine ⟨l.take q ++ [s] ++ l.drop q, n + 1, ?_, ?_, fun x => ?_, f7, Nat.le_refl _⟩
    · have := f6.sl
      rw [Nat.mul_one] at this
      rw [tx_append, tx_append]
      simpa [tx] using this
    · refine asc_insert ltT_trans hA (fun x hx => ?_) (fun x hx => ?_)
      · obtain ⟨i, hi1, hi2⟩ := List.mem_iff_getElem.1 hx
        rw [List.getElem_take] at hi2
        rw [List.length_take] at hi1
        exact hlt i x (by omega) (by rw [List.getElem?_eq_getElem (by omega), hi2])
      · obtain ⟨i, hi1, hi2⟩ := List.mem_iff_getElem.1 hx
        rw [List.getElem_drop] at hi2
        rw [List.length_drop] at hi1
        have hgx : l[q + i]? = some x := by rw [List.getElem?_eq_getElem (by omega), hi2]
        have hql : q < l.length := by omega
        obtain ⟨y, hy⟩ := at_some (l := l) (j := q) hql
        have h1 := hge q y (Nat.le_refl _) hy
        have h2 := hne y hy
        have h3 : ltT s y := by
          rcases less_tri y s with h | h | h
          · rw [h] at h1; cases h1
          · exact absurd h h2
          · exact h
        by_cases hi0 : i = 0
        · subst hi0; rw [Nat.add_zero, hy] at hgx; cases hgx; exact h3
        · have h4 : ltT y x := by
            have := List.pairwise_iff_getElem.1 hA q (q + i) hql (by omega) (by omega)
            rw [List.getElem?_eq_some_iff.1 hy |>.2, hi2] at this
            exact this
          exact ltT_trans _ _ _ h3 h4
    · have : x ∈ l ↔ x ∈ l.take q ∨ x ∈ l.drop q := by rw [← List.mem_append, List.take_append_drop]
      rw [this]; simp only [List.mem_append, List.mem_singleton]
      constructor
      · rintro ((a | a) | a)
        · exact .inl (.inl a)
        · exact .inr a
        · exact .inl (.inr a)
      · rintro ((a | a) | a)
        · exact .inl (.inl a)
        · exact .inr a
        · exact .inl (.inr a)
  have same : (∀ y, l[q]? = some y → y = s) → q < n → WithK g n l s v g := by
    intro he hqn
    obtain ⟨y, hy⟩ := at_some (l := l) (j := q) (by omega)
    have := he y hy
    subst this
    refine ⟨l, n, hv, hA, fun x => ?_, .refl _, Nat.le_succ _⟩
    constructor
    · exact .inl
    · rintro (h | rfl)
      · exact h
      · exact List.mem_of_getElem? hy
  -- behind the loop
  have after : ∀ σ' : Sg, σ' 0 = v → σ' 1 = .str s → σ' 5 = .int .i64 (q : Int) → (∀ i y, i < q → l[i]? = some y → Op.bytesLess y s = true) → True := fun _ _ _ _ _ => trivial
  by_cases hqn : q < n
  · obtain ⟨y, hy⟩ := at_some (l := l) (j := q) (by omega)
    obtain ⟨id, o, x1, x2, _⟩ := hv.get1 (k := .i64) (i := (q : Int)) rfl hqn (x := .str y) (by simp [tx, hy])
    cases q with
    | zero =>
      rw [show ((0 : Nat) : Int) = 0 from rfl] at f1 f2 x1 e5
      have hn0 : (0 : Int) < (n : Int) := by omega
      by_cases hys : y = s
      · subst hys
        simp [e0, e1, e5, hv.len, hqn, x1, x2]
        exact same (fun z hz => by rw [hy] at hz; cases hz; rfl) hqn
      · simp [e0, e1, e5, hv.len, hqn, x1, x2, hys, f1, f2, splice_eq, f3, f4, f5]
        exact fin (fun i y hi => by omega) (fun z hz => by rw [hy] at hz; cases hz; exact hys)
    | succ q =>
      obtain ⟨z, hz⟩ := at_some (l := l) (j := q) (by omega)
      obtain ⟨id2, o2, y1, y2, _⟩ := hv.get1 (k := .i64) (i := (q : Int)) rfl (by omega) (x := .str z) (by simp [tx, hz])
      have w0 : wrapF .i64 (q : Int) = (q : Int) := wrap_i64 (by omega) (by omega)
      have c0 : (0 : Int) < (q : Int) + 1 := by omega
      push_cast at f1 f2 x1 e5
      have c1 : (q : Int) + 1 < (n : Int) := by omega
      cases hc : Op.bytesLess z s with
      | false =>
        simp [e0, e1, e5, c0, w0, y1, y2, hc, Kloop_normal]
        refine ⟨q, by omega, by omega, rfl, fun i y' hi hy' => ?_⟩
        by_cases e : i = q
        · subst e; rw [hz] at hy'; cases hy'; exact hc
        · exact hge i y' (by omega) hy'
      | true =>
        have hlt : ∀ i y, i < q + 1 → l[i]? = some y → Op.bytesLess y s = true := fun i y' hi hy' => by
          by_cases e : i = q
          · subst e; rw [hz] at hy'; cases hy'; exact hc
          · have hil := (List.getElem?_eq_some_iff.1 hy').1
            have := List.pairwise_iff_getElem.1 hA i q hil (by omega) (by omega)
            rw [List.getElem?_eq_some_iff.1 hy' |>.2, List.getElem?_eq_some_iff.1 hz |>.2] at this
            exact less_trans this hc
        by_cases hys : y = s
        · subst hys
          simp [e0, e1, e5, c0, w0, y1, y2, hc, hv.len, c1, x1, x2]
          exact same (fun z hz => by rw [hy] at hz; cases hz; rfl) hqn
        · simp [e0, e1, e5, c0, w0, y1, y2, hc, hv.len, c1, x1, x2, hys, f1, f2, splice_eq, f3, f4, f5]
          exact fin hlt (fun z hz => by rw [hy] at hz; cases hz; exact hys)
  · have hqe : q = n := by omega
    subst hqe
    have hnone : ∀ y, l[q]? = some y → y ≠ s := fun y hy => by have := (List.getElem?_eq_some_iff.1 hy).1; omega
    cases q with
    | zero =>
      rw [show ((0 : Nat) : Int) = 0 from rfl] at f1 f2 e5
      simp [e0, e1, e5, hv.len, f1, f2, splice_eq, f3, f4, f5]
      exact fin (fun i y hi => by omega) hnone
    | succ q =>
      obtain ⟨z, hz⟩ := at_some (l := l) (j := q) (by omega)
      obtain ⟨id2, o2, y1, y2, _⟩ := hv.get1 (k := .i64) (i := (q : Int)) rfl (by omega) (x := .str z) (by simp [tx, hz])
      have w0 : wrapF .i64 (q : Int) = (q : Int) := wrap_i64 (by omega) (by omega)
      have c0 : (0 : Int) < (q : Int) + 1 := by omega
      have hvl := hv.len
      push_cast at f1 f2 e5 hvl
      cases hc : Op.bytesLess z s with
      | false =>
        simp [e0, e1, e5, c0, w0, y1, y2, hc, Kloop_normal]
        refine ⟨q, by omega, by omega, rfl, fun i y' hi hy' => ?_⟩
        by_cases e : i = q
        · subst e; rw [hz] at hy'; cases hy'; exact hc
        · exact hge i y' (by omega) hy'
      | true =>
        have hlt : ∀ i y, i < q + 1 → l[i]? = some y → Op.bytesLess y s = true := fun i y' hi hy' => by
          by_cases e : i = q
          · subst e; rw [hz] at hy'; cases hy'; exact hc
          · have hil := (List.getElem?_eq_some_iff.1 hy').1
            have := List.pairwise_iff_getElem.1 hA i q hil (by omega) (by omega)
            rw [List.getElem?_eq_some_iff.1 hy' |>.2, List.getElem?_eq_some_iff.1 hz |>.2] at this
            exact less_trans this hc
        simp [e0, e1, e5, c0, w0, y1, y2, hc, hvl, f1, f2, splice_eq, f3, f4, f5]
        exact fin hlt hnone

end Go.Dk

namespace Go.Dk
open Go Go.Dr
set_option maxRecDepth 100000

/-! ### the document's answer: all texts, an entry -/

/-- a list of texts that rises, with just these -/
def TxK (h : AH) (m : Nat) (p : Txt → Prop) (v : AV) (g : AH) : Prop := ∃ l n, Sl g 1 n v (tx l) ∧ AscT l ∧ (∀ x, x ∈ l ↔ p x) ∧ Fr h g ∧ n ≤ m

def inTx (l : List (List Lab)) (x : Txt) : Prop := ∃ y ∈ l, ∃ k ∈ y, x = k.1 ∨ x = k.2
theorem inTx_nil (l : List (List Lab)) (x : Txt) : inTx (l ++ [[]]) x ↔ inTx l x := by
  unfold inTx
  constructor
  · rintro ⟨y, hy, k, hk, h⟩
    rcases List.mem_append.1 hy with hy | hy
    · exact ⟨y, hy, k, hk, h⟩
    · rw [List.mem_singleton.1 hy] at hk; cases hk
  · rintro ⟨y, hy, k, hk, h⟩
    exact ⟨y, List.mem_append_left _ hy, k, hk, h⟩
theorem inTx_step (l : List (List Lab)) (r : List Lab) (k : Lab) (x : Txt) : inTx (l ++ [r ++ [k]]) x ↔ (inTx (l ++ [r]) x ∨ x = k.1) ∨ x = k.2 := by
  unfold inTx
  constructor
  · rintro ⟨y, hy, k', hk, h⟩
    rcases List.mem_append.1 hy with hy | hy
    · exact .inl (.inl ⟨y, List.mem_append_left _ hy, k', hk, h⟩)
    · rw [List.mem_singleton.1 hy] at hk
      rcases List.mem_append.1 hk with hk | hk
      · exact .inl (.inl ⟨r, List.mem_append_right _ (List.mem_singleton.2 rfl), k', hk, h⟩)
      · rw [List.mem_singleton.1 hk] at h
        rcases h with h | h
        · exact .inl (.inr h)
        · exact .inr h
  · have hk : k ∈ r ++ [k] := List.mem_append_right _ (List.mem_singleton.2 rfl)
    have hr : r ++ [k] ∈ l ++ [r ++ [k]] := List.mem_append_right _ (List.mem_singleton.2 rfl)
    rintro ((⟨y, hy, k', hk', h⟩ | h) | h)
    · rcases List.mem_append.1 hy with hy | hy
      · exact ⟨y, List.mem_append_left _ hy, k', hk', h⟩
      · rw [List.mem_singleton.1 hy] at hk'
        exact ⟨_, hr, k', List.mem_append_left _ hk', h⟩
    · exact ⟨_, hr, k, hk, .inl h⟩
    · exact ⟨_, hr, k, hk, .inr h⟩

theorem ref13_texts {h : AH} {n : Nat} {v : AV} {xs : List (AV × Ep)} (s : Sl h 5 n v (xs.flatMap enC)) (hn : n ≤ 100000) (he : ∀ x ∈ xs, EnOk h x ∧ x.2.ls.length ≤ 8) :
    Ev P SI (.fn f_ref13_texts) [v] h fun r g => ∃ T k, Sl g 1 k r (tx T) ∧ IsT T (xs.map (·.2.ls)) ∧ Fr h g ∧ k ≤ 16 * n := by
  refine ev_fn k_ref13_texts rfl rfl ?_
  have hl : xs.length = n := by have := s.1; rw [en_len] at this; omega
  simp [c_ref13_texts, s.len]
  refine w_count (n := n) (by rfl) (fun j σ ds g => ds = [] ∧ σ 8 = v ∧ σ 9 = .int .i64 (n : Int) ∧ TxK h (16 * j) (inTx ((xs.take j).map (·.2.ls))) (σ 3) g) (by omega) (by simp)
    ⟨rfl, by simp, by simp, [], 0, by simpa [tx] using Sl.nil 1, .nil, fun x => by simp [inTx], .refl _, by omega⟩ (fun j σ ds g hJ => by simp [hJ.2.2.1]) ?_ ?_
  · rintro j σ ds g hj hi ⟨rfl, e8, e9, l0, n0, sl0, as0, mem0, fr, hn0⟩
    obtain ⟨x, hx⟩ := at_some (l := xs) (j := j) (by omega)
    obtain ⟨hok, hl8⟩ := he x (List.mem_of_getElem? hx)
    obtain ⟨id, o, a1, a2, _⟩ := en_at (s.fr fr) hx
    have okg := hok.fr fr
    have hlc := Sl.oneCell okg
    have stn := opStore_new (h := g) (n := 5) (z := [.nils, .int .i64 0, .int .i64 0, .int .i64 0, .int .i64 0]) (l := enC x) rfl rfl (by simp [enC, allScalar, hlc.2])
    have fp := Fr.push (.refl g) (.cells (enC x) false)
    have ge : (g.push (.cells (enC x) false)).get g.next = some (.cells (enC x) false) := get_push_new _
    generalize hg1 : g.push (.cells (enC x) false) = g1 at *
    have m0 : load1 g1 g.next 0 = .ok x.1 := load1_of ge
    have lv : opLenV x.1 = .ok (.int .i64 (x.2.ls.length : Int)) := (okg.fr fp).len
    have hll := lab_len hok
    obtain ⟨tv, htv⟩ : ∃ tv, σ 3 = tv := ⟨_, rfl⟩
    rw [htv] at sl0
    simp [e8, hi, a1, opLoadN, a2, stn, m0, lv]
    refine w_count (n := x.2.ls.length) (by rfl) (fun i σ' ds g' => ds = [] ∧ σ' 8 = v ∧ σ' 9 = .int .i64 (n : Int) ∧ σ' 10 = .int .i64 (j : Int) ∧ σ' 15 = x.1 ∧ σ' 16 = .int .i64 (x.2.ls.length : Int) ∧
        TxK h (16 * j + 2 * i) (inTx ((xs.take j).map (·.2.ls) ++ [x.2.ls.take i])) (σ' 3) g') (by omega) (by simp)
      ⟨rfl, by simp [e8], by simp [e9], by simp [hi], by simp, by simp, l0, n0, by simpa [htv] using sl0.fr fp, as0, fun y => by rw [mem0, List.take_zero, inTx_nil], fr.trans fp, by omega⟩ (fun j σ ds g hJ => by simp [hJ.2.2.2.2.2.1]) ?_ ?_
    · rintro i σ' ds g' hi' hii ⟨rfl, f8, f9, f10, f15, f16, l1, n1, sl1, as1, mem1, fr1, hn1⟩
      obtain ⟨⟨nm, vl⟩, hk⟩ := at_some (l := x.2.ls) (j := i) hi'
      obtain ⟨i1, o1, b1, b2, _⟩ := lab_at (hok.fr fr1) (k := .i64) (i := (i : Int)) rfl hk
      obtain ⟨tv1, htv1⟩ : ∃ tv, σ' 3 = tv := ⟨_, rfl⟩
      rw [htv1] at sl1
      have stn2 := opStore_new (h := g') (n := 2) (z := [.str [], .str []]) (l := [.str nm, .str vl]) rfl rfl rfl
      have fp2 := Fr.push (.refl g') (.cells [.str nm, .str vl] false)
      have ge2 : (g'.push (.cells [.str nm, .str vl] false)).get g'.next = some (.cells [.str nm, .str vl] false) := get_push_new _
      have gn2 : (g'.push (.cells [.str nm, .str vl] false)).next = g'.next + 1 := rfl
      generalize hg2 : g'.push (.cells [.str nm, .str vl] false) = g2 at *
      have q0 : load1 g2 g'.next 0 = .ok (.str nm) := load1_of ge2
      have q1 : load1 g2 g'.next 1 = .ok (.str vl) := load1_of ge2
      simp [f15, hii, b1, b2, opLoadN, stn2, q0, q1, htv1]
      refine (ref13_with (sl1.fr fp2) as1 (by omega)).mono ?_
      rintro r1 g3 ⟨l2, n2, sl2, as2, mem2, f3, hn2⟩
      have q2 : load1 g3 g'.next 1 = .ok (.str vl) := load1_of (id := g'.next) (vs := [.str nm, .str vl]) (ro := false) (by rw [f3.get _ (by omega)]; exact ge2)
      simp [q2]
      refine (ref13_with sl2 as2 (by omega)).mono ?_
      rintro r2 g4 ⟨l3, n3, sl3, as3, mem3, f4, hn3⟩
      simp [f8, f9, f10, f15, f16, hii]
      refine ⟨l3, n3, sl3, as3, fun y => ?_, ((fr1.trans fp2).trans f3).trans f4, by omega⟩
      rw [mem3, mem2, mem1, ← List.map_take, take_snoc _ _ _ hk, inTx_step]
    · rintro σ' ds g' ⟨rfl, f8, f9, f10, f15, f16, l1, n1, sl1, as1, mem1, fr1, hn1⟩
      rw [List.take_of_length_le (l := x.2.ls) (Nat.le_refl _)] at mem1
      simp [f8, f9, f10, hi]
      refine ⟨l1, n1, sl1, as1, fun y => ?_, fr1, by omega⟩
      rw [mem1, ← List.map_take, take_snoc _ _ _ hx, List.map_append]
      rfl
  · rintro σ ds g ⟨rfl, e8, e9, l0, n0, sl0, as0, mem0, fr, hn0⟩
    rw [List.take_of_length_le (by omega)] at mem0
    simp
    exact ⟨l0, n0, sl0, ⟨as0, mem0⟩, fr, hn0⟩

end Go.Dk

namespace Go.Dk
open Go Go.Dr
set_option maxRecDepth 100000

/-- bytes just made, put behind ours -/
theorem app_put {B n k : Nat} {g : AH} {v : AV} {l bs : List Nat} (o : Own B g 1 n v (by8 l)) (hk : bs.length = k) (hB : B ≤ g.next) (hb : n + k ≤ 2 ^ 40) :
    ∃ v' g', opApp 1 1 v (.slice g.next 0 k k true 1) (g.push (.cells (by8 bs) false)) = okV v' g' ∧ Own B g' 1 (n + k) v' (by8 (l ++ bs)) ∧ FrB B g g' ∧
      (∀ i, i < g.next → idOf v ≠ some i → g'.get i = g.get i) ∧ g.next < g'.next ∧ ∀ i, idOf v' = some i → idOf v = some i ∨ g.next < i := by
  have fp := Fr.push (.refl g) (.cells (by8 bs) false)
  have sx := (Own.fresh (B := 0) (h := g) (es := 1) (n := k) (l := by8 bs) true (Nat.zero_le _) (by simp [hk])).sl
  obtain ⟨v', g', e, o2, f, p, q⟩ := (o.fr fp).append (bytes := 1) sx (Nat.le_succ_of_le hB) (by8_scalar _) (by omega) (by omega)
  have gn : (g.push (.cells (by8 bs) false)).next = g.next + 1 := rfl
  have fn := f.next
  refine ⟨v', g', e, by rw [by8_append]; exact o2, (fp.b hB).trans f, fun i hi hne => by rw [p i (by omega) hne, get_push_old (by omega)], by omega, fun i hi => ?_⟩
  rcases q i hi with h | h
  · exact .inl h
  · exact .inr (by omega)

def entOf (x : Ep) : Ent := ⟨x.ls, x.sz, x.mn, x.mx⟩

theorem labsB_snoc (T : List Txt) (l : List Lab) (k : Lab) : labsB T (l ++ [k]) = labsB T l ++ be 4 (pl T k.1) ++ be 4 (pl T k.2) := by
  simp [labsB]
theorem labsB_len (T : List Txt) (l : List Lab) : (labsB T l).length = 8 * l.length := by
  unfold labsB
  induction l with
  | nil => rfl
  | cons k l ih => rw [List.flatMap_cons, List.length_append, List.length_append, be_length, be_length, ih, List.length_cons]; omega
theorem entB_len (T : List Txt) (x : Ep) : (entB T (entOf x)).length = 21 + 8 * x.ls.length := by
  simp only [entB, entOf, List.cons_append, List.length_cons, List.length_append, be_length, labsB_len]; omega

theorem ref13_entry {h : AH} {n : Nat} {tv : AV} {T : List Txt} {x : AV × Ep} (ht : Sl h 1 n tv (tx T)) (hn : n ≤ 2 ^ 30) (hok : EnOk h x) (hl8 : x.2.ls.length ≤ 8) (hmem : ∀ k ∈ x.2.ls, k.1 ∈ T ∧ k.2 ∈ T) :
    Ev P SI (.fn f_ref13_entry) [tv, .agg (enC x)] h fun r g => Own h.next g 1 (21 + 8 * x.2.ls.length) r (by8 (entB T (entOf x.2))) ∧ Fr h g := by
  refine ev_fn k_ref13_entry rfl rfl ?_
  have hTl : T.length = n := by have := ht.1; simpa [tx] using this
  have hp4 : ∀ s, s ∈ T → n64 (pl T s : Int) = pl T s := fun s hs => n64_of_nat _ (by have := pl_lt hs; omega)
  have ge : (h.push (.cells (enC x) false)).get h.next = some (.cells (enC x) false) := get_push_new _
  have f1 : Fr h (h.push (.cells (enC x) false)) := Fr.push (.refl h) _
  have gn : (h.push (.cells (enC x) false)).next = h.next + 1 := rfl
  generalize hg1 : h.push (.cells (enC x) false) = g1 at *
  have m0 : load1 g1 h.next 0 = .ok x.1 := load1_of ge
  have lv : opLenV x.1 = .ok (.int .i64 (x.2.ls.length : Int)) := (hok.fr f1).len
  have w8 : wrapF .u8 (x.2.ls.length : Int) = (x.2.ls.length : Int) := wrap_u8 (by omega) (by omega)
  have m0' : load1 (g1.push (.cells [.int .u8 (x.2.ls.length : Int)] false)) h.next 0 = .ok x.1 := load1_of (id := h.next) (vs := enC x) (ro := false) (by rw [get_push_old (by omega)]; exact ge)
  have box : opNew (.agg (enC x) : AV).cells h = okV (.ptr h.next 0) g1 := by rw [← hg1]; rfl
  simp [c_ref13_entry, hg1, m0, lv, w8, splice_eq, m0']
  have o1 := Own.fresh (B := h.next + 1) (h := g1) (es := 1) (n := 1) (l := by8 [x.2.ls.length]) true (by omega) rfl
  have f2 : Fr h (g1.push (.cells [.int .u8 (x.2.ls.length : Int)] false)) := f1.push _
  refine w_count (n := x.2.ls.length) (by rfl) (fun j σ ds g => ds = [] ∧ σ 0 = tv ∧ σ 3 = .ptr h.next 0 ∧ σ 14 = x.1 ∧ σ 15 = .int .i64 (x.2.ls.length : Int) ∧ Fr h g ∧ g.get h.next = some (.cells (enC x) false) ∧ h.next < g.next ∧
      Own (h.next + 1) g 1 (1 + 8 * j) (σ 5) (by8 (x.2.ls.length :: labsB T (x.2.ls.take j)))) (by omega) (by simp)
    ⟨rfl, by simp, by simp, by simp, by simp, f2, by rw [get_push_old (by omega)]; exact ge, by show h.next < g1.next + 1; omega, by simpa [labsB, by8] using o1⟩ (fun j σ ds g hJ => by simp [hJ.2.2.2.2.1]) ?_ ?_
  · rintro j σ ds g hj hi ⟨rfl, e0, e3, e14, e15, fr, gx, hlt, ho⟩
    obtain ⟨⟨nm, vl⟩, hx⟩ := at_some (l := x.2.ls) (j := j) hj
    obtain ⟨hT1, hT2⟩ := hmem _ (List.mem_of_getElem? hx)
    obtain ⟨i1, o1', a1, a2, _⟩ := lab_at (hok.fr fr) (k := .i64) (i := (j : Int)) rfl hx
    obtain ⟨bv, hbv⟩ : ∃ bv, σ 5 = bv := ⟨_, rfl⟩
    rw [hbv] at ho
    have stn := opStore_new (h := g) (n := 2) (z := [.str [], .str []]) (l := [.str nm, .str vl]) rfl rfl rfl
    have fp := Fr.push (.refl g) (.cells [.str nm, .str vl] false)
    have ge2 : (g.push (.cells [.str nm, .str vl] false)).get g.next = some (.cells [.str nm, .str vl] false) := get_push_new _
    have gn2 : (g.push (.cells [.str nm, .str vl] false)).next = g.next + 1 := rfl
    have ho2 := ho.fr fp
    generalize hg2 : g.push (.cells [.str nm, .str vl] false) = g2 at *
    have q0 : load1 g2 g.next 0 = .ok (.str nm) := load1_of ge2
    have q1 : load1 g2 g.next 1 = .ok (.str vl) := load1_of ge2
    have pl1 := fun K => ref13_place (K := K) (ht.fr (fr.trans fp)) (by omega) hT1
    obtain ⟨b, hb⟩ : ∃ b, pl T nm = b := ⟨_, rfl⟩
    obtain ⟨c, hc⟩ : ∃ c, pl T vl = c := ⟨_, rfl⟩
    have hb4 := hp4 nm hT1
    have hc4 := hp4 vl hT2
    rw [hb] at hb4 pl1
    rw [hc] at hc4
    have q1b : load1 (g2.push (.cells (by8 (be 4 b)) false)) g.next 1 = .ok (.str vl) := load1_of (id := g.next) (vs := [.str nm, .str vl]) (ro := false) (by rw [get_push_old (by omega)]; exact ge2)
    obtain ⟨v3, g3, c1, o3, fb3, p3, n3, i3⟩ := app_put (bs := be 4 b) (k := 4) ho2 (by simp) (by omega) (by omega)
    have hidb : idOf bv ≠ some g.next := fun hid => by have := (own_id_lt ho hid).2; omega
    have ge3 : g3.get g.next = some (.cells [.str nm, .str vl] false) := by rw [p3 _ (by omega) hidb]; exact ge2
    have q2 : load1 g3 g.next 1 = .ok (.str vl) := load1_of ge3
    have fr3 : Fr h g3 := ⟨by have := fr.next; omega, fun i hi' => by rw [fb3.get i (by omega), ← hg2, get_push_old (by have := fr.next; omega)]; exact fr.get i hi'⟩
    have pl2 := fun K => ref13_place (K := K) (ht.fr fr3) (by omega) hT2
    rw [hc] at pl2
    obtain ⟨v4, g4, d1, o4, fb4, p4, n4, i4⟩ := app_put (bs := be 4 c) (k := 4) o3 (by simp) (by omega) (by omega)
    simp [e14, hi, a1, a2, opLoadN, stn, q0, q1, hbv, e0, pl1, ref13_four, hb4, q1b, c1, q2, pl2, hc4, d1, e3, e15]
    have hx3 : g2.get h.next = some (.cells (enC x) false) := by rw [← hg2, get_push_old (by omega)]; exact gx
    refine ⟨?_, ?_, by omega, ?_⟩
    · exact ⟨by have := fr3.next; omega, fun i hi' => by rw [fb4.get i (by omega)]; exact fr3.get i hi'⟩
    · rw [fb4.get _ (by omega), fb3.get _ (by omega)]; exact hx3
    · rw [take_snoc _ _ _ hx, labsB_snoc, hb, hc]
      have e1 : 1 + 8 * (j + 1) = 1 + 8 * j + 4 + 4 := by omega
      rw [e1]
      simp only [List.cons_append, List.append_assoc] at o4 ⊢
      exact o4
  · rintro σ ds g ⟨rfl, e0, e3, e14, e15, fr, gx, hlt, ho⟩
    rw [List.take_of_length_le (Nat.le_refl _)] at ho
    obtain ⟨bv, hbv⟩ : ∃ bv, σ 5 = bv := ⟨_, rfl⟩
    rw [hbv] at ho
    have m2 : ∀ g' : AH, g'.get h.next = some (.cells (enC x) false) → load1 g' h.next 2 = .ok (.int .i64 x.2.sz) := fun g' hg => load1_of (vs := enC x) (ro := false) hg
    have m3 : ∀ g' : AH, g'.get h.next = some (.cells (enC x) false) → load1 g' h.next 3 = .ok (.int .i64 x.2.mn) := fun g' hg => load1_of (vs := enC x) (ro := false) hg
    have m4 : ∀ g' : AH, g'.get h.next = some (.cells (enC x) false) → load1 g' h.next 4 = .ok (.int .i64 x.2.mx) := fun g' hg => load1_of (vs := enC x) (ro := false) hg
    obtain ⟨v1, g1', c1, o1', fb1, p1, n1, i1⟩ := app_put (bs := be 4 (n64 x.2.sz)) (k := 4) ho (by simp) (by omega) (by omega)
    obtain ⟨v2, g2, c2, o2, fb2, p2, n2, i2⟩ := app_put (bs := be 8 (n64 x.2.mn)) (k := 8) o1' (by simp) (by omega) (by omega)
    obtain ⟨v3, g3, c3, o3, fb3, p3, n3, i3⟩ := app_put (bs := be 8 (n64 x.2.mx)) (k := 8) o2 (by simp) (by omega) (by omega)
    have gx1 : g1'.get h.next = some (.cells (enC x) false) := by rw [fb1.get _ (by omega)]; exact gx
    have gx2 : g2.get h.next = some (.cells (enC x) false) := by rw [fb2.get _ (by omega)]; exact gx1
    have gp : ∀ (g' : AH) (o : AObj), h.next < g'.next → g'.get h.next = some (.cells (enC x) false) → (g'.push o).get h.next = some (.cells (enC x) false) := fun g' o hl hg => by rw [get_push_old (by omega)]; exact hg
    simp [hbv, e3, m2 g gx, m3 g gx, m4 g gx, ref13_four, ref10_Big, m3 _ (gp g _ hlt gx), m4 _ (gp g _ hlt gx), c1, m3 _ gx1, m4 _ gx1, m4 _ (gp g1' _ (by omega) gx1), c2, m4 _ gx2, c3]
    refine ⟨?_, ?_⟩
    · have e1 : 21 + 8 * x.2.ls.length = 1 + 8 * x.2.ls.length + 4 + 8 + 8 := by omega
      rw [e1]
      have := o3.base (B' := h.next) (by omega)
      simp only [entB, entOf, List.cons_append, List.append_assoc] at this ⊢
      exact this
    · exact ⟨by have := fr.next; omega, fun i hi' => by rw [fb3.get i (by omega), fb2.get i (by omega), fb1.get i (by omega)]; exact fr.get i hi'⟩

end Go.Dk

namespace Go.Dk
open Go Go.Dr
set_option maxRecDepth 100000

noncomputable def c_posts_m : CC :=
 (.block 2
  (.loop
  (.seq
  (.ops [
  .row ⟨(some 23), none, .bin .lss t_int false (.t 22) (.t 21)⟩])
  (.seq
  (.cond (.t 23)
  .skip
  (.exit 2))
  (.seq
  (.block 3
  (.seq
  (.ops [
  .row ⟨(some 24), none, .idxV 1 (.t 20) (.t 22)⟩,
  .row ⟨(some 25), none, .load1 (.t 24)⟩,
  .row ⟨(some 9), none, .move (.t 25)⟩])
  (.seq
  (.ops [
  .row ⟨(some 10), none, .move (.c .nils)⟩])
  (.seq
  (.ops [
  .row ⟨(some 11), none, .move (.c (.int .i64 0))⟩])
  (.seq
  (.seq
  (.ops [
  .row ⟨(some 26), none, .move (.t 1)⟩,
  .row ⟨(some 27), none, .lenV (.t 26)⟩,
  .row ⟨(some 28), none, .move (.c (.int .i64 0))⟩])
  (.block 4
  (.loop
  (.seq
  (.ops [
  .row ⟨(some 29), none, .bin .lss t_int false (.t 28) (.t 27)⟩])
  (.seq
  (.cond (.t 29)
  .skip
  (.exit 4))
  (.seq
  (.block 5
  (.seq
  (.ops [
  .row ⟨(some 30), none, .move (.t 28)⟩,
  .row ⟨(some 31), none, .idxV 5 (.t 26) (.t 28)⟩,
  .row ⟨(some 32), none, .loadN 5 (.t 31)⟩,
  .row ⟨(some 13), none, .new [.nils, (.int .i64 0), (.int .i64 0), (.int .i64 0), (.int .i64 0)]⟩,
  .row ⟨(some 12), none, .move (.t 30)⟩,
  .row ⟨none, none, .store 5 (.t 13) (.t 32)⟩])
  (.seq
  (.ops [
  .row ⟨(some 33), none, .fieldAddr 0 (.t 13)⟩,
  .row ⟨(some 34), none, .load1 (.t 33)⟩,
  .row ⟨(some 35), none, .move (.t 7)⟩,
  .row ⟨(some 36), none, .callV (.c (.func (.func f_ref07_Get) [] [])) [(.t 34), (.t 35)]⟩,
  .row ⟨(some 37), none, .move (.t 9)⟩,
  .row ⟨(some 38), none, .bin .eql t_string false (.t 36) (.t 37)⟩])
  (.cond (.t 38)
  (.seq
  (.ops [
  .row ⟨(some 39), none, .move (.t 10)⟩,
  .row ⟨(some 40), none, .move (.t 12)⟩,
  .row ⟨(some 41), none, .callV (.c (.func (.func f_ref13_four) [] [])) [(.t 40)]⟩,
  .row ⟨(some 42), none, .app 1 1 (.t 39) (.t 41)⟩,
  .row ⟨(some 10), none, .move (.t 42)⟩])
  (.ops [
  .row ⟨(some 43), none, .move (.t 11)⟩,
  .row ⟨(some 44), none, .bin .add t_int true (.t 43) (.c (.int .i64 1))⟩,
  .row ⟨(some 11), none, .move (.t 44)⟩]))
  .skip))))
  (.ops [
  .row ⟨(some 45), none, .bin .add t_int true (.t 28) (.c (.int .i64 1))⟩,
  .row ⟨(some 28), none, .move (.t 45)⟩])))))))
  (.seq
  (.ops [
  .row ⟨(some 46), none, .move (.t 11)⟩,
  .row ⟨(some 47), none, .bin .gtr t_int true (.t 46) (.c (.int .i64 0))⟩])
  (.cond (.t 47)
  (.ops [
  .row ⟨(some 48), none, .move (.t 5)⟩,
  .row ⟨(some 49), none, .move (.t 0)⟩,
  .row ⟨(some 50), none, .move (.t 7)⟩,
  .row ⟨(some 51), none, .callV (.c (.func (.func f_ref13_place) [] [])) [(.t 49), (.t 50)]⟩,
  .row ⟨(some 52), none, .callV (.c (.func (.func f_ref13_four) [] [])) [(.t 51)]⟩,
  .row ⟨(some 53), none, .app 1 1 (.t 48) (.t 52)⟩,
  .row ⟨(some 54), none, .move (.t 0)⟩,
  .row ⟨(some 55), none, .move (.t 9)⟩,
  .row ⟨(some 56), none, .callV (.c (.func (.func f_ref13_place) [] [])) [(.t 54), (.t 55)]⟩,
  .row ⟨(some 57), none, .callV (.c (.func (.func f_ref13_four) [] [])) [(.t 56)]⟩,
  .row ⟨(some 58), none, .app 1 1 (.t 53) (.t 57)⟩,
  .row ⟨(some 59), none, .move (.t 11)⟩,
  .row ⟨(some 60), none, .callV (.c (.func (.func f_ref13_four) [] [])) [(.t 59)]⟩,
  .row ⟨(some 61), none, .app 1 1 (.t 58) (.t 60)⟩,
  .row ⟨(some 62), none, .move (.t 10)⟩,
  .row ⟨(some 63), none, .app 1 1 (.t 61) (.t 62)⟩,
  .row ⟨(some 5), none, .move (.t 63)⟩])
  .skip)))))))
  (.ops [
  .row ⟨(some 64), none, .bin .add t_int true (.t 22) (.c (.int .i64 1))⟩,
  .row ⟨(some 22), none, .move (.t 64)⟩]))))))

noncomputable def c_posts_i : CC :=
 (.block 4
  (.loop
  (.seq
  (.ops [
  .row ⟨(some 29), none, .bin .lss t_int false (.t 28) (.t 27)⟩])
  (.seq
  (.cond (.t 29)
  .skip
  (.exit 4))
  (.seq
  (.block 5
  (.seq
  (.ops [
  .row ⟨(some 30), none, .move (.t 28)⟩,
  .row ⟨(some 31), none, .idxV 5 (.t 26) (.t 28)⟩,
  .row ⟨(some 32), none, .loadN 5 (.t 31)⟩,
  .row ⟨(some 13), none, .new [.nils, (.int .i64 0), (.int .i64 0), (.int .i64 0), (.int .i64 0)]⟩,
  .row ⟨(some 12), none, .move (.t 30)⟩,
  .row ⟨none, none, .store 5 (.t 13) (.t 32)⟩])
  (.seq
  (.ops [
  .row ⟨(some 33), none, .fieldAddr 0 (.t 13)⟩,
  .row ⟨(some 34), none, .load1 (.t 33)⟩,
  .row ⟨(some 35), none, .move (.t 7)⟩,
  .row ⟨(some 36), none, .callV (.c (.func (.func f_ref07_Get) [] [])) [(.t 34), (.t 35)]⟩,
  .row ⟨(some 37), none, .move (.t 9)⟩,
  .row ⟨(some 38), none, .bin .eql t_string false (.t 36) (.t 37)⟩])
  (.cond (.t 38)
  (.seq
  (.ops [
  .row ⟨(some 39), none, .move (.t 10)⟩,
  .row ⟨(some 40), none, .move (.t 12)⟩,
  .row ⟨(some 41), none, .callV (.c (.func (.func f_ref13_four) [] [])) [(.t 40)]⟩,
  .row ⟨(some 42), none, .app 1 1 (.t 39) (.t 41)⟩,
  .row ⟨(some 10), none, .move (.t 42)⟩])
  (.ops [
  .row ⟨(some 43), none, .move (.t 11)⟩,
  .row ⟨(some 44), none, .bin .add t_int true (.t 43) (.c (.int .i64 1))⟩,
  .row ⟨(some 11), none, .move (.t 44)⟩]))
  .skip))))
  (.ops [
  .row ⟨(some 45), none, .bin .add t_int true (.t 28) (.c (.int .i64 1))⟩,
  .row ⟨(some 28), none, .move (.t 45)⟩]))))))

theorem getL_iff : ∀ (l : List Lab) (n v : Txt), Parted l → v ≠ [] → (getL l n = v ↔ (n, v) ∈ l)
  | [], n, v, _, hv => by simp [getL]; exact fun h => hv h
  | k :: l, n, v, hp, hv => by
    have hp2 : Parted l := (List.nodup_cons.1 hp).2
    unfold getL
    by_cases hk : k.1 = n
    · rw [if_pos hk]
      constructor
      · rintro rfl; rw [← hk]; exact List.mem_cons_self
      · intro h
        rcases List.mem_cons.1 h with h | h
        · rw [← h]
        · have hm : k.1 ∈ l.map (·.1) := List.mem_map.2 ⟨(n, v), h, hk.symm⟩
          exact absurd hm (List.nodup_cons.1 hp).1
    · rw [if_neg hk, getL_iff l n v hp2 hv]
      constructor
      · exact List.mem_cons_of_mem _
      · intro h
        rcases List.mem_cons.1 h with h | h
        · rw [← h] at hk; exact absurd rfl hk
        · exact h

/-- the places among the first entries -/
def plcJ (l : List Ent) (k : LabP) (j : Nat) : List Nat := (List.range j).filter fun i => match l[i]? with | some x => decide (k ∈ x.ls) | none => false
theorem plcJ_succ (l : List Ent) (k : LabP) (j : Nat) (x : Ent) (hx : l[j]? = some x) : plcJ l k (j + 1) = plcJ l k j ++ if k ∈ x.ls then [j] else [] := by
  unfold plcJ
  rw [List.range_succ, List.filter_append]
  congr 1
  by_cases h : k ∈ x.ls <;> simp [hx, h]
theorem plcJ_le (l : List Ent) (k : LabP) (j : Nat) : (plcJ l k j).length ≤ j := by
  have := List.length_filter_le (fun i => match l[i]? with | some x => decide (k ∈ x.ls) | none => false) (List.range j)
  rw [List.length_range] at this
  exact this

/-- the places of one label -/
theorem posts_i {Q : Post} {σ : Sg} {h g0 : AH} {n : Nat} {v : AV} {xs : List (AV × Ep)} {nm vl : Txt} (h7 : σ 7 = .str nm) (h9 : σ 9 = .str vl) (h10 : σ 10 = .nils) (h11 : σ 11 = .int .i64 0) (h26 : σ 26 = v) (h27 : σ 27 = .int .i64 (n : Int)) (h28 : σ 28 = .int .i64 0)
    (s : Sl h 5 n v (xs.flatMap enC)) (hn : n ≤ 100000) (he : ∀ x ∈ xs, EnOk h x ∧ x.2.ls.length ≤ 8 ∧ Parted x.2.ls) (f0 : Fr h g0) (hvl : vl ≠ [])
    (hQ : ∀ σ' g' pv, σ' 10 = pv → σ' 11 = .int .i64 ((plc (xs.map fun x => entOf x.2) (nm, vl)).length : Int) → (∀ t, t < 10 ∨ (13 < t ∧ t < 28) → σ' t = σ t) → Fr g0 g' →
      Own g0.next g' 1 (4 * (plc (xs.map fun x => entOf x.2) (nm, vl)).length) pv (by8 ((plc (xs.map fun x => entOf x.2) (nm, vl)).flatMap (be 4))) → Q .normal σ' [] g') :
    wpC P SI c_posts_i Q σ [] g0 := by
  have hl : xs.length = n := by have := s.1; rw [en_len] at this; omega
  generalize hents : (xs.map fun x => entOf x.2) = ents at *
  have hel : ents.length = n := by rw [← hents, List.length_map, hl]
  simp only [c_posts_i, wpC_block]
  refine w_count (n := n) (by rfl) (fun j σ' ds g => ds = [] ∧ (∀ t, t < 10 ∨ (13 < t ∧ t < 28) → σ' t = σ t) ∧ Fr g0 g ∧ σ' 11 = .int .i64 ((plcJ ents (nm, vl) j).length : Int) ∧ Own g0.next g 1 (4 * (plcJ ents (nm, vl) j).length) (σ' 10) (by8 ((plcJ ents (nm, vl) j).flatMap (be 4)))) (by omega) h28
    ⟨rfl, fun _ _ => rfl, .refl _, by simp [plcJ, h11], by rw [h10]; simpa [plcJ, by8] using Own.nil (h := g0) g0.next 1⟩ ?_ ?_ ?_
  · rintro j σ' ds g ⟨rfl, hσ, _⟩
    simp [hσ 27 (by omega), h27]
  · rintro j σ' ds g hj hi ⟨rfl, hσ, fr, e11, ho⟩
    obtain ⟨x, hx⟩ := at_some (l := xs) (j := j) (by omega)
    obtain ⟨hok, hl8, hpt⟩ := he x (List.mem_of_getElem? hx)
    have hxe : ents[j]? = some (entOf x.2) := by rw [← hents]; simp [hx]
    have fh := f0.trans fr
    obtain ⟨id, o, a1, a2, _⟩ := en_at (s.fr fh) hx
    have okg := hok.fr fh
    have hlc := Sl.oneCell okg
    have e7 := (hσ 7 (by omega)).trans h7
    have e9 := (hσ 9 (by omega)).trans h9
    have e26 := (hσ 26 (by omega)).trans h26
    obtain ⟨pv, hpv⟩ : ∃ pv, σ' 10 = pv := ⟨_, rfl⟩
    rw [hpv] at ho
    have stn := opStore_new (h := g) (n := 5) (z := [.nils, .int .i64 0, .int .i64 0, .int .i64 0, .int .i64 0]) (l := enC x) rfl rfl (by simp [enC, allScalar, hlc.2])
    have fp := Fr.push (.refl g) (.cells (enC x) false)
    have ge : (g.push (.cells (enC x) false)).get g.next = some (.cells (enC x) false) := get_push_new _
    generalize hg1 : g.push (.cells (enC x) false) = g1 at *
    have m0 : load1 g1 g.next 0 = .ok x.1 := load1_of ge
    simp [hi, e26, a1, opLoadN, a2, stn, m0, e7]
    refine (ref07_Get (okg.fr fp) (by omega)).mono ?_
    rintro r g2 ⟨rfl, f2⟩
    have hlen := plcJ_le ents (nm, vl) j
    have hsucc := plcJ_succ ents (nm, vl) j _ hxe
    have hiff := getL_iff x.2.ls nm vl hpt hvl
    by_cases hg : getL x.2.ls nm = vl
    · rw [if_pos (show (nm, vl) ∈ (entOf x.2).ls from hiff.1 hg)] at hsucc
      have F2 : Fr g0 g2 := (fr.trans fp).trans f2
      have ho2 := (ho.fr fp).fr f2
      obtain ⟨c, hc⟩ : ∃ c, (plcJ ents (nm, vl) j).length = c := ⟨_, rfl⟩
      rw [hc] at e11 ho2 hlen
      have hn64 : n64 (j : Int) = j := n64_of_nat j (by omega)
      obtain ⟨v3, g3, c1, o3, fb3, p3, n3, i3⟩ := app_put (bs := be 4 j) (k := 4) ho2 (by simp) F2.next (by omega)
      have w : wrapF .i64 ((c : Int) + 1) = (c : Int) + 1 := wrap_i64 (by omega) (by omega)
      simp [e9, hg, hpv, ref13_four, hn64, c1, e11, w, hi, -List.length_flatMap]
      refine ⟨fun t ht => ?_, ?_, ?_, ?_⟩
      · repeat rw [if_neg (by omega)]
        exact hσ t ht
      · exact ⟨by have := F2.next; omega, fun i hi' => by rw [fb3.get i hi']; exact F2.get i hi'⟩
      · rw [hsucc]; simp [hc]
      · rw [hsucc, List.length_append, hc, List.flatMap_append]
        simpa [Nat.mul_add] using o3
    · rw [if_neg (show ¬ (nm, vl) ∈ (entOf x.2).ls from fun hm => hg (hiff.2 hm)), List.append_nil] at hsucc
      simp [e9, hg, e11, hi, hpv, -List.length_flatMap]
      refine ⟨fun t ht => ?_, (fr.trans fp).trans f2, ?_, ?_⟩
      · repeat rw [if_neg (by omega)]
        exact hσ t ht
      · rw [hsucc]
      · rw [hsucc]; exact (ho.fr fp).fr f2
  · rintro σ' ds g ⟨rfl, hσ, fr, e11, ho⟩
    simp
    have hpe : plcJ ents (nm, vl) n = plc ents (nm, vl) := by unfold plcJ plc; rw [hel]; rfl
    rw [hpe] at e11 ho
    exact hQ _ g (σ' 10) (by simp) (by simpa using e11) (fun t ht => by simp only [upd_some]; rw [if_neg (by omega)]; exact hσ t ht) fr ho

end Go.Dk
