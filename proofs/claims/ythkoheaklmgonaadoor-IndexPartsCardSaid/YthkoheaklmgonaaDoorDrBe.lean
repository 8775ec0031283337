/-
  Numbers as bytes, the greatest first; plain.
-/
import Derived.Test.YthkoheaklmgonaaDoorDrSim
namespace Go.Dr

def be : Nat → Nat → List Nat
  | 0, _ => []
  | k + 1, n => be k (n / 256) ++ [n % 256]

def beV (l : List Nat) : Nat := l.foldl (fun n x => n * 256 + x) 0

@[simp] theorem be_length : ∀ k n, (be k n).length = k
  | 0, _ => rfl
  | k + 1, n => by rw [be, List.length_append, be_length]; rfl

theorem be_lt : ∀ k n, ∀ x ∈ be k n, x < 256
  | 0, _, x, h => by cases h
  | k + 1, n, x, h => by
    rw [be, List.mem_append] at h
    rcases h with h | h
    · exact be_lt k _ x h
    · simp at h; subst h; exact Nat.mod_lt _ (by decide)

theorem be_get : ∀ (k n i : Nat), i < k → (be k n)[k - 1 - i]? = some (n / 256 ^ i % 256)
  | 0, n, i, h => by omega
  | k + 1, n, i, h => by
    rw [be]
    cases i with
    | zero =>
      rw [List.getElem?_append_right (by rw [be_length]; omega)]
      simp
    | succ i =>
      rw [List.getElem?_append_left (by rw [be_length]; omega), show k + 1 - 1 - (i + 1) = k - 1 - i from by omega, be_get k _ i (by omega), Nat.div_div_eq_div_mul, Nat.pow_succ, Nat.mul_comm]

theorem beV_append (l : List Nat) (x : Nat) : beV (l ++ [x]) = beV l * 256 + x := by simp [beV]

theorem beV_be : ∀ k n, beV (be k n) = n % 256 ^ k
  | 0, n => by simp [be, beV, Nat.mod_one]
  | k + 1, n => by
    rw [be, beV_append, beV_be k, Nat.pow_succ]
    rw [Nat.mul_comm (256 ^ k) 256, Nat.mod_mul]
    rw [Nat.mul_comm, Nat.add_comm]

theorem beV_lt' : ∀ (l : List Nat) (n m : Nat), n < 256 ^ m → (∀ x ∈ l, x < 256) → l.foldl (fun n x => n * 256 + x) n < 256 ^ (m + l.length)
  | [], n, m, hn, _ => hn
  | x :: l, n, m, hn, h => by
    have hx := h x (by simp)
    have h1 : (n + 1) * 256 ≤ 256 ^ m * 256 := Nat.mul_le_mul_right 256 hn
    have := beV_lt' l (n * 256 + x) (m + 1) (by rw [Nat.pow_succ]; omega) fun y hy => h y (List.mem_cons_of_mem _ hy)
    rw [List.foldl_cons, List.length_cons, show m + (l.length + 1) = m + 1 + l.length from by omega]
    exact this

theorem beV_lt (l : List Nat) (h : ∀ x ∈ l, x < 256) : beV l < 256 ^ l.length := by
  have := beV_lt' l 0 0 (by decide) h
  rwa [Nat.zero_add] at this

/-- bytes as cells -/
def by8 (l : List Nat) : List AV := l.map fun (x : Nat) => .int .u8 (x : Int)
@[simp] theorem by8_length (l : List Nat) : (by8 l).length = l.length := by simp [by8]
theorem by8_get (l : List Nat) (i : Nat) : (by8 l)[i]? = (l[i]?).map fun (x : Nat) => .int .u8 (x : Int) := by simp [by8]
theorem by8_append (l r : List Nat) : by8 (l ++ r) = by8 l ++ by8 r := by simp [by8]
theorem by8_take (l : List Nat) (n : Nat) : (by8 l).take n = by8 (l.take n) := by simp [by8]
theorem by8_drop (l : List Nat) (n : Nat) : (by8 l).drop n = by8 (l.drop n) := by simp [by8]
theorem by8_scalar : ∀ (l : List Nat), allScalar (by8 l) = true
  | [] => rfl
  | x :: l => by
    show (AV.scalar (.int .u8 (x : Int)) && allScalar (by8 l)) = true
    rw [by8_scalar l]; rfl

theorem or_shl (a x : Nat) (ha : a * 256 < 2 ^ 64) (hx : x < 256) :
    (BitVec.ofInt 64 ((a : Int) * 256) ||| BitVec.ofNat 64 x).toNat = a * 256 + x := by
  have h1 : BitVec.ofInt 64 ((a : Int) * 256) = BitVec.ofNat 64 (a * 256) := by
    rw [show (a : Int) * 256 = ((a * 256 : Nat) : Int) from by omega, BitVec.ofInt_natCast]
  rw [h1, BitVec.toNat_or, BitVec.toNat_ofNat, BitVec.toNat_ofNat, Nat.mod_eq_of_lt ha, Nat.mod_eq_of_lt (by omega)]
  have := Nat.shiftLeft_add_eq_or_of_lt (i := 8) (b := x) (by omega) a
  rw [Nat.shiftLeft_eq] at this
  exact this.symm

/-- a signed number out of 64 bits -/
def sg (n : Nat) : Int := if n < 9223372036854775808 then (n : Int) else (n : Int) - 18446744073709551616

end Go.Dr
