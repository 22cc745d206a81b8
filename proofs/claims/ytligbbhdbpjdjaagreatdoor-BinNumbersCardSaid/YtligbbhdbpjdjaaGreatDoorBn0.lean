/- Plain laws of the numbers of bytes: bit operations as sums, the bytes of a number, the number of bytes. -/
import Derived.Lib.VarintBits
import Derived.Laws.BitsLemmas
import Derived.Laws.Entries
import Derived.Lib.Hide
import Derived.Test.YtligbbhdbpjdjaaGreatDoorRows
namespace Go.Proofs.YtligbbhdbpjdjaaGreatDoor
open Go
set_option linter.unusedVariables false
set_option linter.unusedSimpArgs false

/-- The bytes of a number. -/
def numB (n : Nat) : List UInt8 :=
  if h : n < 128 then [UInt8.ofNat n] else UInt8.ofNat (n % 128 + 128) :: numB (n / 128)
termination_by n
decreasing_by omega
theorem numB_small {n : Nat} (h : n < 128) : numB n = [UInt8.ofNat n] := by rw [numB, dif_pos h]
theorem numB_big {n : Nat} (h : 128 ≤ n) : numB n = UInt8.ofNat (n % 128 + 128) :: numB (n / 128) := by rw [numB, dif_neg (by omega)]
theorem numB_ne (n : Nat) : numB n ≠ [] := by rw [numB]; split <;> simp
theorem numB_len : ∀ (d n : Nat), n < 128 ^ (d + 1) → (numB n).length ≤ d + 1
  | 0, n, h => by rw [numB_small (by simpa using h)]; simp
  | d + 1, n, h => by
    by_cases hs : n < 128
    · rw [numB_small hs]; simp
    · rw [numB_big (by omega), List.length_cons]
      have := numB_len d (n / 128) (by rw [Nat.pow_succ] at h; omega)
      omega
theorem numB_len64 {n : Nat} (h : n < 18446744073709551616) : (numB n).length ≤ 10 := numB_len 9 n (by omega)

/-- The number with which bytes begin, and how many bytes it has, from byte i on. -/
def readB : List UInt8 → Nat → Nat → Option (Nat × Nat)
  | [], _, _ => none
  | c :: r, i, n =>
    if 10 ≤ i then none
    else if i = 9 ∧ 1 < c.toNat % 128 then none
    else if 128 ≤ c.toNat then readB r (i + 1) (n + c.toNat % 128 * 2 ^ (7 * i))
    else if c = 0 ∧ 0 < i then none
    else some (n + c.toNat % 128 * 2 ^ (7 * i), i + 1)
theorem readB_num : ∀ (d n i acc : Nat) (r : List UInt8), n < 128 ^ (d + 1) → (0 < i → 0 < n) → n * 2 ^ (7 * i) < 18446744073709551616 → i ≤ 9 → readB (numB n ++ r) i acc = some (acc + n * 2 ^ (7 * i), i + (numB n).length)
  | d, n, i, acc, r, hd, h0, hn, hi => by
    by_cases hs : n < 128
    · rw [numB_small hs]
      have hc : (UInt8.ofNat n).toNat = n := by rw [UInt8.toNat_ofNat']; omega
      simp only [List.cons_append, List.nil_append, readB, hc, List.length_cons, List.length_nil]
      rw [if_neg (by omega), if_neg (by
        rintro ⟨rfl, h⟩
        rw [Nat.mod_eq_of_lt hs] at h
        have : (2 : Nat) ^ (7 * 9) = 9223372036854775808 := by decide
        rw [this] at hn
        omega), if_neg (by omega), if_neg (by
        rintro ⟨h, hp⟩
        have h1 := congrArg UInt8.toNat h
        rw [hc] at h1
        have h2 := h0 hp
        have h3 : (0 : UInt8).toNat = 0 := rfl
        omega), Nat.mod_eq_of_lt hs]
    · have hb : 128 ≤ n := by omega
      obtain ⟨d', rfl⟩ : ∃ d', d = d' + 1 := by
        cases d with
        | zero => simp at hd; omega
        | succ d' => exact ⟨d', rfl⟩
      rw [numB_big hb]
      have hm : n % 128 < 128 := Nat.mod_lt _ (by decide)
      have hc : (UInt8.ofNat (n % 128 + 128)).toNat = n % 128 + 128 := by rw [UInt8.toNat_ofNat']; omega
      have hi9 : i ≠ 9 := by
        rintro rfl
        have : (2 : Nat) ^ (7 * 9) = 9223372036854775808 := by decide
        rw [this] at hn
        omega
      have hq : 0 < n / 128 := Nat.div_pos hb (by decide)
      have hpow : (2 : Nat) ^ (7 * (i + 1)) = 128 * 2 ^ (7 * i) := by
        rw [Nat.mul_add, Nat.pow_add, Nat.mul_comm]
      have hnn : n / 128 * (128 * 2 ^ (7 * i)) + n % 128 * 2 ^ (7 * i) = n * 2 ^ (7 * i) := by
        rw [← Nat.mul_assoc, ← Nat.add_mul, Nat.mul_comm (n / 128), Nat.div_add_mod]
      simp only [List.cons_append, readB, hc, List.length_cons]
      rw [if_neg (by omega), if_neg (by omega), if_pos (by omega)]
      rw [readB_num d' (n / 128) (i + 1) _ r (by rw [Nat.pow_succ] at hd; omega) (fun _ => hq) (by rw [hpow]; omega) (by omega), hpow]
      congr 2
      · rw [show (n % 128 + 128) % 128 = n % 128 by omega]; omega
      · omega
/-- Signed numbers as numbers. -/
def foldN (n : Int) : Nat := if 0 ≤ n then (2 * n).toNat else (2 * (-(n + 1)) + 1).toNat
theorem or128 : ∀ n : Fin 256, bits .or .u8 (n.val : Int) 128 = ((n.val % 128 + 128 : Nat) : Int) := by decide +kernel
theorem or128_of {c : Int} (h0 : 0 ≤ c) (h1 : c < 256) : bits .or .u8 c 128 = c % 128 + 128 := by
  obtain ⟨n, rfl⟩ := Int.eq_ofNat_of_zero_le h0
  rw [or128 ⟨n, by omega⟩]
  dsimp only
  omega
theorem not128 : ∀ n : Fin 256, bits .andNot .u8 (n.val : Int) 128 = ((n.val % 128 : Nat) : Int) := by decide +kernel
theorem not128_of {c : Int} (h0 : 0 ≤ c) (h1 : c < 256) : bits .andNot .u8 c 128 = c % 128 := by
  obtain ⟨n, rfl⟩ := Int.eq_ofNat_of_zero_le h0
  rw [not128 ⟨n, by omega⟩]
  dsimp only
  omega
theorem xor_zero {x : Int} (h0 : 0 ≤ x) (h1 : x < 18446744073709551616) : bits .xor .u64 x 0 = x := by
  obtain ⟨n, rfl⟩ := Int.eq_ofNat_of_zero_le h0
  show IntKind.u64.wrap ((BitVec.ofInt 64 (n : Int) ^^^ BitVec.ofInt 64 0).toNat : Int) = n
  rw [show BitVec.ofInt 64 0 = 0#64 by decide, BitVec.xor_zero, BitVec.ofInt_natCast, BitVec.toNat_ofNat, Nat.mod_eq_of_lt (by omega)]
  exact wraps_u64 _ (by omega) (by omega)
theorem xor_ones {x : Int} (h0 : 0 ≤ x) (h1 : x < 18446744073709551616) : bits .xor .u64 x 18446744073709551615 = 18446744073709551615 - x := by
  obtain ⟨n, rfl⟩ := Int.eq_ofNat_of_zero_le h0
  show IntKind.u64.wrap ((BitVec.ofInt 64 (n : Int) ^^^ BitVec.ofInt 64 18446744073709551615).toNat : Int) = 18446744073709551615 - n
  rw [show BitVec.ofInt 64 18446744073709551615 = BitVec.allOnes 64 by decide, BitVec.xor_allOnes, BitVec.ofInt_natCast, BitVec.toNat_not, BitVec.toNat_ofNat, Nat.mod_eq_of_lt (by omega)]
  rw [wraps_u64 _ (by omega) (by omega)]
  omega
theorem or_shift {n i k : Nat} (hn : n < 2 ^ i) (h64 : n < 18446744073709551616) (hk : k * 2 ^ i < 18446744073709551616) : bits .or .u64 (n : Int) ((k * 2 ^ i : Nat) : Int) = ((n + k * 2 ^ i : Nat) : Int) := by
  have := bits_join_low .u64 64 (by decide) wraps_u64 i (n : Int) ((k * 2 ^ i : Nat) : Int) (by omega) (by exact_mod_cast hn) (by omega) (by omega) (by
    rw [Int.natCast_mul, Int.natCast_pow]
    exact Int.mul_emod_left _ _) (by omega)
  rw [this, Int.natCast_add]
end Go.Proofs.YtligbbhdbpjdjaaGreatDoor
