/- Plain laws of wrapping to bits. -/
import Derived.Test.YthgiianmfehcaaaDoorRf9
import Derived.Test.YthgiianmfehcaaaDoorTyC
namespace Go.Proofs.YthgiianmfehcaaaDoor
open Go Go.RowKit
set_option linter.unusedVariables false
set_option linter.unusedSimpArgs false

section
variable {P M H : Int}
theorem s_form (hP : P = 2 * H) (hH : 0 < H) (hM : 0 < M) (hPM : P * M = 18446744073709551616) (n : Int) : IntKind.i64.wrap (n * M) / M = (n + H) % P - H := by
  have hHM : H * M = 9223372036854775808 := by
    have : 2 * (H * M) = 18446744073709551616 := by rw [← Int.mul_assoc, ← hP]; exact hPM
    omega
  rw [IntKind.wrap_i64, ← hHM, ← hPM, ← Int.add_mul, Int.mul_comm P M, Int.mul_comm (n + H) M, Int.mul_emod_mul_of_pos _ _ hM, Int.mul_comm H M, ← Int.mul_sub, Int.mul_comm, Int.mul_ediv_cancel _ (by omega)]
theorem u_form (hM : 0 < M) (hP0 : 0 < P) (hPM : P * M = 18446744073709551616) (n : Int) : IntKind.u64.wrap (IntKind.u64.wrap n * M) / M = n % P := by
  have hn : (n % 18446744073709551616 * M) % 18446744073709551616 = (n * M) % 18446744073709551616 := by rw [Int.mul_emod, Int.emod_emod, ← Int.mul_emod]
  rw [IntKind.wrap_u64, IntKind.wrap_u64, hn, ← hPM, Int.mul_comm P M, Int.mul_comm n M, Int.mul_emod_mul_of_pos _ _ hM, Int.mul_comm, Int.mul_ediv_cancel _ (by omega)]
theorem wrap_mod {y : Int} (hPM : P * M = 18446744073709551616) : (IntKind.i64.wrap y) % P = y % P := by
  rw [IntKind.wrap_i64]
  have : (y + 9223372036854775808) % 18446744073709551616 - 9223372036854775808 = y - P * (M * ((y + 9223372036854775808) / 18446744073709551616)) := by
    rw [← Int.mul_assoc, hPM]
    have := Int.emod_add_mul_ediv (y + 9223372036854775808) 18446744073709551616
    omega
  rw [this, Int.sub_mul_emod_self_left]
end
theorem pow_split {b : Nat} (h1 : 1 ≤ b) (h2 : b ≤ 64) : (2 : Int) ^ b * 2 ^ (64 - b) = 18446744073709551616 := by
  rw [← Int.pow_add, show b + (64 - b) = 64 by omega]; rfl
theorem pow_half {b : Nat} (h1 : 1 ≤ b) : (2 : Int) ^ b = 2 * 2 ^ (b - 1) := by
  rw [show b = (b - 1) + 1 by omega, Int.pow_succ, Int.mul_comm]; simp
theorem pow_pos' (b : Nat) : (0 : Int) < 2 ^ b := Int.pow_pos (by decide)
theorem wrapS_form {b : Nat} (h1 : 1 ≤ b) (h2 : b ≤ 64) (n : Int) : wrapS b n = (n + 2 ^ (b - 1)) % 2 ^ b - 2 ^ (b - 1) :=
  s_form (pow_half h1) (pow_pos' _) (pow_pos' _) (pow_split h1 h2) n
theorem wrapU_form {b : Nat} (h1 : 1 ≤ b) (h2 : b ≤ 64) (n : Int) : wrapU b n = n % 2 ^ b :=
  u_form (pow_pos' _) (pow_pos' _) (pow_split h1 h2) n
theorem wrapS_range {b : Nat} (h1 : 1 ≤ b) (h2 : b ≤ 64) (n : Int) : -2 ^ (b - 1) ≤ wrapS b n ∧ wrapS b n ≤ 2 ^ (b - 1) - 1 := by
  rw [wrapS_form h1 h2]
  have hp := pow_pos' b
  have := Int.emod_nonneg (n + 2 ^ (b - 1)) (show (2 : Int) ^ b ≠ 0 by omega)
  have := Int.emod_lt_of_pos (n + 2 ^ (b - 1)) hp
  have := pow_half h1
  omega
theorem wrapS_in {b : Nat} (h1 : 1 ≤ b) (h2 : b ≤ 64) {n : Int} (hl : -2 ^ (b - 1) ≤ n) (hh : n ≤ 2 ^ (b - 1) - 1) : wrapS b n = n := by
  rw [wrapS_form h1 h2, Int.emod_eq_of_lt (by omega) (by have := pow_half h1; omega)]
  omega
theorem wrapS_self {b : Nat} (h1 : 1 ≤ b) (h2 : b ≤ 64) (n : Int) : wrapS b (wrapS b n) = wrapS b n :=
  wrapS_in h1 h2 (wrapS_range h1 h2 n).1 (wrapS_range h1 h2 n).2
theorem wrapU_S {b : Nat} (h1 : 1 ≤ b) (h2 : b ≤ 64) (n : Int) : wrapU b (wrapS b n) = wrapU b n := by
  rw [wrapU_form h1 h2, wrapU_form h1 h2, wrapS_form h1 h2, Int.emod_sub_emod]
  congr 1; omega
theorem wrapU_64 (n : Int) : wrapU 64 n = IntKind.u64.wrap n := by
  rw [wrapU_form (by decide) (by decide), IntKind.wrap_u64]; rfl
theorem wrapU_lt {b : Nat} (h1 : 1 ≤ b) (h2 : b ≤ 64) (n : Int) : 0 ≤ wrapU b n ∧ wrapU b n < 2 ^ b := by
  rw [wrapU_form h1 h2]
  exact ⟨Int.emod_nonneg _ (by have := pow_pos' b; omega), Int.emod_lt_of_pos _ (pow_pos' b)⟩
theorem wrapU_diff {b : Nat} (h1 : 1 ≤ b) (h2 : b ≤ 64) (n : Int) : IntKind.u64.wrap (wrapU b n - IntKind.u64.wrap n) % 2 ^ b = 0 := by
  have hd : ((2 : Int) ^ b) ∣ 18446744073709551616 := ⟨2 ^ (64 - b), (pow_split h1 h2).symm⟩
  rw [wrapU_form h1 h2, IntKind.wrap_u64, IntKind.wrap_u64, Int.emod_emod_of_dvd _ hd, Int.emod_sub_emod, Int.sub_emod, Int.emod_emod_of_dvd _ hd, Int.sub_self, Int.zero_emod]
theorem wrapS_add {b : Nat} (h1 : 1 ≤ b) (h2 : b ≤ 64) (n k : Int) : wrapS b (IntKind.i64.wrap (n + IntKind.i64.wrap (k * 2 ^ b))) = wrapS b n := by
  have hs := pow_split h1 h2
  rw [wrapS_form h1 h2, wrapS_form h1 h2]
  have hz : IntKind.i64.wrap (k * 2 ^ b) % 2 ^ b = 0 := by rw [wrap_mod hs, Int.mul_emod_left]
  have hy : IntKind.i64.wrap (n + IntKind.i64.wrap (k * 2 ^ b)) % 2 ^ b = n % 2 ^ b := by rw [wrap_mod hs, Int.add_emod, hz, Int.add_zero, Int.emod_emod]
  rw [← Int.emod_add_emod (IntKind.i64.wrap (n + IntKind.i64.wrap (k * 2 ^ b))), hy, Int.emod_add_emod]
theorem itoa_small {b : Nat} (h : b < 100) : Lib.itoa (b : Int) = if b < 10 then [UInt8.ofNat (48 + b)] else [UInt8.ofNat (48 + b / 10), UInt8.ofNat (48 + b % 10)] := by
  rw [Lib.itoa_nonneg]
  split
  · rename_i h'; exact Lib.decDigits_one h'
  · rename_i h'; exact Lib.decDigits_two h' h
theorem elem_bits : ∀ b : Fin 65, 1 ≤ b.val → (elemOf (105 :: (if b.val < 10 then [UInt8.ofNat (48 + b.val)] else [UInt8.ofNat (48 + b.val / 10), UInt8.ofNat (48 + b.val % 10)]))).map (fun q => (q.kind, q.bits, q.ext)) = some (0, b.val, []) := by decide +kernel
theorem elemOf_bits {b : Nat} (h1 : 1 ≤ b) (h2 : b ≤ 64) : elemOf (105 :: Lib.itoa (b : Int)) = some ⟨0, b, []⟩ := by
  have := elem_bits ⟨b, by omega⟩ h1
  dsimp only at this
  rw [← itoa_small (by omega), Option.map_eq_some_iff] at this
  obtain ⟨⟨k, c, x⟩, h, he⟩ := this
  rw [h]
  simp only [Prod.mk.injEq] at he
  obtain ⟨rfl, rfl, rfl⟩ := he
  rfl
end Go.Proofs.YthgiianmfehcaaaDoor
