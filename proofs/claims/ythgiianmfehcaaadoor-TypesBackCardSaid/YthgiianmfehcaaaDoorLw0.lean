/- Make, in the program and in the reference, at whatever arguments. -/
import Derived.Test.YthgiianmfehcaaaDoorRf3
import Derived.Test.YthgiianmfehcaaaDoorAw1
namespace Go.Proofs.YthgiianmfehcaaaDoor
open Go Go.RowKit Go.Sort
set_option linter.unusedVariables false
set_option linter.unusedSimpArgs false

theorem makeOf_kind {k : Int} {zs : List Int} {el : List UInt8} (h : (k ≠ 2 ∧ k ≠ 3) ∨ 3 < (zs.length : Int)) : makeOf k zs el = ([], 1) := by
  rw [makeOf, if_pos]
  rcases h with h | h
  · exact .inl h
  · exact .inr (.inl (by omega))
theorem make_all (k : Int) (a : Option Addr) (c : Nat) (zs : List Int) (el : ByteArray) (w : World) (hp : Pow w) (hs : IntSl w a zs) :
    Calls Tryd.prog 11 #[.int .i64 k, .slice a zs.length c, .string el] w fun e w' => e = .returned (.tuple #[.string ⟨(makeOf k zs el.data.toList).1.toArray⟩, .int .i64 (makeOf k zs el.data.toList).2]) ∧ Below w.heap.size w w' := by
  by_cases h : (k ≠ 2 ∧ k ≠ 3) ∨ 3 < (zs.length : Int)
  · rw [makeOf_kind h]
    exact (make_kind k a zs.length c el w h).mono fun e w' ⟨he, hw⟩ => ⟨he, by rw [hw]; exact Below.refl _ _⟩
  · have hk : k = 2 ∨ k = 3 := by omega
    rcases hk with rfl | rfl
    · exact make_rest 2 (.inl rfl) a c zs el w hp hs (by omega)
    · exact make_rest 3 (.inr rfl) a c zs el w hp hs (by omega)
theorem rmake_all (k : Int) (a : Option Addr) (c : Nat) (zs : List Int) (el : ByteArray) (w : World) (hs : IntSl w a zs) :
    Calls Tryd.prog 12 #[.int .i64 k, .slice a zs.length c, .string el] w fun e w' => e = .returned (.tuple #[.string ⟨(makeOf k zs el.data.toList).1.toArray⟩, .int .i64 (makeOf k zs el.data.toList).2]) ∧ Below w.heap.size w w' := by
  by_cases h : (k ≠ 2 ∧ k ≠ 3) ∨ 3 < (zs.length : Int)
  · rw [makeOf_kind h]
    exact (rmake_kind k a zs.length c el w h).mono fun e w' ⟨he, hw⟩ => ⟨he, by rw [hw]; exact Below.refl _ _⟩
  · have hk : k = 2 ∨ k = 3 := by omega
    rcases hk with rfl | rfl
    · exact rmake_rest 2 (.inl rfl) a c zs el w hs (by omega)
    · exact rmake_rest 3 (.inr rfl) a c zs el w hs (by omega)
end Go.Proofs.YthgiianmfehcaaaDoor
