/- Package types: the parts of a type with cells; ranges. -/
import Derived.Test.YthgiianmfehcaaaDoorTy9
namespace Go.Proofs.YthgiianmfehcaaaDoor
open Go Go.RowKit
set_option linter.unusedVariables false
set_option linter.unusedSimpArgs false

/-- The element type of a type with cells. -/
def elStr (b : Nat) : List UInt8 := if b = 0 then [105, 110, 100, 101, 120] else 105 :: Lib.decDigits b

theorem digs_small {b : Nat} (h : b < 100) : (Lib.decDigits b).length ≤ 2 := by
  rw [Lib.decDigits_length]
  unfold Lib.nDigits
  split
  · omega
  · unfold Lib.nDigits
    rw [dif_pos (by omega)]
    omega
section
variable (k : Int) (b : Nat) (r x y z : Int) (w : World)
set_option maxRecDepth 100000 in
theorem elm_any (hb : b ≤ 64) : Calls Tryd.prog 63 #[pv k b r x y z] w fun e w' => e = .returned (.string ⟨(elStr b).toArray⟩) ∧ Below w.heap.size w w' := by
  by_cases h : b = 0
  · subst h
    go_enter Tryd.func63, Tryd.ntmps63
    go_wp2_with fail
    go_ret
    exact ⟨rfl, (Below.refl _ w).alloc (Nat.le_refl _) _⟩
  · have hb0 : ¬ (b : Int) = 0 := by omega
    have hlen : ¬ 9223372036854775807 < 1 + (Lib.decDigits b).length := by have := digs_small (by omega : b < 100); omega
    go_enter Tryd.func63, Tryd.ntmps63
    go_wp2_with (go_at_call 72; refine (Tryd.strconv_Itoa_small b (by omega) _).mono ?_; rintro e w1 ⟨rfl, rfl⟩)
    go_ret
    refine ⟨?_, (Below.refl _ w).alloc (Nat.le_refl _) _⟩
    rw [elStr, if_neg h]
    congr 2
theorem ext_cells {c : Array Value} (hc : c = #[.int .i64 k, .int .i64 b, .int .i64 r, .int .i64 x, .int .i64 y, .int .i64 z]) (t : TypeId) (j : Nat) (hj : j < 3) : (w.alloc (.cells c t (0, 0))).cell? ⟨w.heap.size, 3 + j, none⟩ = some (.int .i64 ([x, y, z].getD j 0)) := by
  rw [blkCell (heap_alloc_new w _), hc]
  match j, hj with
  | 0, _ => rfl
  | 1, _ => rfl
  | 2, _ => rfl
set_option maxRecDepth 100000 in
theorem cellsm_any (n : Nat) (hn : n ≤ 3) : Calls Tryd.prog 64 #[pv k b n x y z] w fun e w' => e = .returned (.int .i64 (prodW ([x, y, z].take n))) ∧ Below w.heap.size w w' := by
  have h71 : (n : Int) ≤ (Tryd.prog.arrayLen 71 : Nat) := by
    have : Tryd.prog.arrayLen 71 = 3 := by kernel_rfl
    rw [this]; omega
  have h0 : (0 : Int) ≤ (n : Int) := by omega
  have h3 : (n : Int) ≤ 3 := by omega
  go_enter Tryd.func64, Tryd.ntmps64
  go_wp2_with (go_at_call 43; refine (product_any w.heap.size 3 n _ [x, y, z] _ (by simpa using hn) (by omega) (fun j hj => ext_cells k b n x y z w rfl _ j hj)).mono ?_; rintro e w1 ⟨rfl, rfl⟩)
  go_ret
  exact ⟨rfl, (Below.refl _ w).alloc (Nat.le_refl _) _⟩
set_option maxRecDepth 100000 in
theorem listm_any (n : Nat) (hn : n ≤ 3) : Calls Tryd.prog 62 #[pv k b n x y z] w fun e w' => ∃ v, e = .returned v ∧ w'.ownsRow w.heap.size 3 1 v n (([x, y, z].take n).map (.int .i64)) ∧ v ≠ .slice none 0 0 ∧ Below w.heap.size w w' := by
  have h71 : (n : Int) ≤ (Tryd.prog.arrayLen 71 : Nat) := by
    have : Tryd.prog.arrayLen 71 = 3 := by kernel_rfl
    rw [this]; omega
  have h0 : (0 : Int) ≤ (n : Int) := by omega
  have h3 : (n : Int) ≤ 3 := by omega
  go_enter Tryd.func62, Tryd.ntmps62
  go_wp2_with (go_at_call 80; refine (Tryd.slices_Clone_int w.heap.size 3 n _ [x, y, z] _ (by simpa using hn) (by omega) (fun j hj => ext_cells k b n x y z w rfl _ j hj)).mono ?_; rintro e w1 ⟨v, rfl, hown, hv, hb1⟩)
  go_ret
  refine ⟨v, rfl, ?_, hv, ?_⟩
  · obtain ⟨h1, h2⟩ := hown
    refine ⟨h1, ?_⟩
    rcases h2 with h2 | ⟨g, cap, cur, e1, e2, e3⟩
    · exact .inl h2
    · exact .inr ⟨g, cap, cur, e1, by simp at e2; omega, e3⟩
  · exact below_own hb1
end
end Go.Proofs.YthgiianmfehcaaaDoor
