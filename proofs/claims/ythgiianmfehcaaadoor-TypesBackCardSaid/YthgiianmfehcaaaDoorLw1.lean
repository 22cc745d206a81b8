/- What the laws use of types: the program's answers where a string is a number type, another type, or none. -/
import Derived.Test.YthgiianmfehcaaaDoorRf9
import Derived.Test.YthgiianmfehcaaaDoorLw0
namespace Go.Proofs.YthgiianmfehcaaaDoor
open Go Go.RowKit Go.Sort
set_option linter.unusedVariables false
set_option linter.unusedSimpArgs false

theorem readOf_num {l : List UInt8} {q : Pd} (h : elemOf l = some q) : readOf l = some q := by unfold readOf; rw [h]
theorem readOf_kind {l : List UInt8} {q : Pd} (h : elemOf l = none) (hr : readOf l = some q) : 2 ≤ q.kind := by
  have hsh : ∀ {k : Nat} {l : List UInt8} {q : Pd}, shapeOf k l = some q → q.kind = k := fun h => by
    unfold shapeOf at h
    rw [Option.map_eq_some_iff] at h
    obtain ⟨r, -, rfl⟩ := h
    rfl
  have hfo : ∀ {l : List UInt8} {q : Pd}, foreignOf l = some q → q.kind = 4 := fun h => by rw [foreignOf_ok h]
  unfold readOf at hr
  rw [h] at hr
  dsimp only at hr
  split at hr
  · split at hr
    · rw [hsh hr]; decide
    · split at hr
      · rw [hsh hr]; decide
      · rw [hfo hr]; decide
  · rw [hfo hr]; decide
theorem askNum_num {l : List UInt8} {q : Pd} (h : elemOf l = some q) : askNum l = (q, 0) := by
  have hk := (elemOf_ok h).2
  unfold askNum askOf
  rw [readOf_num h]
  dsimp only
  rw [if_pos]
  simp; omega
theorem askNum_other {l : List UInt8} {q : Pd} (h : elemOf l = none) (hr : readOf l = some q) : askNum l = (⟨0, 0, []⟩, 1) := by
  have hk := readOf_kind h hr
  unfold askNum askOf
  rw [hr]
  dsimp only
  rw [if_neg]
  simp; omega
theorem askOf_no {P : Nat → Bool} {l : List UInt8} (hr : readOf l = none) : askOf P l = (⟨0, 0, []⟩, 10) := by
  unfold askOf; rw [hr]
section
variable (s : ByteArray) (w : World) (hs : s.size ≤ 140737488355328) (n : Int) (hn0 : -9223372036854775808 ≤ n) (hn1 : n ≤ 9223372036854775807)
include hs
theorem range_num {q : Pd} (h : elemOf s.data.toList = some q) : Calls Tryd.prog 14 #[.string s] w fun e w' => e = .returned (.tuple #[.int .i64 (-2 ^ (q.bits - 1)), .int .i64 (2 ^ (q.bits - 1) - 1), .int .i64 0]) ∧ Below w.heap.size w w' :=
  (range_any s w hs).mono fun e w' ⟨he, hb⟩ => ⟨by rw [he, askNum_num h]; rfl, hb⟩
theorem range_err {x : Nat} (h : askNum s.data.toList = (⟨0, 0, []⟩, x + 1)) : Calls Tryd.prog 14 #[.string s] w fun e w' => e = .returned (.tuple #[.int .i64 0, .int .i64 0, .int .i64 (x + 1 : Nat)]) ∧ Below w.heap.size w w' :=
  (range_any s w hs).mono fun e w' ⟨he, hb⟩ => ⟨by rw [he, h]; rfl, hb⟩
include hn0 hn1
theorem wrap_num {q : Pd} (h : elemOf s.data.toList = some q) : Calls Tryd.prog 15 #[.string s, .int .i64 n] w fun e w' => e = .returned (.tuple #[.int .i64 (wrapS q.bits n), .int .i64 0]) ∧ Below w.heap.size w w' :=
  (wrap_any s w hs n hn0 hn1).mono fun e w' ⟨he, hb⟩ => ⟨by rw [he, askNum_num h]; rfl, hb⟩
theorem wrap_err {x : Nat} (h : askNum s.data.toList = (⟨0, 0, []⟩, x + 1)) : Calls Tryd.prog 15 #[.string s, .int .i64 n] w fun e w' => e = .returned (.tuple #[.int .i64 0, .int .i64 (x + 1 : Nat)]) ∧ Below w.heap.size w w' :=
  (wrap_any s w hs n hn0 hn1).mono fun e w' ⟨he, hb⟩ => ⟨by rw [he, h]; rfl, hb⟩
theorem unsigned_num {q : Pd} (h : elemOf s.data.toList = some q) : Calls Tryd.prog 16 #[.string s, .int .i64 n] w fun e w' => e = .returned (.tuple #[.int .u64 (wrapU q.bits n), .int .i64 0]) ∧ Below w.heap.size w w' :=
  (unsigned_any s w hs n hn0 hn1).mono fun e w' ⟨he, hb⟩ => ⟨by rw [he, askNum_num h]; rfl, hb⟩
theorem unsigned_err {x : Nat} (h : askNum s.data.toList = (⟨0, 0, []⟩, x + 1)) : Calls Tryd.prog 16 #[.string s, .int .i64 n] w fun e w' => e = .returned (.tuple #[.int .u64 0, .int .i64 (x + 1 : Nat)]) ∧ Below w.heap.size w w' :=
  (unsigned_any s w hs n hn0 hn1).mono fun e w' ⟨he, hb⟩ => ⟨by rw [he, h]; rfl, hb⟩
end
end Go.Proofs.YthgiianmfehcaaaDoor
