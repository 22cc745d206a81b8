/- Package types: what is told of a type that was read, without text. -/
import Derived.Test.YthgiianmfehcaaaDoorTy8
import Derived.Test.YthgiianmfehcaaaDoorShelf
namespace Go.Proofs.YthgiianmfehcaaaDoor
open Go Go.RowKit
set_option linter.unusedVariables false
set_option linter.unusedSimpArgs false

/-- What is so of every type that is read. -/
structure PdOk (q : Pd) : Prop where
  kind : q.kind ≤ 4
  bits : q.bits ≤ 64
  num : q.kind ≤ 1 → 1 ≤ q.bits ∧ q.ext = []
  rank : q.ext.length ≤ 3
  each : ∀ e ∈ q.ext, e ≤ 1000
  prod : prodN q.ext ≤ 4096

theorem elemOf_ok {l : List UInt8} {q : Pd} (h : elemOf l = some q) : PdOk q ∧ q.kind ≤ 1 := by
  unfold elemOf at h
  split at h
  · cases h; exact ⟨⟨by decide, by decide, by decide, by decide, by simp, by simp [prodN]⟩, by decide⟩
  · split at h
    · split at h
      · split at h
        · cases h; exact ⟨⟨by simp, by simp; omega, by simp; omega, by simp, by simp, by simp [prodN]⟩, by simp⟩
        · cases h
      · cases h
    · cases h
theorem shapeP_ok : ∀ (ps : List (List UInt8 × Bool)) (ext : List Nat) (r : List Nat × Nat), shapeP ext ps = some r → ext.length ≤ 3 → (∀ e ∈ ext, e ≤ 1000) → r.1.length ≤ 3 ∧ (∀ e ∈ r.1, e ≤ 1000) ∧ prodN r.1 ≤ 4096 ∧ r.2 ≤ 64
  | [], ext, r, h, _, _ => by simp [shapeP] at h
  | (p, true) :: rest, ext, r, h, hl, he => by
    simp only [shapeP] at h
    split at h
    · rename_i e hee
      have hb := (elemOf_ok hee).1.bits
      split at h
      · cases h; refine ⟨hl, he, by assumption, ?_⟩
        dsimp only; split <;> omega
      · cases h
    · cases h
  | (p, false) :: rest, ext, r, h, hl, he => by
    simp only [shapeP] at h
    split at h
    · rename_i n hn
      split at h
      · rename_i hc
        exact shapeP_ok rest _ r h (by simp; omega) (fun e hm => by simp at hm; rcases hm with hm | rfl; exact he e hm; exact hc.1)
      · cases h
    · cases h
theorem shapeOf_ok {k : Nat} {l : List UInt8} {q : Pd} (h : shapeOf k l = some q) (h2 : 2 ≤ k) (h3 : k ≤ 3) : PdOk q := by
  unfold shapeOf at h
  rw [Option.map_eq_some_iff] at h
  obtain ⟨r, hr, rfl⟩ := h
  obtain ⟨a, b, c, d⟩ := shapeP_ok _ _ _ hr (by simp) (by simp)
  exact ⟨by simp; omega, d, fun h => by simp at h; omega, a, b, c⟩
theorem foreignOf_ok {l : List UInt8} {q : Pd} (h : foreignOf l = some q) : q = ⟨4, 0, []⟩ := by
  unfold foreignOf at h
  split at h
  · split at h
    · cases h
    · split at h
      · cases h; rfl
      · cases h
  · cases h
theorem readOf_ok {l : List UInt8} {q : Pd} (h : readOf l = some q) : PdOk q := by
  have hfor : ∀ {l : List UInt8} {q : Pd}, foreignOf l = some q → PdOk q := fun h => by
    rw [foreignOf_ok h]; exact ⟨by decide, by decide, by decide, by decide, by simp, by simp [prodN]⟩
  unfold readOf at h
  split at h
  · rename_i p hp
    cases h; exact (elemOf_ok hp).1
  · split at h
    · split at h
      · exact shapeOf_ok h (by decide) (by decide)
      · split at h
        · exact shapeOf_ok h (by decide) (by decide)
        · exact hfor h
    · exact hfor h
theorem askOf_ok (P : Nat → Bool) (l : List UInt8) : PdOk (askOf P l).1 ∨ (askOf P l).1 = ⟨0, 0, []⟩ := by
  unfold askOf
  split
  · exact .inr rfl
  · rename_i q hq
    split
    · exact .inl (readOf_ok hq)
    · exact .inr rfl
theorem askOf_zero {P : Nat → Bool} {l : List UInt8} (h : (askOf P l).2 = 0) : readOf l = some (askOf P l).1 ∧ P (askOf P l).1.kind = true ∧ PdOk (askOf P l).1 := by
  unfold askOf at h ⊢
  split at h
  · cases h
  · rename_i q hq
    split at h
    · rename_i hp; exact ⟨by simp [hp, hq], by simp [hp], by simp only [hp, if_true]; exact readOf_ok hq⟩
    · cases h
theorem askOf_err (P : Nat → Bool) (l : List UInt8) : (askOf P l).2 = 0 ∨ (askOf P l).2 = 1 ∨ (askOf P l).2 = 10 := by
  unfold askOf
  split
  · simp
  · split <;> simp

section
variable (s : ByteArray) (w : World) (hs : s.size ≤ 140737488355328)
include hs
set_option maxRecDepth 100000 in
set_option maxHeartbeats 2000000 in
theorem kindOf_any : Calls Tryd.prog 30 #[.string s] w fun e w' => e = .returned (.tuple #[.int .i64 (askAny s.data.toList).1.kind, .int .i64 (askAny s.data.toList).2]) ∧ Below w.heap.size w w' := by
  go_enter Tryd.func30, Tryd.ntmps30
  go_wp2_with (go_at_call 45; refine (asked_anything _ _ hs).mono ?_; rintro e w1 ⟨rfl, hb1⟩; (simp only [Pd.val]))
  go_ret2
  refine ⟨rfl, ?_⟩
  exact hb1.alloc hb1.size _
set_option maxRecDepth 100000 in
set_option maxHeartbeats 2000000 in
theorem bits_any : Calls Tryd.prog 31 #[.string s] w fun e w' => e = .returned (.tuple #[.int .i64 (askNum s.data.toList).1.bits, .int .i64 (askNum s.data.toList).2]) ∧ Below w.heap.size w w' := by
  go_enter Tryd.func31, Tryd.ntmps31
  go_wp2_with (go_at_call 45; refine (asked_numeric _ _ hs).mono ?_; rintro e w1 ⟨rfl, hb1⟩; (simp only [Pd.val]))
  go_ret2
  refine ⟨rfl, ?_⟩
  exact hb1.alloc hb1.size _
set_option maxRecDepth 100000 in
set_option maxHeartbeats 2000000 in
theorem rank_any : Calls Tryd.prog 34 #[.string s] w fun e w' => e = .returned (.tuple #[.int .i64 (askCel s.data.toList).1.ext.length, .int .i64 (askCel s.data.toList).2]) ∧ Below w.heap.size w w' := by
  go_enter Tryd.func34, Tryd.ntmps34
  go_wp2_with (go_at_call 45; refine (asked_celled _ _ hs).mono ?_; rintro e w1 ⟨rfl, hb1⟩; (simp only [Pd.val]))
  go_ret2
  refine ⟨rfl, ?_⟩
  exact hb1.alloc hb1.size _
set_option maxRecDepth 100000 in
set_option maxHeartbeats 2000000 in
theorem check_any : Calls Tryd.prog 29 #[.string s] w fun e w' => e = .returned (.int .i64 (askAny s.data.toList).2) ∧ Below w.heap.size w w' := by
  have herr := askOf_err (fun _ => true) s.data.toList
  have hz := @askOf_zero (fun _ => true) s.data.toList
  obtain ⟨q, hq⟩ : ∃ q, q = askAny s.data.toList := ⟨_, rfl⟩
  rw [show askOf (fun _ => true) s.data.toList = q from hq.symm] at herr hz
  have HQ := Lib.hid hq
  clear hq
  obtain ⟨⟨pk, pb, pe⟩, pe2⟩ := q
  dsimp only at herr hz
  rw [← HQ.out]
  rcases herr with rfl | herr
  · have hnz : (pk : Int) ≠ 0 ∨ (pb : Int) ≠ 0 := by
      have := (hz rfl).2.2.num
      dsimp only at this; omega
    clear hz
    go_enter Tryd.func29, Tryd.ntmps29
    go_wp2_with (first
      | (go_at_call 45; refine (asked_anything _ _ hs).mono ?_; rintro e w1 ⟨rfl, hb1⟩; rw [← HQ.out]; (simp only [Pd.val]))
      | (go_at_call 60; refine (isZero_any _ _ _ _ _ _ _ hnz).mono ?_; rintro e w2 ⟨rfl, hb2⟩))
    go_ret
    exact ⟨rfl, (hb1.alloc hb1.size _).trans (hb2.mono (by have := hb1.size; simp; omega))⟩
  · clear hz
    rcases herr with rfl | rfl
    all_goals
      go_enter Tryd.func29, Tryd.ntmps29
      go_wp2_with (first
        | (go_at_call 45; refine (asked_anything _ _ hs).mono ?_; rintro e w1 ⟨rfl, hb1⟩; rw [← HQ.out]; (simp only [Pd.val])))
      go_ret
      exact ⟨rfl, hb1.alloc hb1.size _⟩
end
end Go.Proofs.YthgiianmfehcaaaDoor
