/- Package types: Wrap, Unsigned. -/
import Derived.Test.YthgiianmfehcaaaDoorTyB
namespace Go.Proofs.YthgiianmfehcaaaDoor
open Go Go.RowKit
set_option linter.unusedVariables false
set_option linter.unusedSimpArgs false
def wrapS (b : Nat) (n : Int) : Int := IntKind.i64.wrap (n * 2 ^ (64 - b)) / 2 ^ (64 - b)
def wrapU (b : Nat) (n : Int) : Int := IntKind.u64.wrap (IntKind.u64.wrap n * 2 ^ (64 - b)) / 2 ^ (64 - b)
section
variable (s : ByteArray) (w : World) (hs : s.size ≤ 140737488355328)
include hs
set_option maxRecDepth 100000 in
set_option maxHeartbeats 4000000 in
theorem wrap_any (n : Int) (hn0 : -9223372036854775808 ≤ n) (hn1 : n ≤ 9223372036854775807) : Calls Tryd.prog 15 #[.string s, .int .i64 n] w fun e w' => e = .returned (.tuple #[.int .i64 (if (askNum s.data.toList).2 = 0 then wrapS (askNum s.data.toList).1.bits n else 0), .int .i64 (askNum s.data.toList).2]) ∧ Below w.heap.size w w' := by
  have herr := askOf_err (fun k => k == 0 || k == 1) s.data.toList
  have hz := @askOf_zero (fun k => k == 0 || k == 1) s.data.toList
  obtain ⟨q, hq⟩ : ∃ q, q = askNum s.data.toList := ⟨_, rfl⟩
  rw [show askOf (fun k => k == 0 || k == 1) s.data.toList = q from hq.symm] at herr hz
  have HQ := Lib.hid hq
  clear hq
  obtain ⟨⟨pk, pb, pe⟩, pe2⟩ := q
  dsimp only at herr hz
  rw [← HQ.out]
  dsimp only
  rcases herr with rfl | herr
  · have hok := Lib.hid (hz rfl).2.2
    have h1 : (1 : Int) ≤ (pb : Int) := by have := (hz rfl).2.1; have h2 := (hz rfl).2.2.num; simp at this h2; omega
    have h0 : (0 : Int) ≤ (pb : Int) := by omega
    have h2 : (pb : Int) ≤ 64 := by have := hok.out.bits; simp at this; omega
    clear hz
    go_enter Tryd.func15, Tryd.ntmps15
    go_wp2_with (first
      | (go_at_call 45; refine (asked_numeric _ _ hs).mono ?_; rintro e w1 ⟨rfl, hb1⟩; rw [← HQ.out]; (simp only [Pd.val])))
    go_region_with (go_at_call 49; refine (part_any _ _ _ _ _ _ _ h0 h2).mono ?_; rintro e w2 ⟨rfl, hb2⟩; have c1 := rdCell hb2 w1.heap.size (by first | (simp; done) | assumption); have hz2 : w1.heap.size < w2.heap.size := by have := hb2.size; (try simp at this); omega)
    all_goals (try go_wp2)
    all_goals go_ret2
    all_goals (refine ⟨by rfl, ?_⟩; exact below_next (below_next ((hb1.alloc hb1.size _).drew) (by assumption)) hb2)
  · clear hz
    rcases herr with rfl | rfl
    all_goals
      go_enter Tryd.func15, Tryd.ntmps15
      go_wp2_with (first
        | (go_at_call 45; refine (asked_numeric _ _ hs).mono ?_; rintro e w1 ⟨rfl, hb1⟩; rw [← HQ.out]; (simp only [Pd.val])))
      go_ret2
      exact ⟨rfl, hb1.alloc hb1.size _⟩
set_option maxRecDepth 100000 in
set_option maxHeartbeats 4000000 in
theorem unsigned_any (n : Int) (hn0 : -9223372036854775808 ≤ n) (hn1 : n ≤ 9223372036854775807) : Calls Tryd.prog 16 #[.string s, .int .i64 n] w fun e w' => e = .returned (.tuple #[.int .u64 (if (askNum s.data.toList).2 = 0 then wrapU (askNum s.data.toList).1.bits n else 0), .int .i64 (askNum s.data.toList).2]) ∧ Below w.heap.size w w' := by
  have herr := askOf_err (fun k => k == 0 || k == 1) s.data.toList
  have hz := @askOf_zero (fun k => k == 0 || k == 1) s.data.toList
  obtain ⟨q, hq⟩ : ∃ q, q = askNum s.data.toList := ⟨_, rfl⟩
  rw [show askOf (fun k => k == 0 || k == 1) s.data.toList = q from hq.symm] at herr hz
  have HQ := Lib.hid hq
  clear hq
  obtain ⟨⟨pk, pb, pe⟩, pe2⟩ := q
  dsimp only at herr hz
  rw [← HQ.out]
  dsimp only
  rcases herr with rfl | herr
  · have hok := Lib.hid (hz rfl).2.2
    have h1 : (1 : Int) ≤ (pb : Int) := by have := (hz rfl).2.1; have h2 := (hz rfl).2.2.num; simp at this h2; omega
    have h0 : (0 : Int) ≤ (pb : Int) := by omega
    have h2 : (pb : Int) ≤ 64 := by have := hok.out.bits; simp at this; omega
    clear hz
    go_enter Tryd.func16, Tryd.ntmps16
    go_wp2_with (first
      | (go_at_call 45; refine (asked_numeric _ _ hs).mono ?_; rintro e w1 ⟨rfl, hb1⟩; rw [← HQ.out]; (simp only [Pd.val])))
    go_region_with (go_at_call 49; refine (part_any _ _ _ _ _ _ _ h0 h2).mono ?_; rintro e w2 ⟨rfl, hb2⟩; have c1 := rdCell hb2 w1.heap.size (by first | (simp; done) | assumption); have hz2 : w1.heap.size < w2.heap.size := by have := hb2.size; (try simp at this); omega)
    all_goals (try go_wp2)
    all_goals go_ret2
    all_goals (refine ⟨by rfl, ?_⟩; exact below_next (below_next ((hb1.alloc hb1.size _).drew) (by assumption)) hb2)
  · clear hz
    rcases herr with rfl | rfl
    all_goals
      go_enter Tryd.func16, Tryd.ntmps16
      go_wp2_with (first
        | (go_at_call 45; refine (asked_numeric _ _ hs).mono ?_; rintro e w1 ⟨rfl, hb1⟩; rw [← HQ.out]; (simp only [Pd.val])))
      go_ret2
      exact ⟨rfl, hb1.alloc hb1.size _⟩
end
end Go.Proofs.YthgiianmfehcaaaDoor
