/- The walk of the statement TypesNumbers. -/
import Derived.Test.YthgiianmfehcaaaDoorLw1
namespace Go.Proofs.YthgiianmfehcaaaDoor
open Go Go.RowKit Go.Sort
set_option linter.unusedVariables false
set_option linter.unusedSimpArgs false

set_option maxRecDepth 100000 in
set_option maxHeartbeats 4000000 in
theorem numbers_law (s : ByteArray) (hs : s.size ≤ 140737488351232) (n : Int) (hn0 : -9223372036854775808 ≤ n) (hn1 : n ≤ 9223372036854775807) (w : World) (hg : Glob w) :
    Calls Tryd.prog 4 #[.string s, .int .i64 n] w fun e w' => e = .returned (.bool true) ∧ Below w.heap.size w w' := by
  have hs2 : s.size ≤ 140737488355328 := by omega
  have HG := Lib.hid hg
  have err : ∀ x : Nat, (readOf s.data.toList).isSome = decide (x = 0) → (elemOf s.data.toList).isSome = false → (x = 0 ∨ x = 9) → askNum s.data.toList = (⟨0, 0, []⟩, x + 1) →
      Calls Tryd.prog 4 #[.string s, .int .i64 n] w fun e w' => e = .returned (.bool true) ∧ Below w.heap.size w w' := by
    intro x hr he hx ha
    have HR := Lib.hid hr
    have HE := Lib.hid he
    have HA := Lib.hid ha
    clear hr he ha hg
    rcases hx with rfl | rfl
    all_goals
      go_enter Tryd.func4, Tryd.ntmps4
      go_wp2_with (first
        | (go_at_call 14; refine (range_err _ _ hs2 HA.out).mono ?_; rintro e w1 ⟨rfl, hb1⟩)
        | (go_at_call 15; refine (wrap_err _ _ hs2 _ hn0 hn1 HA.out).mono ?_; rintro e w2 ⟨rfl, hb2⟩)
        | (go_at_call 16; refine (unsigned_err _ _ hs2 _ hn0 hn1 HA.out).mono ?_; rintro e w3 ⟨rfl, hb3⟩)
        | (go_at_call 17; refine (ris_any _ _ hs2).mono ?_; rintro e w4 ⟨rfl, hb4⟩; rw [HR.out])
        | (go_at_call 18; refine (risNum_any _ _).mono ?_; rintro e w5 ⟨rfl, rfl⟩; rw [HE.out])
        | (go_at_call 13; refine (awake_any _ (HG.out.below (below_next (below_next (below_next hb1 hb2) hb3) hb4))).mono ?_; rintro e w6 ⟨rfl, hb6⟩))
      go_ret
      exact ⟨rfl, below_next (below_next (below_next (below_next hb1 hb2) hb3) hb4) hb6⟩
  cases he : elemOf s.data.toList with
  | none =>
    cases hr : readOf s.data.toList with
    | none => exact err 9 (by rw [hr]; rfl) (by rw [he]; rfl) (.inr rfl) (askOf_no hr)
    | some q => exact err 0 (by rw [hr]; rfl) (by rw [he]; rfl) (.inl rfl) (askNum_other he hr)
  | some q =>
    have hr : (readOf s.data.toList).isSome = true := by rw [readOf_num he]; rfl
    have hb0 : 1 ≤ q.bits := ((elemOf_ok he).1.num (elemOf_ok he).2).1
    have hb1 : q.bits ≤ 64 := (elemOf_ok he).1.bits
    obtain ⟨lo, hlo⟩ : ∃ lo : Int, lo = -2 ^ (q.bits - 1) := ⟨_, rfl⟩
    obtain ⟨hi, hhi⟩ : ∃ hi : Int, hi = 2 ^ (q.bits - 1) - 1 := ⟨_, rfl⟩
    obtain ⟨ws, hws⟩ : ∃ ws : Int, ws = wrapS q.bits n := ⟨_, rfl⟩
    obtain ⟨wu, hwu⟩ : ∃ wu : Int, wu = wrapU q.bits n := ⟨_, rfl⟩
    have HLO := Lib.hid hlo
    have HHI := Lib.hid hhi
    have HWS := Lib.hid hws
    have HWU := Lib.hid hwu
    have HR := Lib.hid hr
    have HE := Lib.hid he
    clear hlo hhi hws hwu hr he hg err
    go_enter Tryd.func4, Tryd.ntmps4
    go_wp2_with (first
      | (go_at_call 14; refine (range_num _ _ hs2 HE.out).mono ?_; rintro e w1 ⟨rfl, hq1⟩; rw [← HLO.out, ← HHI.out])
      | (go_at_call 15; refine (wrap_num _ _ hs2 _ hn0 hn1 HE.out).mono ?_; rintro e w2 ⟨rfl, hq2⟩; rw [← HWS.out])
      | (go_at_call 16; refine (unsigned_num _ _ hs2 _ hn0 hn1 HE.out).mono ?_; rintro e w3 ⟨rfl, hq3⟩; rw [← HWU.out])
      | (go_at_call 17; refine (ris_any _ _ hs2).mono ?_; rintro e w4 ⟨rfl, hq4⟩; rw [HR.out])
      | (go_at_call 18; refine (risNum_any _ _).mono ?_; rintro e w5 ⟨rfl, rfl⟩; rw [HE.out, Option.isSome_some])
      | (go_at_call 19; refine (rbits_some _ _ _ HE.out).mono ?_; rintro e w6 ⟨rfl, rfl⟩)
      | (go_at_call 20; refine (rlow_any _ hb0 hb1 _).mono ?_; rintro e w6 ⟨rfl, rfl⟩; rw [← HLO.out])
      | (go_at_call 21; refine (rhigh_any _ hb0 hb1 _).mono ?_; rintro e w6 ⟨rfl, rfl⟩; rw [← HHI.out])
      | (go_at_call 22; refine (rwrap_any _ hb0 hb1 _ hn0 hn1 _).mono ?_; rintro e w6 ⟨rfl, rfl⟩; rw [show IntKind.i64.wrap (n * 2 ^ (64 - q.bits)) / 2 ^ (64 - q.bits) = ws from HWS.out.symm])
      | (go_at_call 23; refine (runsigned_any _ hb0 hb1 _ hn0 hn1 _).mono ?_; rintro e w6 ⟨rfl, rfl⟩; rw [show IntKind.u64.wrap (IntKind.u64.wrap n * 2 ^ (64 - q.bits)) / 2 ^ (64 - q.bits) = wu from HWU.out.symm])
      | (go_at_call 13; refine (awake_any _ (HG.out.below (below_next (below_next (below_next hq1 hq2) hq3) hq4))).mono ?_; rintro e w6 ⟨rfl, hq6⟩))
    go_ret
    exact ⟨rfl, below_next (below_next (below_next (below_next hq1 hq2) hq3) hq4) hq6⟩
end Go.Proofs.YthgiianmfehcaaaDoor
