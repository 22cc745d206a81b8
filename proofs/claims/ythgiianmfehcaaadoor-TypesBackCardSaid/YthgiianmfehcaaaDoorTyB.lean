/- Package types: Element, Cells, Range, Wrap, Unsigned. -/
import Derived.Test.YthgiianmfehcaaaDoorTyA
namespace Go.Proofs.YthgiianmfehcaaaDoor
open Go Go.RowKit
set_option linter.unusedVariables false
set_option linter.unusedSimpArgs false

theorem below_next {w W w2 : World} (h : Below w.heap.size w W) (hb : Below W.heap.size W w2) : Below w.heap.size w w2 := h.trans (hb.mono h.size)
theorem ext_take {l : List Nat} (h : l.length ≤ 3) : List.take l.length [((l[0]?.getD 0 : Nat) : Int), ((l[1]?.getD 0 : Nat) : Int), ((l[2]?.getD 0 : Nat) : Int)] = l.map (fun (n : Nat) => (n : Int)) := by
  match l, h with
  | [], _ => rfl
  | [a], _ => rfl
  | [a, b], _ => rfl
  | [a, b, c], _ => rfl
  | _ :: _ :: _ :: _ :: _, h => simp at h
section
variable (s : ByteArray) (w : World) (hs : s.size ≤ 140737488355328)
include hs
set_option maxRecDepth 100000 in
set_option maxHeartbeats 2000000 in
theorem elementOf_any : Calls Tryd.prog 35 #[.string s] w fun e w' => e = .returned (.tuple #[.string ⟨(if (askCel s.data.toList).2 = 0 then elStr (askCel s.data.toList).1.bits else []).toArray⟩, .int .i64 (askCel s.data.toList).2]) ∧ Below w.heap.size w w' := by
  have herr := askOf_err (fun k => k == 2 || k == 3) s.data.toList
  have hz := @askOf_zero (fun k => k == 2 || k == 3) s.data.toList
  obtain ⟨q, hq⟩ : ∃ q, q = askCel s.data.toList := ⟨_, rfl⟩
  rw [show askOf (fun k => k == 2 || k == 3) s.data.toList = q from hq.symm] at herr hz
  have HQ := Lib.hid hq
  clear hq
  obtain ⟨⟨pk, pb, pe⟩, pe2⟩ := q
  dsimp only at herr hz
  rw [← HQ.out]
  dsimp only
  rcases herr with rfl | herr
  · have hok := Lib.hid (hz rfl).2.2
    clear hz
    go_enter Tryd.func35, Tryd.ntmps35
    go_wp2_with (first
      | (go_at_call 45; refine (asked_celled _ _ hs).mono ?_; rintro e w1 ⟨rfl, hb1⟩; rw [← HQ.out]; (simp only [Pd.val]))
      | (go_at_call 63; refine (elm_any _ _ _ _ _ _ _ hok.out.bits).mono ?_; rintro e w2 ⟨rfl, hb2⟩))
    go_ret2
    exact ⟨rfl, (hb1.alloc hb1.size _).trans (hb2.mono (by have := hb1.size; simp; omega))⟩
  · clear hz
    rcases herr with rfl | rfl
    all_goals
      go_enter Tryd.func35, Tryd.ntmps35
      go_wp2_with (first
        | (go_at_call 45; refine (asked_celled _ _ hs).mono ?_; rintro e w1 ⟨rfl, hb1⟩; rw [← HQ.out]; (simp only [Pd.val])))
      go_ret2
      exact ⟨rfl, hb1.alloc hb1.size _⟩
set_option maxRecDepth 100000 in
set_option maxHeartbeats 2000000 in
theorem cells_any : Calls Tryd.prog 33 #[.string s] w fun e w' => e = .returned (.tuple #[.int .i64 (if (askCel s.data.toList).2 = 0 then prodW ((askCel s.data.toList).1.ext.map (fun (n : Nat) => (n : Int))) else 0), .int .i64 (askCel s.data.toList).2]) ∧ Below w.heap.size w w' := by
  have herr := askOf_err (fun k => k == 2 || k == 3) s.data.toList
  have hz := @askOf_zero (fun k => k == 2 || k == 3) s.data.toList
  obtain ⟨q, hq⟩ : ∃ q, q = askCel s.data.toList := ⟨_, rfl⟩
  rw [show askOf (fun k => k == 2 || k == 3) s.data.toList = q from hq.symm] at herr hz
  have HQ := Lib.hid hq
  clear hq
  obtain ⟨⟨pk, pb, pe⟩, pe2⟩ := q
  dsimp only at herr hz
  rw [← HQ.out]
  dsimp only
  rcases herr with rfl | herr
  · have hok := Lib.hid (hz rfl).2.2
    clear hz
    go_enter Tryd.func33, Tryd.ntmps33
    go_wp2_with (first
      | (go_at_call 45; refine (asked_celled _ _ hs).mono ?_; rintro e w1 ⟨rfl, hb1⟩; rw [← HQ.out]; (simp only [Pd.val]))
      | (go_at_call 64; refine (cellsm_any _ _ _ _ _ _ _ hok.out.rank).mono ?_; rintro e w2 ⟨rfl, hb2⟩))
    go_ret2
    refine ⟨?_, (hb1.alloc hb1.size _).trans (hb2.mono (by have := hb1.size; simp; omega))⟩
    show Ending.returned (.tuple #[.int .i64 (prodW (List.take pe.length [((pe[0]?.getD 0 : Nat) : Int), ((pe[1]?.getD 0 : Nat) : Int), ((pe[2]?.getD 0 : Nat) : Int)])), .int .i64 0]) = _
    rw [ext_take hok.out.rank]
  · clear hz
    rcases herr with rfl | rfl
    all_goals
      go_enter Tryd.func33, Tryd.ntmps33
      go_wp2_with (first
        | (go_at_call 45; refine (asked_celled _ _ hs).mono ?_; rintro e w1 ⟨rfl, hb1⟩; rw [← HQ.out]; (simp only [Pd.val])))
      go_ret2
      exact ⟨rfl, hb1.alloc hb1.size _⟩
set_option maxRecDepth 100000 in
set_option maxHeartbeats 2000000 in
theorem range_any : Calls Tryd.prog 14 #[.string s] w fun e w' => e = .returned (.tuple #[.int .i64 (if (askNum s.data.toList).2 = 0 then -2 ^ ((askNum s.data.toList).1.bits - 1) else 0), .int .i64 (if (askNum s.data.toList).2 = 0 then 2 ^ ((askNum s.data.toList).1.bits - 1) - 1 else 0), .int .i64 (askNum s.data.toList).2]) ∧ Below w.heap.size w w' := by
  have herr := askOf_err (fun k => k == 0 || k == 1) s.data.toList
  have hz := @askOf_zero (fun k => k == 0 || k == 1) s.data.toList
  obtain ⟨q, hq⟩ : ∃ q, q = askNum s.data.toList := ⟨_, rfl⟩
  rw [show askOf (fun k => k == 0 || k == 1) s.data.toList = q from hq.symm] at herr hz
  have HQ := Lib.hid hq
  clear hq
  obtain ⟨⟨pk, pb, pe⟩, pe2⟩ := q
  dsimp only at herr hz
  rw [← HQ.out]
  dsimp only
  rcases herr with rfl | herr
  · have hok := Lib.hid (hz rfl).2.2
    have h1 : (1 : Int) ≤ (pb : Int) := by have := (hz rfl).2.1; have h2 := (hz rfl).2.2.num; simp at this h2; omega
    have h2 : (pb : Int) ≤ 64 := by have := hok.out.bits; simp at this; omega
    clear hz
    go_enter Tryd.func14, Tryd.ntmps14
    go_wp2_with (first
      | (go_at_call 45; refine (asked_numeric _ _ hs).mono ?_; rintro e w1 ⟨rfl, hb1⟩; rw [← HQ.out]; (simp only [Pd.val])))
    go_region_with (first
      | (go_at_call 47; refine (low_any _ _ _ _ _ _ _ h1 h2).mono ?_; rintro e w2 ⟨rfl, hb2⟩; have c1 := rdCell hb2 w1.heap.size (by first | (simp; done) | assumption); have hz2 : w1.heap.size < w2.heap.size := by have := hb2.size; (try simp at this); omega)
      | (go_at_call 48; refine (high_any _ _ _ _ _ _ _ h1 h2).mono ?_; rintro e w2 ⟨rfl, hb2⟩; have c1 := rdCell hb2 w1.heap.size (by first | (simp; done) | assumption); have hz2 : w1.heap.size < w2.heap.size := by have := hb2.size; (try simp at this); omega))
    all_goals (try go_wp2)
    all_goals go_ret3
    all_goals (refine ⟨by rfl, ?_⟩; exact below_next (below_next ((hb1.alloc hb1.size _).drew) (by assumption)) hb2)
  · clear hz
    rcases herr with rfl | rfl
    all_goals
      go_enter Tryd.func14, Tryd.ntmps14
      go_wp2_with (first
        | (go_at_call 45; refine (asked_numeric _ _ hs).mono ?_; rintro e w1 ⟨rfl, hb1⟩; rw [← HQ.out]; (simp only [Pd.val])))
      go_ret3
      exact ⟨rfl, hb1.alloc hb1.size _⟩
end
end Go.Proofs.YthgiianmfehcaaaDoor
