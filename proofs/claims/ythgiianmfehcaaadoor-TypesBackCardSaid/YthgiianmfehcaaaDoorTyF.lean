/- Package types: Turned, Shape. -/
import Derived.Test.YthgiianmfehcaaaDoorTyE
namespace Go.Proofs.YthgiianmfehcaaaDoor
open Go Go.RowKit Go.Sort
set_option linter.unusedVariables false
set_option linter.unusedSimpArgs false

section
set_option maxRecDepth 100000 in
theorem turnedm_any (k : Nat) (b r x y z : Int) (w : World) (hk : k ≤ 5) : Calls Tryd.prog 65 #[pv k b r x y z] w fun e w' => e = .returned (pv (5 - k : Nat) b r x y z) ∧ Below w.heap.size w w' := by
  have hk1 : (k : Int) ≤ 5 := by omega
  go_enter Tryd.func65, Tryd.ntmps65
  go_wp2_with (go_at_call 81; refine (other_any _ _ _ _ _ _ _ (Int.natCast_nonneg k) hk1).mono ?_; rintro e w1 ⟨rfl, hb1⟩; have c0 := rdCell hb1 w.heap.size (by simp; omega); have f0 := rdFree hb1 w.heap.size (by simp; omega); have c1 := rdCell hb1 (w.heap.size + 1) (by simp); have f1 := rdFree hb1 (w.heap.size + 1) (by simp); have hz1 : w.heap.size + 1 < w1.heap.size := (by have := hb1.size; simp at this; omega))
  refine bodyPost_ret (v := pv (5 - k : Nat) b r x y z) (by simp [results, Tryd.results65, go_sem, c0, c1, hz1, (show w.heap.size < w1.heap.size by omega)]; omega) rfl ?_
  refine ⟨rfl, ?_⟩
  have hbw := (((Below.refl _ w).alloc (Nat.le_refl _) (.cells #[.int .i64 k, .int .i64 b, .int .i64 r, .int .i64 x, .int .i64 y, .int .i64 z] 73)).alloc (by simp) (.cells zCells 73)).trans (hb1.mono (by simp; omega))
  repeat (with_reducible (first | exact hbw | refine below_set ?_ (Nat.le_refl _) _ _ | refine below_set ?_ (Nat.le_succ _) _ _))
end
section
variable (s : ByteArray) (w : World) (hs : s.size ≤ 140737488355328)
include hs
set_option maxRecDepth 100000 in
set_option maxHeartbeats 2000000 in
theorem turned_any (hp : Pow w) : Calls Tryd.prog 36 #[.string s] w fun e w' => e = .returned (.tuple #[.string ⟨(if (askCel s.data.toList).2 = 0 then textOf (5 - (askCel s.data.toList).1.kind : Nat) ((askCel s.data.toList).1.ext.map (fun (n : Nat) => (n : Int))) (elStr (askCel s.data.toList).1.bits) else []).toArray⟩, .int .i64 (askCel s.data.toList).2]) ∧ Below w.heap.size w w' := by
  have herr := askOf_err (fun k => k == 2 || k == 3) s.data.toList
  have hz := @askOf_zero (fun k => k == 2 || k == 3) s.data.toList
  obtain ⟨q, hq⟩ : ∃ q, q = askCel s.data.toList := ⟨_, rfl⟩
  rw [show askOf (fun k => k == 2 || k == 3) s.data.toList = q from hq.symm] at herr hz
  have HQ := Lib.hid hq
  have HP := Lib.hid hp
  clear hq hp
  obtain ⟨⟨pk, pb, pe⟩, pe2⟩ := q
  dsimp only at herr hz
  rw [← HQ.out]
  dsimp only
  rcases herr with rfl | herr
  · have hok := Lib.hid (hz rfl).2.2
    have hk : pk = 2 ∨ pk = 3 := by have := (hz rfl).2.1; simp at this; omega
    have hk5 : 5 - pk = 2 ∨ 5 - pk = 3 := by omega
    have hkl : pk ≤ 5 := by omega
    clear hz
    have HK := Lib.hid hk5
    clear hk hk5
    go_enter Tryd.func36, Tryd.ntmps36
    go_wp2_with (first
      | (go_at_call 45; refine (asked_celled _ _ hs).mono ?_; rintro e w1 ⟨rfl, hb1⟩; rw [← HQ.out]; (simp only [Pd.val]))
      | (go_at_call 65; refine (turnedm_any pk _ _ _ _ _ _ hkl).mono ?_; rintro e w2 ⟨rfl, hb2⟩)
      | (go_at_call 66; refine (textm_any (5 - pk) pb pe.length (pe.map (fun (n : Nat) => (n : Int))) _ _ _ w2 HK.out hok.out.bits hok.out.rank (ext_take hok.out.rank) ?_ ?_).mono ?_; (intro u hu; simp at hu; obtain ⟨a, ha, rfl⟩ := hu; have := hok.out.each a ha; omega); (exact pow_below HP.out (below_next (hb1.alloc hb1.size _) hb2)); rintro e w3 ⟨rfl, hb3⟩))
    go_ret2
    refine ⟨rfl, below_next (below_next (hb1.alloc hb1.size _) hb2) hb3⟩
  · clear hz
    rcases herr with rfl | rfl
    all_goals
      go_enter Tryd.func36, Tryd.ntmps36
      go_wp2_with (first
        | (go_at_call 45; refine (asked_celled _ _ hs).mono ?_; rintro e w1 ⟨rfl, hb1⟩; rw [← HQ.out]; (simp only [Pd.val])))
      go_ret2
      exact ⟨rfl, hb1.alloc hb1.size _⟩
end
end Go.Proofs.YthgiianmfehcaaaDoor
