/- Package types: Shape, Make. -/
import Derived.Test.YthgiianmfehcaaaDoorTyF
namespace Go.Proofs.YthgiianmfehcaaaDoor
open Go Go.RowKit Go.Sort
set_option linter.unusedVariables false
set_option linter.unusedSimpArgs false

def extZ (l : List Nat) : List Int := l.map (fun (n : Nat) => (n : Int))
section
variable (s : ByteArray) (w : World) (hs : s.size ≤ 140737488355328)
include hs
set_option maxRecDepth 100000 in
set_option maxHeartbeats 4000000 in
theorem shapeOf_no (h0 : (askCel s.data.toList).2 ≠ 0) : Calls Tryd.prog 32 #[.string s] w fun e w' => e = .returned (.tuple #[.slice none 0 0, .string ⟨#[]⟩, .int .i64 (askCel s.data.toList).2]) ∧ Below w.heap.size w w' := by
  have herr := askOf_err (fun k => k == 2 || k == 3) s.data.toList
  obtain ⟨q, hq⟩ : ∃ q, q = askCel s.data.toList := ⟨_, rfl⟩
  rw [show askOf (fun k => k == 2 || k == 3) s.data.toList = q from hq.symm] at herr
  rw [← hq] at h0
  have HQ := Lib.hid hq
  clear hq
  obtain ⟨⟨pk, pb, pe⟩, pe2⟩ := q
  dsimp only at herr h0
  rw [← HQ.out]
  dsimp only
  rcases herr with rfl | rfl | rfl
  · exact absurd rfl h0
  all_goals
    clear h0
    go_enter Tryd.func32, Tryd.ntmps32
    go_wp2_with (first
      | (go_at_call 45; refine (asked_celled _ _ hs).mono ?_; rintro e w1 ⟨rfl, hb1⟩; rw [← HQ.out]; (simp only [Pd.val])))
    go_ret3
    exact ⟨rfl, hb1.alloc hb1.size _⟩
set_option maxRecDepth 100000 in
set_option maxHeartbeats 4000000 in
theorem shapeOf_yes (h0 : (askCel s.data.toList).2 = 0) : Calls Tryd.prog 32 #[.string s] w fun e w' => ∃ g c, e = .returned (.tuple #[.slice (some ⟨g, 0, none⟩) (askCel s.data.toList).1.ext.length c, .string ⟨(elStr (askCel s.data.toList).1.bits).toArray⟩, .int .i64 0]) ∧ IntRow w' g (extZ (askCel s.data.toList).1.ext) ∧ Below w.heap.size w w' := by
  have hz := (askOf_zero h0).2.2
  obtain ⟨q, hq⟩ : ∃ q, q = askCel s.data.toList := ⟨_, rfl⟩
  rw [show askOf (fun k => k == 2 || k == 3) s.data.toList = q from hq.symm] at hz
  rw [← hq] at h0
  have HQ := Lib.hid hq
  clear hq
  obtain ⟨⟨pk, pb, pe⟩, pe2⟩ := q
  dsimp only at hz h0
  subst h0
  have hok := Lib.hid hz
  clear hz
  rw [← HQ.out]
  dsimp only
  go_enter Tryd.func32, Tryd.ntmps32
  go_wp2_with (first
    | (go_at_call 45; refine (asked_celled _ _ hs).mono ?_; rintro e w1 ⟨rfl, hb1⟩; rw [← HQ.out]; (simp only [Pd.val])))
  go_region_with (first
    | (go_at_call 62; refine (listm_row pk pb pe.length (extZ pe) _ _ _ _ hok.out.rank (ext_take hok.out.rank)).mono ?_; rintro e w2 ⟨g, c, rfl, hrow, hb2⟩; have hq : Below w.heap.size w w2 := (by first | exact below_next hq hb2 | exact below_next ((hb1.alloc hb1.size _).drew) hb2); have c1 := rdCell hb2 w1.heap.size (by first | (simp; done) | assumption); have hz2 : w1.heap.size < w2.heap.size := by have := hb2.size; (try simp at this); omega)
    | (go_at_call 63; refine (elm_any pk pb _ _ _ _ _ hok.out.bits).mono ?_; rintro e w2 ⟨rfl, hb2⟩; have hq : Below w.heap.size w w2 := (by first | exact below_next hq hb2 | exact below_next ((hb1.alloc hb1.size _).drew) hb2); (try have hrow := IntRow.below hrow hb2); have c1 := rdCell hb2 w1.heap.size (by first | (simp; done) | assumption); have hz2 : w1.heap.size < w2.heap.size := by have := hb2.size; (try simp at this); omega))
  all_goals (try go_wp2)
  all_goals go_ret3
  all_goals exact ⟨g, c, rfl, hrow, hq⟩
end
end Go.Proofs.YthgiianmfehcaaaDoor
