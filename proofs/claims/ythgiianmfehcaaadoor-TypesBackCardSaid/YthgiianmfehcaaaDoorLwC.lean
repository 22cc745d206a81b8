/- The walk of the statement TypesChecks. -/
import Derived.Test.YthgiianmfehcaaaDoorLw1
namespace Go.Proofs.YthgiianmfehcaaaDoor
open Go Go.RowKit Go.Sort
set_option linter.unusedVariables false
set_option linter.unusedSimpArgs false

theorem askAny_yes {l : List UInt8} {q : Pd} (h : readOf l = some q) : askAny l = (q, 0) := by unfold askAny askOf; rw [h]; rfl
theorem askAny_no {l : List UInt8} (h : readOf l = none) : askAny l = (⟨0, 0, []⟩, 10) := by unfold askAny askOf; rw [h]
section
variable (s : ByteArray) (w : World) (hs : s.size ≤ 140737488355328)
include hs
theorem check_yes {q : Pd} (h : readOf s.data.toList = some q) : Calls Tryd.prog 29 #[.string s] w fun e w' => e = .returned (.int .i64 0) ∧ Below w.heap.size w w' :=
  (check_any s w hs).mono fun e w' ⟨he, hb⟩ => ⟨by rw [he, askAny_yes h]; rfl, hb⟩
theorem check_no (h : readOf s.data.toList = none) : Calls Tryd.prog 29 #[.string s] w fun e w' => e = .returned (.int .i64 10) ∧ Below w.heap.size w w' :=
  (check_any s w hs).mono fun e w' ⟨he, hb⟩ => ⟨by rw [he, askAny_no h]; rfl, hb⟩
theorem kindOf_yes {q : Pd} (h : readOf s.data.toList = some q) : Calls Tryd.prog 30 #[.string s] w fun e w' => e = .returned (.tuple #[.int .i64 q.kind, .int .i64 0]) ∧ Below w.heap.size w w' :=
  (kindOf_any s w hs).mono fun e w' ⟨he, hb⟩ => ⟨by rw [he, askAny_yes h]; rfl, hb⟩
theorem kindOf_no (h : readOf s.data.toList = none) : Calls Tryd.prog 30 #[.string s] w fun e w' => e = .returned (.tuple #[.int .i64 0, .int .i64 10]) ∧ Below w.heap.size w w' :=
  (kindOf_any s w hs).mono fun e w' ⟨he, hb⟩ => ⟨by rw [he, askAny_no h]; rfl, hb⟩
theorem bits_eq {q : Pd} {x : Nat} (h : askNum s.data.toList = (q, x)) : Calls Tryd.prog 31 #[.string s] w fun e w' => e = .returned (.tuple #[.int .i64 q.bits, .int .i64 x]) ∧ Below w.heap.size w w' :=
  (bits_any s w hs).mono fun e w' ⟨he, hb⟩ => ⟨by rw [he, h], hb⟩
end

set_option maxRecDepth 100000 in
set_option maxHeartbeats 4000000 in
theorem checks_law (s : ByteArray) (hs : s.size ≤ 140737488351232) (w : World) (hg : Glob w) :
    Calls Tryd.prog 7 #[.string s] w fun e w' => e = .returned (.bool true) ∧ Below w.heap.size w w' := by
  have hs2 : s.size ≤ 140737488355328 := by omega
  have HG := Lib.hid hg
  clear hg
  cases hr : readOf s.data.toList with
  | none =>
    have HA := Lib.hid (askOf_no (P := fun k => k == 0 || k == 1) hr)
    have HR := Lib.hid hr
    clear hr
    go_enter Tryd.func7, Tryd.ntmps7
    go_wp2_with (first
      | (go_at_call 28; refine (rread_any _ _ hs2).mono ?_; rintro e w1 ⟨hb1, h1⟩; rw [HR.out] at h1; obtain ⟨k, b, el, rfl⟩ := h1)
      | (go_at_call 29; refine (check_no _ _ hs2 HR.out).mono ?_; rintro e w2 ⟨rfl, hb2⟩)
      | (go_at_call 30; refine (kindOf_no _ _ hs2 HR.out).mono ?_; rintro e w3 ⟨rfl, hb3⟩)
      | (go_at_call 31; refine (bits_eq _ _ hs2 HA.out).mono ?_; rintro e w4 ⟨rfl, hb4⟩; have HQ := Lib.hid (below_next (below_next (below_next (belowA hb1 _) hb2) hb3) hb4); clear hb1 hb2 hb3 hb4)
      | (go_at_call 13; refine (awake_any _ (HG.out.below HQ.out)).mono ?_; rintro e w6 ⟨rfl, hb6⟩))
    go_ret
    exact ⟨rfl, below_next HQ.out hb6⟩
  | some q =>
    cases he : elemOf s.data.toList with
    | none =>
      have HA := Lib.hid (askNum_other he hr)
      have HR := Lib.hid hr
      have HE := Lib.hid he
      clear hr he
      go_enter Tryd.func7, Tryd.ntmps7
      go_wp2_with (first
        | (go_at_call 28; refine (rread_any _ _ hs2).mono ?_; rintro e w1 ⟨hb1, h1⟩; rw [HR.out] at h1; obtain ⟨sa, sc, rfl, hv⟩ := h1; have HV := Lib.hid hv; clear hv)
        | (go_at_call 29; refine (check_yes _ _ hs2 HR.out).mono ?_; rintro e w2 ⟨rfl, hb2⟩; have c2 := rdCell hb2 w1.heap.size (by simp))
        | (go_at_call 30; refine (kindOf_yes _ _ hs2 HR.out).mono ?_; rintro e w3 ⟨rfl, hb3⟩; have c3 := rdCell hb3 w1.heap.size (by have := hb2.size; simp at this; omega))
        | (go_at_call 31; refine (bits_eq _ _ hs2 HA.out).mono ?_; rintro e w4 ⟨rfl, hb4⟩; have c4 := rdCell hb4 w1.heap.size (by have := hb2.size; have := hb3.size; simp at *; omega); have HQ := Lib.hid (below_next (below_next (below_next (belowA hb1 _) hb2) hb3) hb4); clear hb1 hb2 hb3 hb4)
        | (go_at_call 18; refine (risNum_any _ _).mono ?_; rintro e w5 ⟨rfl, rfl⟩; rw [HE.out, Option.isSome_none])
        | (go_at_call 13; refine (awake_any _ (HG.out.below HQ.out)).mono ?_; rintro e w6 ⟨rfl, hb6⟩))
      go_ret
      exact ⟨rfl, below_next HQ.out hb6⟩
    | some q2 =>
      obtain rfl : q = q2 := Option.some.inj (hr.symm.trans (readOf_num he))
      have hk := (elemOf_ok he).2
      have hbt : bitsT q = q.bits := by unfold bitsT; rw [if_pos hk]
      have HA := Lib.hid (askNum_num he)
      have HR := Lib.hid hr
      have HE := Lib.hid he
      have HBT := Lib.hid hbt
      clear hr he hk hbt
      go_enter Tryd.func7, Tryd.ntmps7
      go_wp2_with (first
        | (go_at_call 28; refine (rread_any _ _ hs2).mono ?_; rintro e w1 ⟨hb1, h1⟩; rw [HR.out] at h1; obtain ⟨sa, sc, rfl, hv⟩ := h1; rw [HBT.out]; have HV := Lib.hid hv; clear hv)
        | (go_at_call 29; refine (check_yes _ _ hs2 HR.out).mono ?_; rintro e w2 ⟨rfl, hb2⟩; have c2 := rdCell hb2 w1.heap.size (by simp))
        | (go_at_call 30; refine (kindOf_yes _ _ hs2 HR.out).mono ?_; rintro e w3 ⟨rfl, hb3⟩; have c3 := rdCell hb3 w1.heap.size (by have := hb2.size; simp at this; omega))
        | (go_at_call 31; refine (bits_eq _ _ hs2 HA.out).mono ?_; rintro e w4 ⟨rfl, hb4⟩; have c4 := rdCell hb4 w1.heap.size (by have := hb2.size; have := hb3.size; simp at *; omega); have HQ := Lib.hid (below_next (below_next (below_next (belowA hb1 _) hb2) hb3) hb4); clear hb1 hb2 hb3 hb4)
        | (go_at_call 18; refine (risNum_any _ _).mono ?_; rintro e w5 ⟨rfl, rfl⟩; rw [HE.out, Option.isSome_some])
        | (go_at_call 13; refine (awake_any _ (HG.out.below HQ.out)).mono ?_; rintro e w6 ⟨rfl, hb6⟩))
      go_ret
      exact ⟨rfl, below_next HQ.out hb6⟩
end Go.Proofs.YthgiianmfehcaaaDoor
