/- slices.Equal on equal bytes. -/
import Derived.Test.YtligbbhdbpjdjaaGreatDoorBn4
namespace Go.Proofs.YtligbbhdbpjdjaaGreatDoor
open Go Go.RowKit Go.Sort
set_option linter.unusedVariables false
set_option linter.unusedSimpArgs false

set_option maxRecDepth 100000 in
set_option maxHeartbeats 4000000 in
theorem equal_b (a b : Option Addr) (c d : Nat) (bs : List UInt8) (w : World) (hl : bs.length ≤ 1000000) (ha : ByteSl w a bs) (hb : ByteSl w b bs) :
    Calls Tryz.prog 21 #[.slice a bs.length c, .slice b bs.length d] w fun e w' => e = .returned (.bool true) ∧ Below w.heap.size w w' := by
  have HA := Lib.hid ha
  have HB := Lib.hid hb
  clear ha hb
  go_enter Tryz.func21, Tryz.ntmps21
  go_wp2_with fail
  go_loopw [13] (fun iv wr => ∃ j : Nat, j ≤ bs.length ∧ iv = .int .i64 j ∧ RowKit.Hid (Below w.heap.size w wr)) (fun iv _ => bs.length - (intOf iv).toNat)
  case atStart => exact ⟨0, Nat.zero_le _, rfl, Below.refl _ _⟩
  case round =>
    obtain ⟨j, hj, rfl, hr⟩ := hrel
    rcases Nat.lt_or_ge j bs.length with hlt | hge
    · have hlt' : (j : Int) < (bs.length : Int) := by omega
      have hj0 : (0 : Int) ≤ (j : Int) := Int.natCast_nonneg _
      obtain ⟨g1, off1, rfl, hg1, hc1⟩ := (HA.out.below hr.out).at hlt
      obtain ⟨g2, off2, rfl, hg2, hc2⟩ := (HB.out.below hr.out).at hlt
      obtain ⟨x, hx⟩ : ∃ x, x = bs[j] := ⟨_, rfl⟩
      rw [← hx] at hc1 hc2
      clear hx hg1 hg2
      go_wp2_with fail
      go_quiet (fail)
      go_wp2_with fail
      go_roundw
      case rel => exact ⟨j + 1, hlt, by go_num, ⟨hr.out.os, hr.out.tape, hr.out.output, hr.out.size, hr.out.block⟩⟩
      case measure => simp [intOf]; omega
    · have hje : j = bs.length := by omega
      subst hje
      go_wp2_with fail
      go_ret
      exact ⟨rfl, hr.out⟩
end Go.Proofs.YtligbbhdbpjdjaaGreatDoor
