/- Package bin at the empty module. -/
import Derived.Test.YtligbbhdbpjdjaaGreatDoorBn4
namespace Go.Proofs.YtligbbhdbpjdjaaGreatDoor
open Go Go.RowKit Go.Sort
set_option linter.unusedVariables false
set_option linter.unusedSimpArgs false

abbrev nilV : Value := .slice none 0 0
abbrev emptyM : Value := .agg #[.slice none 0 0]

theorem Wrote.below {B Wb : Nat} {mv : Value} {bs : List UInt8} {w w' : World} (h : Wrote B Wb mv bs w) (hb : Below w.heap.size w w') : Wrote B Wb mv bs w' := by
  obtain ⟨h1, h2, sa, sc, h3, h4⟩ := h
  exact ⟨h1, Nat.le_trans h2 hb.size, sa, sc, (hb.block Wb (Array.getElem?_eq_some_iff.1 h3).1).trans h3, bOwn_below h4 hb⟩
theorem numB0 : numB 0 = [0] := by rw [numB_small (by decide)]; rfl
theorem putPost_after {B Wb : Nat} {mv : Value} {bs : List UInt8} {w w1 w2 : World} {e : Ending} (hB : B ≤ w.heap.size) (h1 : Below w.heap.size w w1) (h : PutPost B Wb mv bs w1 e w2) : PutPost B Wb mv bs w e w2 :=
  ⟨h.1, h.2.1, (h1.mono hB).trans h.2.2.1, (kept_below h1).trans h.2.2.2⟩

set_option maxRecDepth 100000 in
set_option maxHeartbeats 4000000 in
theorem each_s (B Wb : Nat) (mv f : Value) (bs : List UInt8) (w : World) (hlen : bs.length ≤ 1000000) (hw : Wrote B Wb mv bs w) :
    Calls Tryz.prog 31 #[.pointer (some ⟨Wb, 0, none⟩), nilV, f] w (PutPost B Wb mv (bs ++ numB 0) w) := by
  have hBw := hw.2.1
  have HW := Lib.hid hw
  clear hw
  go_enter Tryz.func31, Tryz.ntmps31
  go_wp2_with (
    have hal := bAlloc (Below.refl w.heap.size w) (.cells #[.int .i64 0] 3)
    go_at_call 33
    refine (put_b B Wb w.heap.size mv bs 0 (by decide) _ hlen (HW.out.below hal) (by simp)).mono ?_
    intro e w2 hp
    obtain rfl := hp.1
    have HP := Lib.hid (putPost_after hBw hal hp)
    clear hp hal
    go_ways)
  go_loop [15] (fun iv => iv = .int .i64 0) (fun _ => 0)
  case atStart => rfl
  case round =>
    subst hrel
    go_wp2_with fail
    go_end0
    exact HP.out
set_option maxRecDepth 100000 in
set_option maxHeartbeats 4000000 in
theorem each_o (B Wb : Nat) (mv f : Value) (bs : List UInt8) (w : World) (hlen : bs.length ≤ 1000000) (hw : Wrote B Wb mv bs w) :
    Calls Tryz.prog 34 #[.pointer (some ⟨Wb, 0, none⟩), nilV, f] w (PutPost B Wb mv (bs ++ numB 0) w) := by
  have hBw := hw.2.1
  have HW := Lib.hid hw
  clear hw
  go_enter Tryz.func34, Tryz.ntmps34
  go_wp2_with (
    have hal := bAlloc (Below.refl w.heap.size w) (.cells #[.int .i64 0] 3)
    go_at_call 33
    refine (put_b B Wb w.heap.size mv bs 0 (by decide) _ hlen (HW.out.below hal) (by simp)).mono ?_
    intro e w2 hp
    obtain rfl := hp.1
    have HP := Lib.hid (putPost_after hBw hal hp)
    clear hp hal
    go_ways)
  go_loop [15] (fun iv => iv = .int .i64 0) (fun _ => 0)
  case atStart => rfl
  case round =>
    subst hrel
    go_wp2_with fail
    go_end0
    exact HP.out
set_option maxRecDepth 100000 in
set_option maxHeartbeats 4000000 in
theorem right_e (w : World) : Calls Tryz.prog 28 #[emptyM] w fun e w' => e = .returned (.bool true) ∧ Below w.heap.size w w' := by
  go_enter Tryz.func28, Tryz.ntmps28
  go_wp2_with fail
  go_loop [11] (fun iv => iv = .int .i64 0) (fun _ => 0)
  case atStart => rfl
  case round =>
    subst hrel
    go_wp2_with fail
    go_ret
    exact ⟨rfl, bAlloc (bAlloc (Below.refl _ _) _) _⟩

theorem check_e (w : World) : Calls Tryz.prog 19 #[emptyM] w fun e w' => e = .returned (.int .i64 0) ∧ Below w.heap.size w w' := by
  go_enter Tryz.func19, Tryz.ntmps19
  go_wp2_with (go_at_call 28; refine (right_e _).mono ?_; rintro e w2 ⟨rfl, hb2⟩; go_ways)
  go_ret
  exact ⟨rfl, bNext (bAlloc (Below.refl _ _) _) hb2⟩

set_option maxRecDepth 100000 in
set_option maxHeartbeats 4000000 in
theorem table_e (w : World) : Calls Tryz.prog 29 #[emptyM] w fun e w' => e = .returned (.tuple #[nilV, .map (some (w.heap.size + 2))]) ∧ Below w.heap.size w w' := by
  have hmm := @run_makeMap Tryz.prog
  go_enter Tryz.func29, Tryz.ntmps29
  go_wp2_with fail
  go_loop [15] (fun iv => iv = .int .i64 0) (fun _ => 0)
  case atStart => rfl
  case round =>
    subst hrel
    go_wp2_with fail
    go_quiet (fail)
    go_wp2_with fail
    go_ret2
    have h := bAlloc (bAlloc (bAlloc (bAlloc (Below.refl w.heap.size w) (.cells #[.slice none 0 0] 44)) (.cells #[.slice none 0 0] 50)) (.map #[] 0)) (.cells #[.map (some (w.heap.size + 1 + 1))] 66)
    exact ⟨rfl, h.os, h.tape, h.output, h.size, h.block⟩
end Go.Proofs.YtligbbhdbpjdjaaGreatDoor
