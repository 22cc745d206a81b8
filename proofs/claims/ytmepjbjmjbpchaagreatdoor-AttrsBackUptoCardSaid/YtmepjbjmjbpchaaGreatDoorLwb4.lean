/- AttrsBack: the law's walk where the list does not print. -/
import Derived.Test.YtmepjbjmjbpchaaGreatDoorMg17
import Derived.Test.YtmepjbjmjbpchaaGreatDoorMg21
import Derived.Deep.RegionHeld3
namespace Go.Proofs.YtmepjbjmjbpchaaGreatDoor
open Go Go.RowKit Go.Sort
set_option linter.unusedVariables false
set_option linter.unusedSimpArgs false

set_option maxRecDepth 100000 in
set_option maxHeartbeats 32000000 in
theorem back_no_AC (p : Option Addr) (c : Nat) (l : List Atr) (s : ByteArray) (ds : List Dat) (D : Dat) (E : Int) (w : World) (hg : GlobE w) (hE : (E == 0) = false)
    (HP : Hid (Calls Tryz.prog 30 #[.slice p l.length c] w fun e w' => e = .returned (.tuple #[.string ⟨#[]⟩, .int .i64 E]) ∧ Below w.heap.size w w'))
    (HT : Hid (∀ W, Below w.heap.size w W → Calls Tryz.prog 25 #[.string s] W fun e w' => e = .returned (.tuple #[.slice none 0 0, .int .i64 70]) ∧ Below W.heap.size W w')) (HR : Hid (∀ W, Below w.heap.size w W → Calls Tryz.prog 22 #[.string ⟨#[97]⟩, .string s] W fun e w' => e = .returned (.tuple #[zAt, .int .i64 70]) ∧ Below W.heap.size W w')) :
    Calls Tryz.prog 10 #[.slice p l.length c, .string s] w fun e w' => e = .returned (.bool true) ∧ Below w.heap.size w w' := by
  have HG := Lib.hid hg
  clear hg
  go_enter Tryz.func10, Tryz.ntmps10
  go_wp2_with (go_at_call 30; refine HP.out.mono ?_; rintro e w1 ⟨rfl, hb1⟩)
  go_loopw [9] (fun i wr => i = .int .i64 0 ∧ Below w.heap.size w wr) (fun _ _ => 0)
  case atStart => exact ⟨rfl, by (repeat (first | (with_reducible refine below_set ?_ (by first | exact Nat.le_refl _ | omega) _ _) | with_reducible exact Below.refl _ _ | with_reducible refine belowA ?_ _ | with_reducible refine below_own' ?_ hb1 | with_reducible refine belowD ?_ | with_reducible refine belowN ?_ _))⟩
  case round =>
    obtain ⟨rfl, hb⟩ := hrel
    have HB := Lib.hid hb
    clear hb
    have hln : (0 : Int) < (l.length : Int) ∨ ¬ ((0 : Int) < (l.length : Int)) := by omega
    rcases hln with hln | hln
    all_goals
      go_wp2_with (first
        | (go_at_call 25; refine Calls.mono (HT.out _ ?_) ?_; (focus ((repeat (first | (with_reducible refine below_set ?_ (by first | exact Nat.le_refl _ | omega) _ _) | with_reducible exact Below.refl _ _ | with_reducible refine belowA ?_ _ | with_reducible refine below_own' ?_ HB.out | with_reducible refine belowD ?_ | with_reducible refine belowN ?_ _)); done)); rintro e x5 ⟨rfl, hq5⟩)
        | (go_at_call 22; refine Calls.mono (HR.out _ ?_) ?_; (focus ((repeat (first | (with_reducible refine below_set ?_ (by first | exact Nat.le_refl _ | omega) _ _) | with_reducible exact Below.refl _ _ | with_reducible refine belowA ?_ _ | with_reducible refine below_own' ?_ hq5 | with_reducible refine below_own' ?_ HB.out | with_reducible refine belowD ?_ | with_reducible refine belowN ?_ _)); done)); rintro e x7 ⟨rfl, hq7⟩; simp only [zAt])
        | (go_at_call 20; refine Calls.mono (awake02 _ (HG.out.glob.below ?_)) ?_; (focus ((repeat (first | (with_reducible refine below_set ?_ (by first | exact Nat.le_refl _ | omega) _ _) | with_reducible exact Below.refl _ _ | with_reducible refine belowA ?_ _ | with_reducible refine below_own' ?_ hq7 | with_reducible refine below_own' ?_ hq5 | with_reducible refine below_own' ?_ HB.out | with_reducible refine belowD ?_ | with_reducible refine belowN ?_ _)); done)); rintro e x9 ⟨rfl, hq9⟩))
      go_ret
      exact ⟨rfl, by (repeat (first | (with_reducible refine below_set ?_ (by first | exact Nat.le_refl _ | omega) _ _) | with_reducible exact Below.refl _ _ | with_reducible refine belowA ?_ _ | with_reducible refine below_own' ?_ hq9 | with_reducible refine below_own' ?_ hq7 | with_reducible refine below_own' ?_ hq5 | with_reducible refine below_own' ?_ HB.out | with_reducible refine belowD ?_ | with_reducible refine belowN ?_ _))⟩
set_option maxRecDepth 100000 in
set_option maxHeartbeats 32000000 in
theorem back_no_AD (p : Option Addr) (c : Nat) (l : List Atr) (s : ByteArray) (ds : List Dat) (D : Dat) (E : Int) (w : World) (hg : GlobE w) (hE : (E == 0) = false)
    (HP : Hid (Calls Tryz.prog 30 #[.slice p l.length c] w fun e w' => e = .returned (.tuple #[.string ⟨#[]⟩, .int .i64 E]) ∧ Below w.heap.size w w'))
    (HT : Hid (∀ W, Below w.heap.size w W → Calls Tryz.prog 25 #[.string s] W fun e w' => e = .returned (.tuple #[.slice none 0 0, .int .i64 70]) ∧ Below W.heap.size W w')) (HR : Hid (∀ W, Below w.heap.size w W → Calls Tryz.prog 22 #[.string ⟨#[97]⟩, .string s] W fun e w' => ∃ a : Atr, e = .returned (.tuple #[a.val, .int .i64 0]) ∧ a.Lies w' ∧ a.Fits ∧ a.dat = D ∧ Below W.heap.size W w')) (HRV : Hid (∀ (a : Atr) (W : World), a.Lies W → a.Fits → a.dat = D → Below w.heap.size w W → Calls Tryz.prog 32 #[a.val] W fun e w' => e = .returned (.tuple #[.string s, .int .i64 0]) ∧ Below W.heap.size W w')) :
    Calls Tryz.prog 10 #[.slice p l.length c, .string s] w fun e w' => e = .returned (.bool true) ∧ Below w.heap.size w w' := by
  have HG := Lib.hid hg
  clear hg
  go_enter Tryz.func10, Tryz.ntmps10
  go_wp2_with (go_at_call 30; refine HP.out.mono ?_; rintro e w1 ⟨rfl, hb1⟩)
  go_loopw [9] (fun i wr => i = .int .i64 0 ∧ Below w.heap.size w wr) (fun _ _ => 0)
  case atStart => exact ⟨rfl, by (repeat (first | (with_reducible refine below_set ?_ (by first | exact Nat.le_refl _ | omega) _ _) | with_reducible exact Below.refl _ _ | with_reducible refine belowA ?_ _ | with_reducible refine below_own' ?_ hb1 | with_reducible refine belowD ?_ | with_reducible refine belowN ?_ _))⟩
  case round =>
    obtain ⟨rfl, hb⟩ := hrel
    have HB := Lib.hid hb
    clear hb
    have hln : (0 : Int) < (l.length : Int) ∨ ¬ ((0 : Int) < (l.length : Int)) := by omega
    rcases hln with hln | hln
    all_goals
      go_wp2_with (first
        | (go_at_call 25; refine Calls.mono (HT.out _ ?_) ?_; (focus ((repeat (first | (with_reducible refine below_set ?_ (by first | exact Nat.le_refl _ | omega) _ _) | with_reducible exact Below.refl _ _ | with_reducible refine belowA ?_ _ | with_reducible refine below_own' ?_ HB.out | with_reducible refine belowD ?_ | with_reducible refine belowN ?_ _)); done)); rintro e x5 ⟨rfl, hq5⟩)
        | (go_at_call 22; refine Calls.mono (HR.out _ ?_) ?_; (focus ((repeat (first | (with_reducible refine below_set ?_ (by first | exact Nat.le_refl _ | omega) _ _) | with_reducible exact Below.refl _ _ | with_reducible refine belowA ?_ _ | with_reducible refine below_own' ?_ hq5 | with_reducible refine below_own' ?_ HB.out | with_reducible refine belowD ?_ | with_reducible refine belowN ?_ _)); done)); rintro e x7 ⟨b7, rfl, hl7, hf7, hd7, hq7⟩; have HL7 := Lib.hid hl7; have HF7 := Lib.hid hf7; have HD7 := Lib.hid hd7; clear hl7 hf7 hd7)
        | (go_at_call 32; refine Calls.mono (HRV.out b7 _ (HL7.out.below (by (repeat (first | (with_reducible refine below_set ?_ (by first | exact Nat.le_refl _ | omega) _ _) | with_reducible exact Below.refl _ _ | with_reducible refine belowA ?_ _ | with_reducible refine belowD ?_ | with_reducible refine belowN ?_ _)))) HF7.out HD7.out (by (repeat (first | (with_reducible refine below_set ?_ (by first | exact Nat.le_refl _ | omega) _ _) | with_reducible exact Below.refl _ _ | with_reducible refine belowA ?_ _ | with_reducible refine below_own' ?_ hq7 | with_reducible refine below_own' ?_ hq5 | with_reducible refine below_own' ?_ HB.out | with_reducible refine belowD ?_ | with_reducible refine belowN ?_ _)))) ?_; rintro e x8 ⟨rfl, hq8⟩)
        | (go_at_call 20; refine Calls.mono (awake02 _ (HG.out.glob.below ?_)) ?_; (focus ((repeat (first | (with_reducible refine below_set ?_ (by first | exact Nat.le_refl _ | omega) _ _) | with_reducible exact Below.refl _ _ | with_reducible refine belowA ?_ _ | with_reducible refine below_own' ?_ hq8 | with_reducible refine below_own' ?_ hq7 | with_reducible refine below_own' ?_ hq5 | with_reducible refine below_own' ?_ HB.out | with_reducible refine belowD ?_ | with_reducible refine belowN ?_ _)); done)); rintro e x9 ⟨rfl, hq9⟩))
      go_ret
      exact ⟨rfl, by (repeat (first | (with_reducible refine below_set ?_ (by first | exact Nat.le_refl _ | omega) _ _) | with_reducible exact Below.refl _ _ | with_reducible refine belowA ?_ _ | with_reducible refine below_own' ?_ hq9 | with_reducible refine below_own' ?_ hq8 | with_reducible refine below_own' ?_ hq7 | with_reducible refine below_own' ?_ hq5 | with_reducible refine below_own' ?_ HB.out | with_reducible refine belowD ?_ | with_reducible refine belowN ?_ _))⟩
set_option maxRecDepth 100000 in
set_option maxHeartbeats 32000000 in
theorem back_no_B1C (p : Option Addr) (c : Nat) (l : List Atr) (s : ByteArray) (ds : List Dat) (D : Dat) (E : Int) (w : World) (hg : GlobE w) (hE : (E == 0) = false)
    (HP : Hid (Calls Tryz.prog 30 #[.slice p l.length c] w fun e w' => e = .returned (.tuple #[.string ⟨#[]⟩, .int .i64 E]) ∧ Below w.heap.size w w'))
    (HT : Hid (∀ W, Below w.heap.size w W → Calls Tryz.prog 25 #[.string s] W (LsPost ds W))) (HTP : Hid (∀ (q : Option Addr) (n d : Nat) (m : List Atr) (W : World), AtrSl W q m → n = m.length → m.map Atr.dat = ds → Below w.heap.size w W → Calls Tryz.prog 30 #[.slice q n d] W fun e w' => e = .returned (.tuple #[.string s, .int .i64 0]) ∧ Below W.heap.size W w')) (hmx : (s.size : Int) ≤ 262144) (HR : Hid (∀ W, Below w.heap.size w W → Calls Tryz.prog 22 #[.string ⟨#[97]⟩, .string s] W fun e w' => e = .returned (.tuple #[zAt, .int .i64 70]) ∧ Below W.heap.size W w')) :
    Calls Tryz.prog 10 #[.slice p l.length c, .string s] w fun e w' => e = .returned (.bool true) ∧ Below w.heap.size w w' := by
  have HG := Lib.hid hg
  clear hg
  go_enter Tryz.func10, Tryz.ntmps10
  go_wp2_with (go_at_call 30; refine HP.out.mono ?_; rintro e w1 ⟨rfl, hb1⟩)
  go_loopw [9] (fun i wr => i = .int .i64 0 ∧ Below w.heap.size w wr) (fun _ _ => 0)
  case atStart => exact ⟨rfl, by (repeat (first | (with_reducible refine below_set ?_ (by first | exact Nat.le_refl _ | omega) _ _) | with_reducible exact Below.refl _ _ | with_reducible refine belowA ?_ _ | with_reducible refine below_own' ?_ hb1 | with_reducible refine belowD ?_ | with_reducible refine belowN ?_ _))⟩
  case round =>
    obtain ⟨rfl, hb⟩ := hrel
    have HB := Lib.hid hb
    clear hb
    have hln : (0 : Int) < (l.length : Int) ∨ ¬ ((0 : Int) < (l.length : Int)) := by omega
    rcases hln with hln | hln
    all_goals
      go_wp2_with (first
        | (go_at_call 25; refine Calls.mono (HT.out _ ?_) ?_; (focus ((repeat (first | (with_reducible refine below_set ?_ (by first | exact Nat.le_refl _ | omega) _ _) | with_reducible exact Below.refl _ _ | with_reducible refine belowA ?_ _ | with_reducible refine below_own' ?_ HB.out | with_reducible refine belowD ?_ | with_reducible refine belowN ?_ _)); done)); rintro e x5 ⟨sv5, cv5, n5, lv5, rfl, hn5, hnc5, hs5, hd5, hq5⟩; have HN5 := Lib.hid hn5; have HS5 := Lib.hid hs5; have HD5 := Lib.hid hd5; clear hn5 hs5 hd5)
        | (go_at_call 30; refine Calls.mono (HTP.out sv5 n5 cv5 lv5 _ (HS5.out.below (by (repeat (first | (with_reducible refine below_set ?_ (by first | exact Nat.le_refl _ | omega) _ _) | with_reducible exact Below.refl _ _ | with_reducible refine belowA ?_ _ | with_reducible refine belowD ?_ | with_reducible refine belowN ?_ _)))) HN5.out HD5.out (by (repeat (first | (with_reducible refine below_set ?_ (by first | exact Nat.le_refl _ | omega) _ _) | with_reducible exact Below.refl _ _ | with_reducible refine belowA ?_ _ | with_reducible refine below_own' ?_ hq5 | with_reducible refine below_own' ?_ HB.out | with_reducible refine belowD ?_ | with_reducible refine belowN ?_ _)))) ?_; rintro e x6 ⟨rfl, hq6⟩)
        | (go_at_call 22; refine Calls.mono (HR.out _ ?_) ?_; (focus ((repeat (first | (with_reducible refine below_set ?_ (by first | exact Nat.le_refl _ | omega) _ _) | with_reducible exact Below.refl _ _ | with_reducible refine belowA ?_ _ | with_reducible refine below_own' ?_ hq6 | with_reducible refine below_own' ?_ hq5 | with_reducible refine below_own' ?_ HB.out | with_reducible refine belowD ?_ | with_reducible refine belowN ?_ _)); done)); rintro e x7 ⟨rfl, hq7⟩; simp only [zAt])
        | (go_at_call 20; refine Calls.mono (awake02 _ (HG.out.glob.below ?_)) ?_; (focus ((repeat (first | (with_reducible refine below_set ?_ (by first | exact Nat.le_refl _ | omega) _ _) | with_reducible exact Below.refl _ _ | with_reducible refine belowA ?_ _ | with_reducible refine below_own' ?_ hq7 | with_reducible refine below_own' ?_ hq6 | with_reducible refine below_own' ?_ hq5 | with_reducible refine below_own' ?_ HB.out | with_reducible refine belowD ?_ | with_reducible refine belowN ?_ _)); done)); rintro e x9 ⟨rfl, hq9⟩))
      go_ret
      exact ⟨rfl, by (repeat (first | (with_reducible refine below_set ?_ (by first | exact Nat.le_refl _ | omega) _ _) | with_reducible exact Below.refl _ _ | with_reducible refine belowA ?_ _ | with_reducible refine below_own' ?_ hq9 | with_reducible refine below_own' ?_ hq7 | with_reducible refine below_own' ?_ hq6 | with_reducible refine below_own' ?_ hq5 | with_reducible refine below_own' ?_ HB.out | with_reducible refine belowD ?_ | with_reducible refine belowN ?_ _))⟩
set_option maxRecDepth 100000 in
set_option maxHeartbeats 32000000 in
theorem back_no_B1D (p : Option Addr) (c : Nat) (l : List Atr) (s : ByteArray) (ds : List Dat) (D : Dat) (E : Int) (w : World) (hg : GlobE w) (hE : (E == 0) = false)
    (HP : Hid (Calls Tryz.prog 30 #[.slice p l.length c] w fun e w' => e = .returned (.tuple #[.string ⟨#[]⟩, .int .i64 E]) ∧ Below w.heap.size w w'))
    (HT : Hid (∀ W, Below w.heap.size w W → Calls Tryz.prog 25 #[.string s] W (LsPost ds W))) (HTP : Hid (∀ (q : Option Addr) (n d : Nat) (m : List Atr) (W : World), AtrSl W q m → n = m.length → m.map Atr.dat = ds → Below w.heap.size w W → Calls Tryz.prog 30 #[.slice q n d] W fun e w' => e = .returned (.tuple #[.string s, .int .i64 0]) ∧ Below W.heap.size W w')) (hmx : (s.size : Int) ≤ 262144) (HR : Hid (∀ W, Below w.heap.size w W → Calls Tryz.prog 22 #[.string ⟨#[97]⟩, .string s] W fun e w' => ∃ a : Atr, e = .returned (.tuple #[a.val, .int .i64 0]) ∧ a.Lies w' ∧ a.Fits ∧ a.dat = D ∧ Below W.heap.size W w')) (HRV : Hid (∀ (a : Atr) (W : World), a.Lies W → a.Fits → a.dat = D → Below w.heap.size w W → Calls Tryz.prog 32 #[a.val] W fun e w' => e = .returned (.tuple #[.string s, .int .i64 0]) ∧ Below W.heap.size W w')) :
    Calls Tryz.prog 10 #[.slice p l.length c, .string s] w fun e w' => e = .returned (.bool true) ∧ Below w.heap.size w w' := by
  have HG := Lib.hid hg
  clear hg
  go_enter Tryz.func10, Tryz.ntmps10
  go_wp2_with (go_at_call 30; refine HP.out.mono ?_; rintro e w1 ⟨rfl, hb1⟩)
  go_loopw [9] (fun i wr => i = .int .i64 0 ∧ Below w.heap.size w wr) (fun _ _ => 0)
  case atStart => exact ⟨rfl, by (repeat (first | (with_reducible refine below_set ?_ (by first | exact Nat.le_refl _ | omega) _ _) | with_reducible exact Below.refl _ _ | with_reducible refine belowA ?_ _ | with_reducible refine below_own' ?_ hb1 | with_reducible refine belowD ?_ | with_reducible refine belowN ?_ _))⟩
  case round =>
    obtain ⟨rfl, hb⟩ := hrel
    have HB := Lib.hid hb
    clear hb
    have hln : (0 : Int) < (l.length : Int) ∨ ¬ ((0 : Int) < (l.length : Int)) := by omega
    rcases hln with hln | hln
    all_goals
      go_wp2_with (first
        | (go_at_call 25; refine Calls.mono (HT.out _ ?_) ?_; (focus ((repeat (first | (with_reducible refine below_set ?_ (by first | exact Nat.le_refl _ | omega) _ _) | with_reducible exact Below.refl _ _ | with_reducible refine belowA ?_ _ | with_reducible refine below_own' ?_ HB.out | with_reducible refine belowD ?_ | with_reducible refine belowN ?_ _)); done)); rintro e x5 ⟨sv5, cv5, n5, lv5, rfl, hn5, hnc5, hs5, hd5, hq5⟩; have HN5 := Lib.hid hn5; have HS5 := Lib.hid hs5; have HD5 := Lib.hid hd5; clear hn5 hs5 hd5)
        | (go_at_call 30; refine Calls.mono (HTP.out sv5 n5 cv5 lv5 _ (HS5.out.below (by (repeat (first | (with_reducible refine below_set ?_ (by first | exact Nat.le_refl _ | omega) _ _) | with_reducible exact Below.refl _ _ | with_reducible refine belowA ?_ _ | with_reducible refine belowD ?_ | with_reducible refine belowN ?_ _)))) HN5.out HD5.out (by (repeat (first | (with_reducible refine below_set ?_ (by first | exact Nat.le_refl _ | omega) _ _) | with_reducible exact Below.refl _ _ | with_reducible refine belowA ?_ _ | with_reducible refine below_own' ?_ hq5 | with_reducible refine below_own' ?_ HB.out | with_reducible refine belowD ?_ | with_reducible refine belowN ?_ _)))) ?_; rintro e x6 ⟨rfl, hq6⟩)
        | (go_at_call 22; refine Calls.mono (HR.out _ ?_) ?_; (focus ((repeat (first | (with_reducible refine below_set ?_ (by first | exact Nat.le_refl _ | omega) _ _) | with_reducible exact Below.refl _ _ | with_reducible refine belowA ?_ _ | with_reducible refine below_own' ?_ hq6 | with_reducible refine below_own' ?_ hq5 | with_reducible refine below_own' ?_ HB.out | with_reducible refine belowD ?_ | with_reducible refine belowN ?_ _)); done)); rintro e x7 ⟨b7, rfl, hl7, hf7, hd7, hq7⟩; have HL7 := Lib.hid hl7; have HF7 := Lib.hid hf7; have HD7 := Lib.hid hd7; clear hl7 hf7 hd7)
        | (go_at_call 32; refine Calls.mono (HRV.out b7 _ (HL7.out.below (by (repeat (first | (with_reducible refine below_set ?_ (by first | exact Nat.le_refl _ | omega) _ _) | with_reducible exact Below.refl _ _ | with_reducible refine belowA ?_ _ | with_reducible refine belowD ?_ | with_reducible refine belowN ?_ _)))) HF7.out HD7.out (by (repeat (first | (with_reducible refine below_set ?_ (by first | exact Nat.le_refl _ | omega) _ _) | with_reducible exact Below.refl _ _ | with_reducible refine belowA ?_ _ | with_reducible refine below_own' ?_ hq7 | with_reducible refine below_own' ?_ hq6 | with_reducible refine below_own' ?_ hq5 | with_reducible refine below_own' ?_ HB.out | with_reducible refine belowD ?_ | with_reducible refine belowN ?_ _)))) ?_; rintro e x8 ⟨rfl, hq8⟩)
        | (go_at_call 20; refine Calls.mono (awake02 _ (HG.out.glob.below ?_)) ?_; (focus ((repeat (first | (with_reducible refine below_set ?_ (by first | exact Nat.le_refl _ | omega) _ _) | with_reducible exact Below.refl _ _ | with_reducible refine belowA ?_ _ | with_reducible refine below_own' ?_ hq8 | with_reducible refine below_own' ?_ hq7 | with_reducible refine below_own' ?_ hq6 | with_reducible refine below_own' ?_ hq5 | with_reducible refine below_own' ?_ HB.out | with_reducible refine belowD ?_ | with_reducible refine belowN ?_ _)); done)); rintro e x9 ⟨rfl, hq9⟩))
      go_ret
      exact ⟨rfl, by (repeat (first | (with_reducible refine below_set ?_ (by first | exact Nat.le_refl _ | omega) _ _) | with_reducible exact Below.refl _ _ | with_reducible refine belowA ?_ _ | with_reducible refine below_own' ?_ hq9 | with_reducible refine below_own' ?_ hq8 | with_reducible refine below_own' ?_ hq7 | with_reducible refine below_own' ?_ hq6 | with_reducible refine below_own' ?_ hq5 | with_reducible refine below_own' ?_ HB.out | with_reducible refine belowD ?_ | with_reducible refine belowN ?_ _))⟩
set_option maxRecDepth 100000 in
set_option maxHeartbeats 32000000 in
theorem back_no_B2C (p : Option Addr) (c : Nat) (l : List Atr) (s : ByteArray) (ds : List Dat) (D : Dat) (E : Int) (w : World) (hg : GlobE w) (hE : (E == 0) = false)
    (HP : Hid (Calls Tryz.prog 30 #[.slice p l.length c] w fun e w' => e = .returned (.tuple #[.string ⟨#[]⟩, .int .i64 E]) ∧ Below w.heap.size w w'))
    (HT : Hid (∀ W, Below w.heap.size w W → Calls Tryz.prog 25 #[.string s] W (LsPost ds W))) (HTP : Hid (∀ (q : Option Addr) (n d : Nat) (m : List Atr) (W : World), AtrSl W q m → n = m.length → m.map Atr.dat = ds → Below w.heap.size w W → Calls Tryz.prog 30 #[.slice q n d] W fun e w' => e = .returned (.tuple #[.string ⟨#[]⟩, .int .i64 2]) ∧ Below W.heap.size W w')) (hmx : ¬ ((s.size : Int) ≤ 262144)) (HR : Hid (∀ W, Below w.heap.size w W → Calls Tryz.prog 22 #[.string ⟨#[97]⟩, .string s] W fun e w' => e = .returned (.tuple #[zAt, .int .i64 70]) ∧ Below W.heap.size W w')) :
    Calls Tryz.prog 10 #[.slice p l.length c, .string s] w fun e w' => e = .returned (.bool true) ∧ Below w.heap.size w w' := by
  have HG := Lib.hid hg
  clear hg
  go_enter Tryz.func10, Tryz.ntmps10
  go_wp2_with (go_at_call 30; refine HP.out.mono ?_; rintro e w1 ⟨rfl, hb1⟩)
  go_loopw [9] (fun i wr => i = .int .i64 0 ∧ Below w.heap.size w wr) (fun _ _ => 0)
  case atStart => exact ⟨rfl, by (repeat (first | (with_reducible refine below_set ?_ (by first | exact Nat.le_refl _ | omega) _ _) | with_reducible exact Below.refl _ _ | with_reducible refine belowA ?_ _ | with_reducible refine below_own' ?_ hb1 | with_reducible refine belowD ?_ | with_reducible refine belowN ?_ _))⟩
  case round =>
    obtain ⟨rfl, hb⟩ := hrel
    have HB := Lib.hid hb
    clear hb
    have hln : (0 : Int) < (l.length : Int) ∨ ¬ ((0 : Int) < (l.length : Int)) := by omega
    rcases hln with hln | hln
    all_goals
      go_wp2_with (first
        | (go_at_call 25; refine Calls.mono (HT.out _ ?_) ?_; (focus ((repeat (first | (with_reducible refine below_set ?_ (by first | exact Nat.le_refl _ | omega) _ _) | with_reducible exact Below.refl _ _ | with_reducible refine belowA ?_ _ | with_reducible refine below_own' ?_ HB.out | with_reducible refine belowD ?_ | with_reducible refine belowN ?_ _)); done)); rintro e x5 ⟨sv5, cv5, n5, lv5, rfl, hn5, hnc5, hs5, hd5, hq5⟩; have HN5 := Lib.hid hn5; have HS5 := Lib.hid hs5; have HD5 := Lib.hid hd5; clear hn5 hs5 hd5)
        | (go_at_call 30; refine Calls.mono (HTP.out sv5 n5 cv5 lv5 _ (HS5.out.below (by (repeat (first | (with_reducible refine below_set ?_ (by first | exact Nat.le_refl _ | omega) _ _) | with_reducible exact Below.refl _ _ | with_reducible refine belowA ?_ _ | with_reducible refine belowD ?_ | with_reducible refine belowN ?_ _)))) HN5.out HD5.out (by (repeat (first | (with_reducible refine below_set ?_ (by first | exact Nat.le_refl _ | omega) _ _) | with_reducible exact Below.refl _ _ | with_reducible refine belowA ?_ _ | with_reducible refine below_own' ?_ hq5 | with_reducible refine below_own' ?_ HB.out | with_reducible refine belowD ?_ | with_reducible refine belowN ?_ _)))) ?_; rintro e x6 ⟨rfl, hq6⟩)
        | (go_at_call 22; refine Calls.mono (HR.out _ ?_) ?_; (focus ((repeat (first | (with_reducible refine below_set ?_ (by first | exact Nat.le_refl _ | omega) _ _) | with_reducible exact Below.refl _ _ | with_reducible refine belowA ?_ _ | with_reducible refine below_own' ?_ hq6 | with_reducible refine below_own' ?_ hq5 | with_reducible refine below_own' ?_ HB.out | with_reducible refine belowD ?_ | with_reducible refine belowN ?_ _)); done)); rintro e x7 ⟨rfl, hq7⟩; simp only [zAt])
        | (go_at_call 20; refine Calls.mono (awake02 _ (HG.out.glob.below ?_)) ?_; (focus ((repeat (first | (with_reducible refine below_set ?_ (by first | exact Nat.le_refl _ | omega) _ _) | with_reducible exact Below.refl _ _ | with_reducible refine belowA ?_ _ | with_reducible refine below_own' ?_ hq7 | with_reducible refine below_own' ?_ hq6 | with_reducible refine below_own' ?_ hq5 | with_reducible refine below_own' ?_ HB.out | with_reducible refine belowD ?_ | with_reducible refine belowN ?_ _)); done)); rintro e x9 ⟨rfl, hq9⟩))
      go_ret
      exact ⟨rfl, by (repeat (first | (with_reducible refine below_set ?_ (by first | exact Nat.le_refl _ | omega) _ _) | with_reducible exact Below.refl _ _ | with_reducible refine belowA ?_ _ | with_reducible refine below_own' ?_ hq9 | with_reducible refine below_own' ?_ hq7 | with_reducible refine below_own' ?_ hq6 | with_reducible refine below_own' ?_ hq5 | with_reducible refine below_own' ?_ HB.out | with_reducible refine belowD ?_ | with_reducible refine belowN ?_ _))⟩
set_option maxRecDepth 100000 in
set_option maxHeartbeats 32000000 in
theorem back_no_B2D (p : Option Addr) (c : Nat) (l : List Atr) (s : ByteArray) (ds : List Dat) (D : Dat) (E : Int) (w : World) (hg : GlobE w) (hE : (E == 0) = false)
    (HP : Hid (Calls Tryz.prog 30 #[.slice p l.length c] w fun e w' => e = .returned (.tuple #[.string ⟨#[]⟩, .int .i64 E]) ∧ Below w.heap.size w w'))
    (HT : Hid (∀ W, Below w.heap.size w W → Calls Tryz.prog 25 #[.string s] W (LsPost ds W))) (HTP : Hid (∀ (q : Option Addr) (n d : Nat) (m : List Atr) (W : World), AtrSl W q m → n = m.length → m.map Atr.dat = ds → Below w.heap.size w W → Calls Tryz.prog 30 #[.slice q n d] W fun e w' => e = .returned (.tuple #[.string ⟨#[]⟩, .int .i64 2]) ∧ Below W.heap.size W w')) (hmx : ¬ ((s.size : Int) ≤ 262144)) (HR : Hid (∀ W, Below w.heap.size w W → Calls Tryz.prog 22 #[.string ⟨#[97]⟩, .string s] W fun e w' => ∃ a : Atr, e = .returned (.tuple #[a.val, .int .i64 0]) ∧ a.Lies w' ∧ a.Fits ∧ a.dat = D ∧ Below W.heap.size W w')) (HRV : Hid (∀ (a : Atr) (W : World), a.Lies W → a.Fits → a.dat = D → Below w.heap.size w W → Calls Tryz.prog 32 #[a.val] W fun e w' => e = .returned (.tuple #[.string s, .int .i64 0]) ∧ Below W.heap.size W w')) :
    Calls Tryz.prog 10 #[.slice p l.length c, .string s] w fun e w' => e = .returned (.bool true) ∧ Below w.heap.size w w' := by
  have HG := Lib.hid hg
  clear hg
  go_enter Tryz.func10, Tryz.ntmps10
  go_wp2_with (go_at_call 30; refine HP.out.mono ?_; rintro e w1 ⟨rfl, hb1⟩)
  go_loopw [9] (fun i wr => i = .int .i64 0 ∧ Below w.heap.size w wr) (fun _ _ => 0)
  case atStart => exact ⟨rfl, by (repeat (first | (with_reducible refine below_set ?_ (by first | exact Nat.le_refl _ | omega) _ _) | with_reducible exact Below.refl _ _ | with_reducible refine belowA ?_ _ | with_reducible refine below_own' ?_ hb1 | with_reducible refine belowD ?_ | with_reducible refine belowN ?_ _))⟩
  case round =>
    obtain ⟨rfl, hb⟩ := hrel
    have HB := Lib.hid hb
    clear hb
    have hln : (0 : Int) < (l.length : Int) ∨ ¬ ((0 : Int) < (l.length : Int)) := by omega
    rcases hln with hln | hln
    all_goals
      go_wp2_with (first
        | (go_at_call 25; refine Calls.mono (HT.out _ ?_) ?_; (focus ((repeat (first | (with_reducible refine below_set ?_ (by first | exact Nat.le_refl _ | omega) _ _) | with_reducible exact Below.refl _ _ | with_reducible refine belowA ?_ _ | with_reducible refine below_own' ?_ HB.out | with_reducible refine belowD ?_ | with_reducible refine belowN ?_ _)); done)); rintro e x5 ⟨sv5, cv5, n5, lv5, rfl, hn5, hnc5, hs5, hd5, hq5⟩; have HN5 := Lib.hid hn5; have HS5 := Lib.hid hs5; have HD5 := Lib.hid hd5; clear hn5 hs5 hd5)
        | (go_at_call 30; refine Calls.mono (HTP.out sv5 n5 cv5 lv5 _ (HS5.out.below (by (repeat (first | (with_reducible refine below_set ?_ (by first | exact Nat.le_refl _ | omega) _ _) | with_reducible exact Below.refl _ _ | with_reducible refine belowA ?_ _ | with_reducible refine belowD ?_ | with_reducible refine belowN ?_ _)))) HN5.out HD5.out (by (repeat (first | (with_reducible refine below_set ?_ (by first | exact Nat.le_refl _ | omega) _ _) | with_reducible exact Below.refl _ _ | with_reducible refine belowA ?_ _ | with_reducible refine below_own' ?_ hq5 | with_reducible refine below_own' ?_ HB.out | with_reducible refine belowD ?_ | with_reducible refine belowN ?_ _)))) ?_; rintro e x6 ⟨rfl, hq6⟩)
        | (go_at_call 22; refine Calls.mono (HR.out _ ?_) ?_; (focus ((repeat (first | (with_reducible refine below_set ?_ (by first | exact Nat.le_refl _ | omega) _ _) | with_reducible exact Below.refl _ _ | with_reducible refine belowA ?_ _ | with_reducible refine below_own' ?_ hq6 | with_reducible refine below_own' ?_ hq5 | with_reducible refine below_own' ?_ HB.out | with_reducible refine belowD ?_ | with_reducible refine belowN ?_ _)); done)); rintro e x7 ⟨b7, rfl, hl7, hf7, hd7, hq7⟩; have HL7 := Lib.hid hl7; have HF7 := Lib.hid hf7; have HD7 := Lib.hid hd7; clear hl7 hf7 hd7)
        | (go_at_call 32; refine Calls.mono (HRV.out b7 _ (HL7.out.below (by (repeat (first | (with_reducible refine below_set ?_ (by first | exact Nat.le_refl _ | omega) _ _) | with_reducible exact Below.refl _ _ | with_reducible refine belowA ?_ _ | with_reducible refine belowD ?_ | with_reducible refine belowN ?_ _)))) HF7.out HD7.out (by (repeat (first | (with_reducible refine below_set ?_ (by first | exact Nat.le_refl _ | omega) _ _) | with_reducible exact Below.refl _ _ | with_reducible refine belowA ?_ _ | with_reducible refine below_own' ?_ hq7 | with_reducible refine below_own' ?_ hq6 | with_reducible refine below_own' ?_ hq5 | with_reducible refine below_own' ?_ HB.out | with_reducible refine belowD ?_ | with_reducible refine belowN ?_ _)))) ?_; rintro e x8 ⟨rfl, hq8⟩)
        | (go_at_call 20; refine Calls.mono (awake02 _ (HG.out.glob.below ?_)) ?_; (focus ((repeat (first | (with_reducible refine below_set ?_ (by first | exact Nat.le_refl _ | omega) _ _) | with_reducible exact Below.refl _ _ | with_reducible refine belowA ?_ _ | with_reducible refine below_own' ?_ hq8 | with_reducible refine below_own' ?_ hq7 | with_reducible refine below_own' ?_ hq6 | with_reducible refine below_own' ?_ hq5 | with_reducible refine below_own' ?_ HB.out | with_reducible refine belowD ?_ | with_reducible refine belowN ?_ _)); done)); rintro e x9 ⟨rfl, hq9⟩))
      go_ret
      exact ⟨rfl, by (repeat (first | (with_reducible refine below_set ?_ (by first | exact Nat.le_refl _ | omega) _ _) | with_reducible exact Below.refl _ _ | with_reducible refine belowA ?_ _ | with_reducible refine below_own' ?_ hq9 | with_reducible refine below_own' ?_ hq8 | with_reducible refine below_own' ?_ hq7 | with_reducible refine below_own' ?_ hq6 | with_reducible refine below_own' ?_ hq5 | with_reducible refine below_own' ?_ HB.out | with_reducible refine belowD ?_ | with_reducible refine belowN ?_ _))⟩

end Go.Proofs.YtmepjbjmjbpchaaGreatDoor

