/- AttrsPrints: the law's walk. -/
import Derived.Test.YtmepjbjmjbpchaaGreatDoorMg23
import Derived.Test.YtmepjbjmjbpchaaGreatDoorMg27
namespace Go.Proofs.YtmepjbjmjbpchaaGreatDoor
open Go Go.RowKit Go.Sort
set_option linter.unusedVariables false
set_option linter.unusedSimpArgs false

theorem value_yes (a : Atr) (w : World) (hl : a.Lies w) (hf : a.Fits) (hp : Pow w) (hr : rightA a = true) (vs : ByteArray) (hv : vs = ⟨(valD a.dat).toArray⟩) :
    Calls Tryz.prog 32 #[a.val] w fun e w' => e = .returned (.tuple #[.string vs, .int .i64 0]) ∧ Below w.heap.size w w' :=
  (value_any a w hl hf hp).mono fun e w' h => by
    have h1 := h.1
    have h2 := valD_len hr hf
    rw [hr, if_pos rfl, if_pos (by omega), ← hv] at h1
    exact ⟨h1, h.2⟩
theorem value_no (a : Atr) (w : World) (hl : a.Lies w) (hf : a.Fits) (hp : Pow w) (hr : rightA a = false) :
    Calls Tryz.prog 32 #[a.val] w fun e w' => e = .returned (.tuple #[.string ⟨#[]⟩, .int .i64 20]) ∧ Below w.heap.size w w' :=
  (value_any a w hl hf hp).mono fun e w' h => by
    have h1 := h.1
    rw [hr] at h1
    exact ⟨by simpa using h1, h.2⟩
set_option maxRecDepth 100000 in
set_option maxHeartbeats 16000000 in
theorem prints_law (p : Option Addr) (c : Nat) (l : List Atr) (w : World) (hg : Glob w) (hs : AtrSl w p l) (hl : l.length ≤ 100000000000000) :
    Calls Tryz.prog 8 #[.slice p l.length c] w fun e w' => e = .returned (.bool true) ∧ Below w.heap.size w w' := by
  have HG := Lib.hid hg
  have HS := Lib.hid hs
  have hpr := print_any p c l w hs hl hg.pow
  obtain ⟨r, hr⟩ : ∃ r, r = rightL l := ⟨_, rfl⟩
  have HRL := Lib.hid hr
  unfold SaidPost at hpr
  rw [← hr] at hpr
  obtain ⟨vt, hvt⟩ : ∃ vt : ByteArray, vt = ⟨(listD (l.map Atr.dat)).toArray⟩ := ⟨_, rfl⟩
  have hvz : vt.size = (listD (l.map Atr.dat)).length := by rw [hvt]; rfl
  rw [← hvt, ← hvz] at hpr
  have HVT := Lib.hid hvt
  clear hg hs hvz hvt
  cases r with
  | false =>
    have HP : Hid (Calls Tryz.prog 30 #[.slice p l.length c] w fun e w' => e = .returned (.tuple #[.string ⟨#[]⟩, .int .i64 20]) ∧ Below w.heap.size w w') := Lib.hid (hpr.mono fun e w' h => ⟨by simpa using h.1, h.2⟩)
    clear hpr hr
    go_enter Tryz.func8, Tryz.ntmps8
    go_wp2_with (first
      | (go_at_call 14; refine Calls.mono (rRightList_any p c l _ (HS.out.below ?_) hl) ?_; (focus ((repeat (first | (with_reducible refine below_set ?_ (by first | exact Nat.le_refl _ | omega) _ _) | with_reducible exact Below.refl _ _ | with_reducible refine belowA ?_ _ | with_reducible refine below_own' ?_ hb1 | with_reducible refine belowD ?_ | with_reducible refine belowN ?_ _)); done)); rintro e w2 ⟨rfl, hb2⟩; rw [← HRL.out])
      | (go_at_call 30; refine HP.out.mono ?_; rintro e w1 ⟨rfl, hb1⟩))
    go_loopw [7] (fun i wr => ∃ j : Nat, i = .int .i64 j ∧ j ≤ 8 ∧ j ≤ l.length ∧ Below w.heap.size w wr) (fun i _ => 8 - (intOf i).toNat)
    case atStart => exact ⟨0, rfl, Nat.zero_le _, Nat.zero_le _, by (repeat (first | (with_reducible refine below_set ?_ (by first | exact Nat.le_refl _ | omega) _ _) | with_reducible exact Below.refl _ _ | with_reducible refine belowA ?_ _ | with_reducible refine below_own' ?_ hb2 | with_reducible refine below_own' ?_ hb1 | with_reducible refine belowD ?_ | with_reducible refine belowN ?_ _))⟩
    case round =>
      obtain ⟨j, rfl, hj8, hjl, hb⟩ := hrel
      have HB := Lib.hid hb
      clear hb
      by_cases hc : j < l.length ∧ j < 8
      · obtain ⟨hlt, h8⟩ := hc
        have hsw := HS.out.below HB.out
        obtain ⟨g, off, rfl, hzg, hrow⟩ := hsw.row hlt
        obtain ⟨a0, ha0⟩ : ∃ a0, a0 = l[j] := ⟨_, rfl⟩
        have hcj := hrow _ hlt
        rw [← ha0] at hcj
        have HLI := Lib.hid (fun (W : World) (hb : Below wr.heap.size wr W) => (hsw.lies a0 (by rw [ha0]; exact List.getElem_mem _)).below hb)
        have HFI := Lib.hid (hsw.fits a0 (by rw [ha0]; exact List.getElem_mem _))
        have HPW : Hid (∀ W, Below wr.heap.size wr W → Pow W) := Lib.hid fun W h => pow_below HG.out.pow (below_own' HB.out h)
        have hj0 : (0 : Int) ≤ (j : Int) := by omega
        have hjn : (j : Int) < (l.length : Int) := by omega
        have hj88 : (j : Int) < 8 := by omega
        clear ha0 hrow hsw
        obtain ⟨k0, k1, k2, k3, k4, k5⟩ := hcj
        cases hr : rightA a0 with
        | false =>
          have HR := Lib.hid hr
          clear hr
          go_wp2_with (first
            | (go_at_call 15; refine Calls.mono (rRight_any a0 _ (HLI.out _ (by (repeat (first | (with_reducible refine below_set ?_ (by first | exact Nat.le_refl _ | omega) _ _) | with_reducible exact Below.refl _ _ | with_reducible refine belowA ?_ _ | with_reducible refine below_own' ?_ hq1 | with_reducible refine belowD ?_ | with_reducible refine belowN ?_ _)))) HFI.out) ?_; rintro e x2 ⟨rfl, hq2⟩; rw [HR.out])
            | (go_at_call 32; refine Calls.mono (value_no a0 _ (HLI.out _ (by (repeat (first | (with_reducible refine below_set ?_ (by first | exact Nat.le_refl _ | omega) _ _) | with_reducible exact Below.refl _ _ | with_reducible refine belowA ?_ _ | with_reducible refine belowD ?_ | with_reducible refine belowN ?_ _)))) HFI.out (HPW.out _ (by (repeat (first | (with_reducible refine below_set ?_ (by first | exact Nat.le_refl _ | omega) _ _) | with_reducible exact Below.refl _ _ | with_reducible refine belowA ?_ _ | with_reducible refine belowD ?_ | with_reducible refine belowN ?_ _)))) HR.out) ?_; rintro e x1 ⟨rfl, hq1⟩; have d0 := fun j => rdCell hq1 g hzg j; have hzx1 : g < x1.heap.size := Nat.lt_of_lt_of_le hzg hq1.size; have m0 := (d0 (off + j * 6)).trans k0; have m1 := (d0 (off + j * 6 + 1)).trans k1; have m2 := (d0 (off + j * 6 + 2)).trans k2; have m3 := (d0 (off + j * 6 + 3)).trans k3; have m4 := (d0 (off + j * 6 + 4)).trans k4; have m5 := (d0 (off + j * 6 + 5)).trans k5; clear d0))
          go_roundw
          case rel => exact ⟨j + 1, by go_num, by omega, by omega, by (repeat (first | (with_reducible refine below_set ?_ (by first | exact Nat.le_refl _ | omega) _ _) | with_reducible exact Below.refl _ _ | with_reducible refine belowA ?_ _ | with_reducible refine below_own' ?_ hq2 | with_reducible refine below_own' ?_ hq1 | with_reducible refine below_own' ?_ HB.out | with_reducible refine belowD ?_ | with_reducible refine belowN ?_ _))⟩
          case measure => simp [intOf]; omega
        | true =>
          have HR := Lib.hid hr
          obtain ⟨vs, hvs⟩ : ∃ vs : ByteArray, vs = ⟨(valD a0.dat).toArray⟩ := ⟨_, rfl⟩
          have HV := Lib.hid hvs
          clear hr hvs
          go_wp2_with (first
            | (go_at_call 33; refine Calls.mono (rvalue_any a0 _ (HLI.out _ (by (repeat (first | (with_reducible refine below_set ?_ (by first | exact Nat.le_refl _ | omega) _ _) | with_reducible exact Below.refl _ _ | with_reducible refine belowA ?_ _ | with_reducible refine below_own' ?_ hq2 | with_reducible refine below_own' ?_ hq1 | with_reducible refine belowD ?_ | with_reducible refine belowN ?_ _)))) HFI.out HR.out) ?_; rintro e x3 ⟨rfl, hq3⟩; rw [← HV.out])
            | (go_at_call 15; refine Calls.mono (rRight_any a0 _ (HLI.out _ (by (repeat (first | (with_reducible refine below_set ?_ (by first | exact Nat.le_refl _ | omega) _ _) | with_reducible exact Below.refl _ _ | with_reducible refine belowA ?_ _ | with_reducible refine below_own' ?_ hq1 | with_reducible refine belowD ?_ | with_reducible refine belowN ?_ _)))) HFI.out) ?_; rintro e x2 ⟨rfl, hq2⟩; rw [HR.out]; have d1 := fun j => rdCell hq2 g hzx1 j; have hzx2 : g < x2.heap.size := Nat.lt_of_lt_of_le hzx1 hq2.size; have n0 := (d1 (off + j * 6)).trans m0; have n1 := (d1 (off + j * 6 + 1)).trans m1; have n2 := (d1 (off + j * 6 + 2)).trans m2; have n3 := (d1 (off + j * 6 + 3)).trans m3; have n4 := (d1 (off + j * 6 + 4)).trans m4; have n5 := (d1 (off + j * 6 + 5)).trans m5; clear d1)
            | (go_at_call 32; refine Calls.mono (value_yes a0 _ (HLI.out _ (by (repeat (first | (with_reducible refine below_set ?_ (by first | exact Nat.le_refl _ | omega) _ _) | with_reducible exact Below.refl _ _ | with_reducible refine belowA ?_ _ | with_reducible refine belowD ?_ | with_reducible refine belowN ?_ _)))) HFI.out (HPW.out _ (by (repeat (first | (with_reducible refine below_set ?_ (by first | exact Nat.le_refl _ | omega) _ _) | with_reducible exact Below.refl _ _ | with_reducible refine belowA ?_ _ | with_reducible refine belowD ?_ | with_reducible refine belowN ?_ _)))) HR.out vs HV.out) ?_; rintro e x1 ⟨rfl, hq1⟩; have d0 := fun j => rdCell hq1 g hzg j; have hzx1 : g < x1.heap.size := Nat.lt_of_lt_of_le hzg hq1.size; have m0 := (d0 (off + j * 6)).trans k0; have m1 := (d0 (off + j * 6 + 1)).trans k1; have m2 := (d0 (off + j * 6 + 2)).trans k2; have m3 := (d0 (off + j * 6 + 3)).trans k3; have m4 := (d0 (off + j * 6 + 4)).trans k4; have m5 := (d0 (off + j * 6 + 5)).trans k5; clear d0))
          go_roundw
          case rel => exact ⟨j + 1, by go_num, by omega, by omega, by (repeat (first | (with_reducible refine below_set ?_ (by first | exact Nat.le_refl _ | omega) _ _) | with_reducible exact Below.refl _ _ | with_reducible refine belowA ?_ _ | with_reducible refine below_own' ?_ hq3 | with_reducible refine below_own' ?_ hq2 | with_reducible refine below_own' ?_ hq1 | with_reducible refine below_own' ?_ HB.out | with_reducible refine belowD ?_ | with_reducible refine belowN ?_ _))⟩
          case measure => simp [intOf]; omega
      · have hdc : ¬ ((j : Int) < (l.length : Int)) ∨ ((j : Int) < (l.length : Int) ∧ ¬ ((j : Int) < 8)) := by omega
        rcases hdc with hd | ⟨hd, hd8⟩
        · go_wp2_with (go_at_call 20; refine Calls.mono (awake02 _ (HG.out.below ?_)) ?_; (focus ((repeat (first | (with_reducible refine below_set ?_ (by first | exact Nat.le_refl _ | omega) _ _) | with_reducible exact Below.refl _ _ | with_reducible refine belowA ?_ _ | with_reducible refine below_own' ?_ HB.out | with_reducible refine belowD ?_ | with_reducible refine belowN ?_ _)); done)); rintro e x4 ⟨rfl, hq4⟩)
          go_ret
          exact ⟨rfl, by (repeat (first | (with_reducible refine below_set ?_ (by first | exact Nat.le_refl _ | omega) _ _) | with_reducible exact Below.refl _ _ | with_reducible refine belowA ?_ _ | with_reducible refine below_own' ?_ hq4 | with_reducible refine below_own' ?_ HB.out | with_reducible refine belowD ?_ | with_reducible refine belowN ?_ _))⟩
        · go_wp2_with (go_at_call 20; refine Calls.mono (awake02 _ (HG.out.below ?_)) ?_; (focus ((repeat (first | (with_reducible refine below_set ?_ (by first | exact Nat.le_refl _ | omega) _ _) | with_reducible exact Below.refl _ _ | with_reducible refine belowA ?_ _ | with_reducible refine below_own' ?_ HB.out | with_reducible refine belowD ?_ | with_reducible refine belowN ?_ _)); done)); rintro e x4 ⟨rfl, hq4⟩)
          go_ret
          exact ⟨rfl, by (repeat (first | (with_reducible refine below_set ?_ (by first | exact Nat.le_refl _ | omega) _ _) | with_reducible exact Below.refl _ _ | with_reducible refine belowA ?_ _ | with_reducible refine below_own' ?_ hq4 | with_reducible refine below_own' ?_ HB.out | with_reducible refine belowD ?_ | with_reducible refine belowN ?_ _))⟩
  | true =>
    have h1l := rightL_len hr.symm
    have hmem := rightL_mem hr.symm
    have HM := Lib.hid hmem
    by_cases h2 : vt.size ≤ 262144
    · have HP : Hid (Calls Tryz.prog 30 #[.slice p l.length c] w fun e w' => e = .returned (.tuple #[.string vt, .int .i64 0]) ∧ Below w.heap.size w w') := Lib.hid (hpr.mono fun e w' h => ⟨by have := h.1; rw [if_pos rfl, if_pos h2] at this; exact this, h.2⟩)
      have h3 : ¬ ((262144 : Int) < (vt.size : Int)) := by omega
      clear hpr hr hmem
      go_enter Tryz.func8, Tryz.ntmps8
      go_wp2_with (first
        | (go_at_call 31; refine Calls.mono (rprint_any p c l _ (HS.out.below ?_) HM.out h1l) ?_; (focus ((repeat (first | (with_reducible refine below_set ?_ (by first | exact Nat.le_refl _ | omega) _ _) | with_reducible exact Below.refl _ _ | with_reducible refine belowA ?_ _ | with_reducible refine below_own' ?_ hb2 | with_reducible refine below_own' ?_ hb1 | with_reducible refine belowD ?_ | with_reducible refine belowN ?_ _)); done)); rintro e w3 ⟨rfl, hb3⟩; rw [← HVT.out])
        | (go_at_call 14; refine Calls.mono (rRightList_any p c l _ (HS.out.below ?_) hl) ?_; (focus ((repeat (first | (with_reducible refine below_set ?_ (by first | exact Nat.le_refl _ | omega) _ _) | with_reducible exact Below.refl _ _ | with_reducible refine belowA ?_ _ | with_reducible refine below_own' ?_ hb1 | with_reducible refine belowD ?_ | with_reducible refine belowN ?_ _)); done)); rintro e w2 ⟨rfl, hb2⟩; rw [← HRL.out])
        | (go_at_call 30; refine HP.out.mono ?_; rintro e w1 ⟨rfl, hb1⟩))
      go_loopw [7] (fun i wr => ∃ j : Nat, i = .int .i64 j ∧ j ≤ 8 ∧ j ≤ l.length ∧ Below w.heap.size w wr) (fun i _ => 8 - (intOf i).toNat)
      case atStart => exact ⟨0, rfl, Nat.zero_le _, Nat.zero_le _, by (repeat (first | (with_reducible refine below_set ?_ (by first | exact Nat.le_refl _ | omega) _ _) | with_reducible exact Below.refl _ _ | with_reducible refine belowA ?_ _ | with_reducible refine below_own' ?_ hb3 | with_reducible refine below_own' ?_ hb2 | with_reducible refine below_own' ?_ hb1 | with_reducible refine belowD ?_ | with_reducible refine belowN ?_ _))⟩
      case round =>
        obtain ⟨j, rfl, hj8, hjl, hb⟩ := hrel
        have HB := Lib.hid hb
        clear hb
        by_cases hc : j < l.length ∧ j < 8
        · obtain ⟨hlt, h8⟩ := hc
          have hsw := HS.out.below HB.out
          obtain ⟨g, off, rfl, hzg, hrow⟩ := hsw.row hlt
          obtain ⟨a0, ha0⟩ : ∃ a0, a0 = l[j] := ⟨_, rfl⟩
          have hcj := hrow _ hlt
          rw [← ha0] at hcj
          have HLI := Lib.hid (fun (W : World) (hb : Below wr.heap.size wr W) => (hsw.lies a0 (by rw [ha0]; exact List.getElem_mem _)).below hb)
          have HFI := Lib.hid (hsw.fits a0 (by rw [ha0]; exact List.getElem_mem _))
          have HPW : Hid (∀ W, Below wr.heap.size wr W → Pow W) := Lib.hid fun W h => pow_below HG.out.pow (below_own' HB.out h)
          have hj0 : (0 : Int) ≤ (j : Int) := by omega
          have hjn : (j : Int) < (l.length : Int) := by omega
          have hj88 : (j : Int) < 8 := by omega
          clear ha0 hrow hsw
          obtain ⟨k0, k1, k2, k3, k4, k5⟩ := hcj
          cases hr : rightA a0 with
          | false =>
            have HR := Lib.hid hr
            clear hr
            go_wp2_with (first
              | (go_at_call 15; refine Calls.mono (rRight_any a0 _ (HLI.out _ (by (repeat (first | (with_reducible refine below_set ?_ (by first | exact Nat.le_refl _ | omega) _ _) | with_reducible exact Below.refl _ _ | with_reducible refine belowA ?_ _ | with_reducible refine below_own' ?_ hq1 | with_reducible refine belowD ?_ | with_reducible refine belowN ?_ _)))) HFI.out) ?_; rintro e x2 ⟨rfl, hq2⟩; rw [HR.out])
              | (go_at_call 32; refine Calls.mono (value_no a0 _ (HLI.out _ (by (repeat (first | (with_reducible refine below_set ?_ (by first | exact Nat.le_refl _ | omega) _ _) | with_reducible exact Below.refl _ _ | with_reducible refine belowA ?_ _ | with_reducible refine belowD ?_ | with_reducible refine belowN ?_ _)))) HFI.out (HPW.out _ (by (repeat (first | (with_reducible refine below_set ?_ (by first | exact Nat.le_refl _ | omega) _ _) | with_reducible exact Below.refl _ _ | with_reducible refine belowA ?_ _ | with_reducible refine belowD ?_ | with_reducible refine belowN ?_ _)))) HR.out) ?_; rintro e x1 ⟨rfl, hq1⟩; have d0 := fun j => rdCell hq1 g hzg j; have hzx1 : g < x1.heap.size := Nat.lt_of_lt_of_le hzg hq1.size; have m0 := (d0 (off + j * 6)).trans k0; have m1 := (d0 (off + j * 6 + 1)).trans k1; have m2 := (d0 (off + j * 6 + 2)).trans k2; have m3 := (d0 (off + j * 6 + 3)).trans k3; have m4 := (d0 (off + j * 6 + 4)).trans k4; have m5 := (d0 (off + j * 6 + 5)).trans k5; clear d0))
            go_roundw
            case rel => exact ⟨j + 1, by go_num, by omega, by omega, by (repeat (first | (with_reducible refine below_set ?_ (by first | exact Nat.le_refl _ | omega) _ _) | with_reducible exact Below.refl _ _ | with_reducible refine belowA ?_ _ | with_reducible refine below_own' ?_ hq2 | with_reducible refine below_own' ?_ hq1 | with_reducible refine below_own' ?_ HB.out | with_reducible refine belowD ?_ | with_reducible refine belowN ?_ _))⟩
            case measure => simp [intOf]; omega
          | true =>
            have HR := Lib.hid hr
            obtain ⟨vs, hvs⟩ : ∃ vs : ByteArray, vs = ⟨(valD a0.dat).toArray⟩ := ⟨_, rfl⟩
            have HV := Lib.hid hvs
            clear hr hvs
            go_wp2_with (first
              | (go_at_call 33; refine Calls.mono (rvalue_any a0 _ (HLI.out _ (by (repeat (first | (with_reducible refine below_set ?_ (by first | exact Nat.le_refl _ | omega) _ _) | with_reducible exact Below.refl _ _ | with_reducible refine belowA ?_ _ | with_reducible refine below_own' ?_ hq2 | with_reducible refine below_own' ?_ hq1 | with_reducible refine belowD ?_ | with_reducible refine belowN ?_ _)))) HFI.out HR.out) ?_; rintro e x3 ⟨rfl, hq3⟩; rw [← HV.out])
              | (go_at_call 15; refine Calls.mono (rRight_any a0 _ (HLI.out _ (by (repeat (first | (with_reducible refine below_set ?_ (by first | exact Nat.le_refl _ | omega) _ _) | with_reducible exact Below.refl _ _ | with_reducible refine belowA ?_ _ | with_reducible refine below_own' ?_ hq1 | with_reducible refine belowD ?_ | with_reducible refine belowN ?_ _)))) HFI.out) ?_; rintro e x2 ⟨rfl, hq2⟩; rw [HR.out]; have d1 := fun j => rdCell hq2 g hzx1 j; have hzx2 : g < x2.heap.size := Nat.lt_of_lt_of_le hzx1 hq2.size; have n0 := (d1 (off + j * 6)).trans m0; have n1 := (d1 (off + j * 6 + 1)).trans m1; have n2 := (d1 (off + j * 6 + 2)).trans m2; have n3 := (d1 (off + j * 6 + 3)).trans m3; have n4 := (d1 (off + j * 6 + 4)).trans m4; have n5 := (d1 (off + j * 6 + 5)).trans m5; clear d1)
              | (go_at_call 32; refine Calls.mono (value_yes a0 _ (HLI.out _ (by (repeat (first | (with_reducible refine below_set ?_ (by first | exact Nat.le_refl _ | omega) _ _) | with_reducible exact Below.refl _ _ | with_reducible refine belowA ?_ _ | with_reducible refine belowD ?_ | with_reducible refine belowN ?_ _)))) HFI.out (HPW.out _ (by (repeat (first | (with_reducible refine below_set ?_ (by first | exact Nat.le_refl _ | omega) _ _) | with_reducible exact Below.refl _ _ | with_reducible refine belowA ?_ _ | with_reducible refine belowD ?_ | with_reducible refine belowN ?_ _)))) HR.out vs HV.out) ?_; rintro e x1 ⟨rfl, hq1⟩; have d0 := fun j => rdCell hq1 g hzg j; have hzx1 : g < x1.heap.size := Nat.lt_of_lt_of_le hzg hq1.size; have m0 := (d0 (off + j * 6)).trans k0; have m1 := (d0 (off + j * 6 + 1)).trans k1; have m2 := (d0 (off + j * 6 + 2)).trans k2; have m3 := (d0 (off + j * 6 + 3)).trans k3; have m4 := (d0 (off + j * 6 + 4)).trans k4; have m5 := (d0 (off + j * 6 + 5)).trans k5; clear d0))
            go_roundw
            case rel => exact ⟨j + 1, by go_num, by omega, by omega, by (repeat (first | (with_reducible refine below_set ?_ (by first | exact Nat.le_refl _ | omega) _ _) | with_reducible exact Below.refl _ _ | with_reducible refine belowA ?_ _ | with_reducible refine below_own' ?_ hq3 | with_reducible refine below_own' ?_ hq2 | with_reducible refine below_own' ?_ hq1 | with_reducible refine below_own' ?_ HB.out | with_reducible refine belowD ?_ | with_reducible refine belowN ?_ _))⟩
            case measure => simp [intOf]; omega
        · have hdc : ¬ ((j : Int) < (l.length : Int)) ∨ ((j : Int) < (l.length : Int) ∧ ¬ ((j : Int) < 8)) := by omega
          rcases hdc with hd | ⟨hd, hd8⟩
          · go_wp2_with (go_at_call 20; refine Calls.mono (awake02 _ (HG.out.below ?_)) ?_; (focus ((repeat (first | (with_reducible refine below_set ?_ (by first | exact Nat.le_refl _ | omega) _ _) | with_reducible exact Below.refl _ _ | with_reducible refine belowA ?_ _ | with_reducible refine below_own' ?_ HB.out | with_reducible refine belowD ?_ | with_reducible refine belowN ?_ _)); done)); rintro e x4 ⟨rfl, hq4⟩)
            go_ret
            exact ⟨rfl, by (repeat (first | (with_reducible refine below_set ?_ (by first | exact Nat.le_refl _ | omega) _ _) | with_reducible exact Below.refl _ _ | with_reducible refine belowA ?_ _ | with_reducible refine below_own' ?_ hq4 | with_reducible refine below_own' ?_ HB.out | with_reducible refine belowD ?_ | with_reducible refine belowN ?_ _))⟩
          · go_wp2_with (go_at_call 20; refine Calls.mono (awake02 _ (HG.out.below ?_)) ?_; (focus ((repeat (first | (with_reducible refine below_set ?_ (by first | exact Nat.le_refl _ | omega) _ _) | with_reducible exact Below.refl _ _ | with_reducible refine belowA ?_ _ | with_reducible refine below_own' ?_ HB.out | with_reducible refine belowD ?_ | with_reducible refine belowN ?_ _)); done)); rintro e x4 ⟨rfl, hq4⟩)
            go_ret
            exact ⟨rfl, by (repeat (first | (with_reducible refine below_set ?_ (by first | exact Nat.le_refl _ | omega) _ _) | with_reducible exact Below.refl _ _ | with_reducible refine belowA ?_ _ | with_reducible refine below_own' ?_ hq4 | with_reducible refine below_own' ?_ HB.out | with_reducible refine belowD ?_ | with_reducible refine belowN ?_ _))⟩
    · have HP : Hid (Calls Tryz.prog 30 #[.slice p l.length c] w fun e w' => e = .returned (.tuple #[.string ⟨#[]⟩, .int .i64 2]) ∧ Below w.heap.size w w') := Lib.hid (hpr.mono fun e w' h => ⟨by have := h.1; rw [if_pos rfl, if_neg h2] at this; exact this, h.2⟩)
      have h3 : (262144 : Int) < (vt.size : Int) := by omega
      clear hpr hr hmem
      go_enter Tryz.func8, Tryz.ntmps8
      go_wp2_with (first
        | (go_at_call 31; refine Calls.mono (rprint_any p c l _ (HS.out.below ?_) HM.out h1l) ?_; (focus ((repeat (first | (with_reducible refine below_set ?_ (by first | exact Nat.le_refl _ | omega) _ _) | with_reducible exact Below.refl _ _ | with_reducible refine belowA ?_ _ | with_reducible refine below_own' ?_ hb2 | with_reducible refine below_own' ?_ hb1 | with_reducible refine belowD ?_ | with_reducible refine belowN ?_ _)); done)); rintro e w3 ⟨rfl, hb3⟩; rw [← HVT.out])
        | (go_at_call 14; refine Calls.mono (rRightList_any p c l _ (HS.out.below ?_) hl) ?_; (focus ((repeat (first | (with_reducible refine below_set ?_ (by first | exact Nat.le_refl _ | omega) _ _) | with_reducible exact Below.refl _ _ | with_reducible refine belowA ?_ _ | with_reducible refine below_own' ?_ hb1 | with_reducible refine belowD ?_ | with_reducible refine belowN ?_ _)); done)); rintro e w2 ⟨rfl, hb2⟩; rw [← HRL.out])
        | (go_at_call 30; refine HP.out.mono ?_; rintro e w1 ⟨rfl, hb1⟩))
      go_loopw [7] (fun i wr => ∃ j : Nat, i = .int .i64 j ∧ j ≤ 8 ∧ j ≤ l.length ∧ Below w.heap.size w wr) (fun i _ => 8 - (intOf i).toNat)
      case atStart => exact ⟨0, rfl, Nat.zero_le _, Nat.zero_le _, by (repeat (first | (with_reducible refine below_set ?_ (by first | exact Nat.le_refl _ | omega) _ _) | with_reducible exact Below.refl _ _ | with_reducible refine belowA ?_ _ | with_reducible refine below_own' ?_ hb3 | with_reducible refine below_own' ?_ hb2 | with_reducible refine below_own' ?_ hb1 | with_reducible refine belowD ?_ | with_reducible refine belowN ?_ _))⟩
      case round =>
        obtain ⟨j, rfl, hj8, hjl, hb⟩ := hrel
        have HB := Lib.hid hb
        clear hb
        by_cases hc : j < l.length ∧ j < 8
        · obtain ⟨hlt, h8⟩ := hc
          have hsw := HS.out.below HB.out
          obtain ⟨g, off, rfl, hzg, hrow⟩ := hsw.row hlt
          obtain ⟨a0, ha0⟩ : ∃ a0, a0 = l[j] := ⟨_, rfl⟩
          have hcj := hrow _ hlt
          rw [← ha0] at hcj
          have HLI := Lib.hid (fun (W : World) (hb : Below wr.heap.size wr W) => (hsw.lies a0 (by rw [ha0]; exact List.getElem_mem _)).below hb)
          have HFI := Lib.hid (hsw.fits a0 (by rw [ha0]; exact List.getElem_mem _))
          have HPW : Hid (∀ W, Below wr.heap.size wr W → Pow W) := Lib.hid fun W h => pow_below HG.out.pow (below_own' HB.out h)
          have hj0 : (0 : Int) ≤ (j : Int) := by omega
          have hjn : (j : Int) < (l.length : Int) := by omega
          have hj88 : (j : Int) < 8 := by omega
          clear ha0 hrow hsw
          obtain ⟨k0, k1, k2, k3, k4, k5⟩ := hcj
          cases hr : rightA a0 with
          | false =>
            have HR := Lib.hid hr
            clear hr
            go_wp2_with (first
              | (go_at_call 15; refine Calls.mono (rRight_any a0 _ (HLI.out _ (by (repeat (first | (with_reducible refine below_set ?_ (by first | exact Nat.le_refl _ | omega) _ _) | with_reducible exact Below.refl _ _ | with_reducible refine belowA ?_ _ | with_reducible refine below_own' ?_ hq1 | with_reducible refine belowD ?_ | with_reducible refine belowN ?_ _)))) HFI.out) ?_; rintro e x2 ⟨rfl, hq2⟩; rw [HR.out])
              | (go_at_call 32; refine Calls.mono (value_no a0 _ (HLI.out _ (by (repeat (first | (with_reducible refine below_set ?_ (by first | exact Nat.le_refl _ | omega) _ _) | with_reducible exact Below.refl _ _ | with_reducible refine belowA ?_ _ | with_reducible refine belowD ?_ | with_reducible refine belowN ?_ _)))) HFI.out (HPW.out _ (by (repeat (first | (with_reducible refine below_set ?_ (by first | exact Nat.le_refl _ | omega) _ _) | with_reducible exact Below.refl _ _ | with_reducible refine belowA ?_ _ | with_reducible refine belowD ?_ | with_reducible refine belowN ?_ _)))) HR.out) ?_; rintro e x1 ⟨rfl, hq1⟩; have d0 := fun j => rdCell hq1 g hzg j; have hzx1 : g < x1.heap.size := Nat.lt_of_lt_of_le hzg hq1.size; have m0 := (d0 (off + j * 6)).trans k0; have m1 := (d0 (off + j * 6 + 1)).trans k1; have m2 := (d0 (off + j * 6 + 2)).trans k2; have m3 := (d0 (off + j * 6 + 3)).trans k3; have m4 := (d0 (off + j * 6 + 4)).trans k4; have m5 := (d0 (off + j * 6 + 5)).trans k5; clear d0))
            go_roundw
            case rel => exact ⟨j + 1, by go_num, by omega, by omega, by (repeat (first | (with_reducible refine below_set ?_ (by first | exact Nat.le_refl _ | omega) _ _) | with_reducible exact Below.refl _ _ | with_reducible refine belowA ?_ _ | with_reducible refine below_own' ?_ hq2 | with_reducible refine below_own' ?_ hq1 | with_reducible refine below_own' ?_ HB.out | with_reducible refine belowD ?_ | with_reducible refine belowN ?_ _))⟩
            case measure => simp [intOf]; omega
          | true =>
            have HR := Lib.hid hr
            obtain ⟨vs, hvs⟩ : ∃ vs : ByteArray, vs = ⟨(valD a0.dat).toArray⟩ := ⟨_, rfl⟩
            have HV := Lib.hid hvs
            clear hr hvs
            go_wp2_with (first
              | (go_at_call 33; refine Calls.mono (rvalue_any a0 _ (HLI.out _ (by (repeat (first | (with_reducible refine below_set ?_ (by first | exact Nat.le_refl _ | omega) _ _) | with_reducible exact Below.refl _ _ | with_reducible refine belowA ?_ _ | with_reducible refine below_own' ?_ hq2 | with_reducible refine below_own' ?_ hq1 | with_reducible refine belowD ?_ | with_reducible refine belowN ?_ _)))) HFI.out HR.out) ?_; rintro e x3 ⟨rfl, hq3⟩; rw [← HV.out])
              | (go_at_call 15; refine Calls.mono (rRight_any a0 _ (HLI.out _ (by (repeat (first | (with_reducible refine below_set ?_ (by first | exact Nat.le_refl _ | omega) _ _) | with_reducible exact Below.refl _ _ | with_reducible refine belowA ?_ _ | with_reducible refine below_own' ?_ hq1 | with_reducible refine belowD ?_ | with_reducible refine belowN ?_ _)))) HFI.out) ?_; rintro e x2 ⟨rfl, hq2⟩; rw [HR.out]; have d1 := fun j => rdCell hq2 g hzx1 j; have hzx2 : g < x2.heap.size := Nat.lt_of_lt_of_le hzx1 hq2.size; have n0 := (d1 (off + j * 6)).trans m0; have n1 := (d1 (off + j * 6 + 1)).trans m1; have n2 := (d1 (off + j * 6 + 2)).trans m2; have n3 := (d1 (off + j * 6 + 3)).trans m3; have n4 := (d1 (off + j * 6 + 4)).trans m4; have n5 := (d1 (off + j * 6 + 5)).trans m5; clear d1)
              | (go_at_call 32; refine Calls.mono (value_yes a0 _ (HLI.out _ (by (repeat (first | (with_reducible refine below_set ?_ (by first | exact Nat.le_refl _ | omega) _ _) | with_reducible exact Below.refl _ _ | with_reducible refine belowA ?_ _ | with_reducible refine belowD ?_ | with_reducible refine belowN ?_ _)))) HFI.out (HPW.out _ (by (repeat (first | (with_reducible refine below_set ?_ (by first | exact Nat.le_refl _ | omega) _ _) | with_reducible exact Below.refl _ _ | with_reducible refine belowA ?_ _ | with_reducible refine belowD ?_ | with_reducible refine belowN ?_ _)))) HR.out vs HV.out) ?_; rintro e x1 ⟨rfl, hq1⟩; have d0 := fun j => rdCell hq1 g hzg j; have hzx1 : g < x1.heap.size := Nat.lt_of_lt_of_le hzg hq1.size; have m0 := (d0 (off + j * 6)).trans k0; have m1 := (d0 (off + j * 6 + 1)).trans k1; have m2 := (d0 (off + j * 6 + 2)).trans k2; have m3 := (d0 (off + j * 6 + 3)).trans k3; have m4 := (d0 (off + j * 6 + 4)).trans k4; have m5 := (d0 (off + j * 6 + 5)).trans k5; clear d0))
            go_roundw
            case rel => exact ⟨j + 1, by go_num, by omega, by omega, by (repeat (first | (with_reducible refine below_set ?_ (by first | exact Nat.le_refl _ | omega) _ _) | with_reducible exact Below.refl _ _ | with_reducible refine belowA ?_ _ | with_reducible refine below_own' ?_ hq3 | with_reducible refine below_own' ?_ hq2 | with_reducible refine below_own' ?_ hq1 | with_reducible refine below_own' ?_ HB.out | with_reducible refine belowD ?_ | with_reducible refine belowN ?_ _))⟩
            case measure => simp [intOf]; omega
        · have hdc : ¬ ((j : Int) < (l.length : Int)) ∨ ((j : Int) < (l.length : Int) ∧ ¬ ((j : Int) < 8)) := by omega
          rcases hdc with hd | ⟨hd, hd8⟩
          · go_wp2_with (go_at_call 20; refine Calls.mono (awake02 _ (HG.out.below ?_)) ?_; (focus ((repeat (first | (with_reducible refine below_set ?_ (by first | exact Nat.le_refl _ | omega) _ _) | with_reducible exact Below.refl _ _ | with_reducible refine belowA ?_ _ | with_reducible refine below_own' ?_ HB.out | with_reducible refine belowD ?_ | with_reducible refine belowN ?_ _)); done)); rintro e x4 ⟨rfl, hq4⟩)
            go_ret
            exact ⟨rfl, by (repeat (first | (with_reducible refine below_set ?_ (by first | exact Nat.le_refl _ | omega) _ _) | with_reducible exact Below.refl _ _ | with_reducible refine belowA ?_ _ | with_reducible refine below_own' ?_ hq4 | with_reducible refine below_own' ?_ HB.out | with_reducible refine belowD ?_ | with_reducible refine belowN ?_ _))⟩
          · go_wp2_with (go_at_call 20; refine Calls.mono (awake02 _ (HG.out.below ?_)) ?_; (focus ((repeat (first | (with_reducible refine below_set ?_ (by first | exact Nat.le_refl _ | omega) _ _) | with_reducible exact Below.refl _ _ | with_reducible refine belowA ?_ _ | with_reducible refine below_own' ?_ HB.out | with_reducible refine belowD ?_ | with_reducible refine belowN ?_ _)); done)); rintro e x4 ⟨rfl, hq4⟩)
            go_ret
            exact ⟨rfl, by (repeat (first | (with_reducible refine below_set ?_ (by first | exact Nat.le_refl _ | omega) _ _) | with_reducible exact Below.refl _ _ | with_reducible refine belowA ?_ _ | with_reducible refine below_own' ?_ hq4 | with_reducible refine below_own' ?_ HB.out | with_reducible refine belowD ?_ | with_reducible refine belowN ?_ _))⟩
end Go.Proofs.YtmepjbjmjbpchaaGreatDoor

