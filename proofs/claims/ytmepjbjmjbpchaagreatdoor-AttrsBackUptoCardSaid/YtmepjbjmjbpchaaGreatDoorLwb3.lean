/- AttrsBack: the law's walk where the list prints and the string is no list. -/
import Derived.Test.YtmepjbjmjbpchaaGreatDoorMg17
import Derived.Test.YtmepjbjmjbpchaaGreatDoorMg21
import Derived.Deep.RegionHeld3
namespace Go.Proofs.YtmepjbjmjbpchaaGreatDoor
open Go Go.RowKit Go.Sort
set_option linter.unusedVariables false
set_option linter.unusedSimpArgs false

set_option maxRecDepth 100000 in
set_option maxHeartbeats 32000000 in
theorem back_ok_AD (p : Option Addr) (c : Nat) (l : List Atr) (s vt : ByteArray) (ds : List Dat) (D : Dat) (w : World) (hg : GlobE w) (hs : AtrSl w p l) (hl : l.length ≤ 100000000000000) (hm : ∀ a ∈ l, rightA a = true)
    (HP : Hid (Calls Tryz.prog 30 #[.slice p l.length c] w fun e w' => e = .returned (.tuple #[.string vt, .int .i64 0]) ∧ Below w.heap.size w w'))
    (HPA : Hid (∀ W, Below w.heap.size w W → Calls Tryz.prog 25 #[.string vt] W (LsPost (l.map Atr.dat) W)))
    (HT : Hid (∀ W, Below w.heap.size w W → Calls Tryz.prog 25 #[.string s] W fun e w' => e = .returned (.tuple #[.slice none 0 0, .int .i64 70]) ∧ Below W.heap.size W w')) (HR : Hid (∀ W, Below w.heap.size w W → Calls Tryz.prog 22 #[.string ⟨#[97]⟩, .string s] W fun e w' => ∃ a : Atr, e = .returned (.tuple #[a.val, .int .i64 0]) ∧ a.Lies w' ∧ a.Fits ∧ a.dat = D ∧ Below W.heap.size W w')) (HRV : Hid (∀ (a : Atr) (W : World), a.Lies W → a.Fits → a.dat = D → Below w.heap.size w W → Calls Tryz.prog 32 #[a.val] W fun e w' => e = .returned (.tuple #[.string s, .int .i64 0]) ∧ Below W.heap.size W w')) :
    Calls Tryz.prog 10 #[.slice p l.length c, .string s] w fun e w' => e = .returned (.bool true) ∧ Below w.heap.size w w' := by
  have HG := Lib.hid hg
  have HS := Lib.hid hs
  have HM := Lib.hid hm
  clear hg hs hm
  go_enter Tryz.func10, Tryz.ntmps10
  go_wp2_with (first
    | (go_at_call 17; refine Calls.mono (requalL_same p sv2 c cv2 l.length n2 l lv2 _ (HS.out.below (by (repeat (first | (with_reducible refine below_set ?_ (by first | exact Nat.le_refl _ | omega) _ _) | with_reducible exact Below.refl _ _ | with_reducible refine belowA ?_ _ | with_reducible refine below_own' ?_ hb2 | with_reducible refine below_own' ?_ hb1 | with_reducible refine belowD ?_ | with_reducible refine belowN ?_ _)))) (HS2.out.below (by (repeat (first | (with_reducible refine below_set ?_ (by first | exact Nat.le_refl _ | omega) _ _) | with_reducible exact Below.refl _ _ | with_reducible refine belowA ?_ _ | with_reducible refine belowD ?_ | with_reducible refine belowN ?_ _)))) HD2.out.symm rfl HN2.out hl) ?_; rintro e w3 ⟨rfl, hb3⟩)
    | (go_at_call 25; refine Calls.mono (HPA.out _ ?_) ?_; (focus ((repeat (first | (with_reducible refine below_set ?_ (by first | exact Nat.le_refl _ | omega) _ _) | with_reducible exact Below.refl _ _ | with_reducible refine belowA ?_ _ | with_reducible refine below_own' ?_ hb1 | with_reducible refine belowD ?_ | with_reducible refine belowN ?_ _)); done)); rintro e w2 ⟨sv2, cv2, n2, lv2, rfl, hn2, hnc2, hs2, hd2, hb2⟩; have HN2 := Lib.hid hn2; have HS2 := Lib.hid hs2; have HD2 := Lib.hid hd2; clear hn2 hs2 hd2)
    | (go_at_call 30; refine HP.out.mono ?_; rintro e w1 ⟨rfl, hb1⟩))
  go_loopw [9] (fun i wr => ∃ j : Nat, i = .int .i64 j ∧ j ≤ l.length ∧ Below w.heap.size w wr) (fun i _ => l.length - (intOf i).toNat)
  case atStart => exact ⟨0, rfl, Nat.zero_le _, by (repeat (first | (with_reducible refine below_set ?_ (by first | exact Nat.le_refl _ | omega) _ _) | with_reducible exact Below.refl _ _ | with_reducible refine belowA ?_ _ | with_reducible refine below_own' ?_ hb3 | with_reducible refine below_own' ?_ hb2 | with_reducible refine below_own' ?_ hb1 | with_reducible refine belowD ?_ | with_reducible refine belowN ?_ _))⟩
  case round =>
    obtain ⟨j, rfl, hjl, hb⟩ := hrel
    have HB := Lib.hid hb
    clear hb
    by_cases hlt : j < l.length
    · have hsw := HS.out.below HB.out
      obtain ⟨g, off, rfl, hzg, hrow⟩ := hsw.row hlt
      obtain ⟨a0, ha0⟩ : ∃ a0, a0 = l[j] := ⟨_, rfl⟩
      have hcj := hrow _ hlt
      rw [← ha0] at hcj
      have hmem : a0 ∈ l := by rw [ha0]; exact List.getElem_mem _
      have HLI := Lib.hid (fun (W : World) (hb : Below wr.heap.size wr W) => (hsw.lies a0 hmem).below hb)
      have HFI := Lib.hid (hsw.fits a0 hmem)
      have HGE : Hid (∀ W, Below wr.heap.size wr W → GlobE W) := Lib.hid fun W h => HG.out.below (below_own' HB.out h)
      have HRA := Lib.hid (HM.out a0 hmem)
      obtain ⟨vs, hvs⟩ : ∃ vs : ByteArray, vs = ⟨(valD a0.dat).toArray⟩ := ⟨_, rfl⟩
      have HV := Lib.hid hvs
      have hcan : Can a0.name vs a0.dat := can_atr HRA.out HFI.out (by rw [hvs])
      have hnz : a0.name.size ≤ 60 := rightA_name HRA.out
      have hvz : vs.size ≤ 10002 := by rw [hvs]; exact valD_len HRA.out HFI.out
      have HVA : Hid (∀ W, Below wr.heap.size wr W → Calls Tryz.prog 32 #[a0.val] W fun e w' => e = .returned (.tuple #[.string vs, .int .i64 0]) ∧ Below W.heap.size W w') := Lib.hid fun W h => value_back a0.name vs a0.dat hcan a0 W (HLI.out W h) HFI.out rfl (HGE.out W h).glob.pow
      have HRE : Hid (∀ W, Below wr.heap.size wr W → Calls Tryz.prog 22 #[.string a0.name, .string vs] W fun e w' => ∃ a : Atr, e = .returned (.tuple #[a.val, .int .i64 0]) ∧ a.Lies w' ∧ a.Fits ∧ a.dat = a0.dat ∧ Below W.heap.size W w') := Lib.hid fun W h => read_yes a0.name vs a0.dat (by omega) (by omega) hcan W (HGE.out W h)
      have hj0 : (0 : Int) ≤ (j : Int) := by omega
      have hjn : (j : Int) < (l.length : Int) := by omega
      clear ha0 hrow hsw hmem hvs hcan hnz hvz
      obtain ⟨k0, k1, k2, k3, k4, k5⟩ := hcj
      go_wp2_with (first
        | (go_at_call 22; refine Calls.mono (HRE.out _ ?_) ?_; (focus ((repeat (first | (with_reducible refine below_set ?_ (by first | exact Nat.le_refl _ | omega) _ _) | with_reducible exact Below.refl _ _ | with_reducible refine belowA ?_ _ | with_reducible refine below_own' ?_ hq1 | with_reducible refine belowD ?_ | with_reducible refine belowN ?_ _)); done)); rintro e x2 ⟨b2, rfl, hl2, hf2, hd2, hq2⟩; have HL2 := Lib.hid hl2; have HF2 := Lib.hid hf2; have HD2 := Lib.hid hd2; clear hl2 hf2 hd2; have d1 := fun j => rdCell hq2 g hzx1 j; have hzx2 : g < x2.heap.size := Nat.lt_of_lt_of_le hzx1 hq2.size; have n0 := (d1 (off + j * 6)).trans m0; have n1 := (d1 (off + j * 6 + 1)).trans m1; have n2 := (d1 (off + j * 6 + 2)).trans m2; have n3 := (d1 (off + j * 6 + 3)).trans m3; have n4 := (d1 (off + j * 6 + 4)).trans m4; have n5 := (d1 (off + j * 6 + 5)).trans m5; clear d1; have d2 := fun o i => rdCell ((Below.refl x2.heap.size x2).alloc (Nat.le_refl _) o) g hzx2 i; have q0 := fun o => (d2 o (off + j * 6)).trans n0; have q1 := fun o => (d2 o (off + j * 6 + 1)).trans n1; have q2 := fun o => (d2 o (off + j * 6 + 2)).trans n2; have q3 := fun o => (d2 o (off + j * 6 + 3)).trans n3; have q4 := fun o => (d2 o (off + j * 6 + 4)).trans n4; have q5 := fun o => (d2 o (off + j * 6 + 5)).trans n5; clear d2)
        | (go_at_call 32; refine Calls.mono (HVA.out _ ?_) ?_; (focus ((repeat (first | (with_reducible refine below_set ?_ (by first | exact Nat.le_refl _ | omega) _ _) | with_reducible exact Below.refl _ _ | with_reducible refine belowA ?_ _ | with_reducible refine belowD ?_ | with_reducible refine belowN ?_ _)); done)); rintro e x1 ⟨rfl, hq1⟩; have d0 := fun j => rdCell hq1 g hzg j; have hzx1 : g < x1.heap.size := Nat.lt_of_lt_of_le hzg hq1.size; have m0 := (d0 (off + j * 6)).trans k0; have m1 := (d0 (off + j * 6 + 1)).trans k1; have m2 := (d0 (off + j * 6 + 2)).trans k2; have m3 := (d0 (off + j * 6 + 3)).trans k3; have m4 := (d0 (off + j * 6 + 4)).trans k4; have m5 := (d0 (off + j * 6 + 5)).trans k5; clear d0))
      have y0 : (x2.alloc (.cells #[.string b2.name, .int .i64 b2.kind, .int .i64 b2.num, .string b2.text, .slice b2.ia b2.ints.length b2.ic, .slice b2.ta b2.texts.length b2.tc] 27)).cell? ⟨x2.heap.size, 0, none⟩ = some (.string b2.name) := by simp
      have y1 : (x2.alloc (.cells #[.string b2.name, .int .i64 b2.kind, .int .i64 b2.num, .string b2.text, .slice b2.ia b2.ints.length b2.ic, .slice b2.ta b2.texts.length b2.tc] 27)).cell? ⟨x2.heap.size, 1, none⟩ = some (.int .i64 b2.kind) := by simp
      have y2 : (x2.alloc (.cells #[.string b2.name, .int .i64 b2.kind, .int .i64 b2.num, .string b2.text, .slice b2.ia b2.ints.length b2.ic, .slice b2.ta b2.texts.length b2.tc] 27)).cell? ⟨x2.heap.size, 2, none⟩ = some (.int .i64 b2.num) := by simp
      have y3 : (x2.alloc (.cells #[.string b2.name, .int .i64 b2.kind, .int .i64 b2.num, .string b2.text, .slice b2.ia b2.ints.length b2.ic, .slice b2.ta b2.texts.length b2.tc] 27)).cell? ⟨x2.heap.size, 3, none⟩ = some (.string b2.text) := by simp
      have y4 : (x2.alloc (.cells #[.string b2.name, .int .i64 b2.kind, .int .i64 b2.num, .string b2.text, .slice b2.ia b2.ints.length b2.ic, .slice b2.ta b2.texts.length b2.tc] 27)).cell? ⟨x2.heap.size, 4, none⟩ = some (.slice b2.ia b2.ints.length b2.ic) := by simp
      have y5 : (x2.alloc (.cells #[.string b2.name, .int .i64 b2.kind, .int .i64 b2.num, .string b2.text, .slice b2.ia b2.ints.length b2.ic, .slice b2.ta b2.texts.length b2.tc] 27)).cell? ⟨x2.heap.size, 5, none⟩ = some (.slice b2.ta b2.texts.length b2.tc) := by simp
      have z0 := q0 (.cells #[.string b2.name, .int .i64 b2.kind, .int .i64 b2.num, .string b2.text, .slice b2.ia b2.ints.length b2.ic, .slice b2.ta b2.texts.length b2.tc] 27)
      have z1 := q1 (.cells #[.string b2.name, .int .i64 b2.kind, .int .i64 b2.num, .string b2.text, .slice b2.ia b2.ints.length b2.ic, .slice b2.ta b2.texts.length b2.tc] 27)
      have z2 := q2 (.cells #[.string b2.name, .int .i64 b2.kind, .int .i64 b2.num, .string b2.text, .slice b2.ia b2.ints.length b2.ic, .slice b2.ta b2.texts.length b2.tc] 27)
      have z3 := q3 (.cells #[.string b2.name, .int .i64 b2.kind, .int .i64 b2.num, .string b2.text, .slice b2.ia b2.ints.length b2.ic, .slice b2.ta b2.texts.length b2.tc] 27)
      have z4 := q4 (.cells #[.string b2.name, .int .i64 b2.kind, .int .i64 b2.num, .string b2.text, .slice b2.ia b2.ints.length b2.ic, .slice b2.ta b2.texts.length b2.tc] 27)
      have z5 := q5 (.cells #[.string b2.name, .int .i64 b2.kind, .int .i64 b2.num, .string b2.text, .slice b2.ia b2.ints.length b2.ic, .slice b2.ta b2.texts.length b2.tc] 27)
      have hb0 : Below x2.heap.size x2 (x2.alloc (.cells #[.string b2.name, .int .i64 b2.kind, .int .i64 b2.num, .string b2.text, .slice b2.ia b2.ints.length b2.ic, .slice b2.ta b2.texts.length b2.tc] 27)) := belowA (Below.refl _ _) _
      have hzW0 : x2.heap.size < (x2.alloc (.cells #[.string b2.name, .int .i64 b2.kind, .int .i64 b2.num, .string b2.text, .slice b2.ia b2.ints.length b2.ic, .slice b2.ta b2.texts.length b2.tc] 27)).heap.size := by simp
      have hzgW : g < (x2.alloc (.cells #[.string b2.name, .int .i64 b2.kind, .int .i64 b2.num, .string b2.text, .slice b2.ia b2.ints.length b2.ic, .slice b2.ta b2.texts.length b2.tc] 27)).heap.size := by simp; omega
      clear q0 q1 q2 q3 q4 q5
      generalize x2.alloc (.cells #[.string b2.name, .int .i64 b2.kind, .int .i64 b2.num, .string b2.text, .slice b2.ia b2.ints.length b2.ic, .slice b2.ta b2.texts.length b2.tc] 27) = W0 at y0 y1 y2 y3 y4 y5 z0 z1 z2 z3 z4 z5 hb0 hzW0 hzgW ⊢
      go_region_held3 (fun w' => w'.cell? ⟨x2.heap.size, 0, none⟩ = some (.string b2.name) ∧ w'.cell? ⟨x2.heap.size, 1, none⟩ = some (.int .i64 b2.kind) ∧ w'.cell? ⟨x2.heap.size, 2, none⟩ = some (.int .i64 b2.num) ∧ w'.cell? ⟨x2.heap.size, 3, none⟩ = some (.string b2.text) ∧ w'.cell? ⟨x2.heap.size, 4, none⟩ = some (.slice b2.ia b2.ints.length b2.ic) ∧ w'.cell? ⟨x2.heap.size, 5, none⟩ = some (.slice b2.ta b2.texts.length b2.tc) ∧ w'.cell? ⟨g, off + j * 6, none⟩ = some (.string a0.name) ∧ w'.cell? ⟨g, off + j * 6 + 1, none⟩ = some (.int .i64 a0.kind) ∧ w'.cell? ⟨g, off + j * 6 + 2, none⟩ = some (.int .i64 a0.num) ∧ w'.cell? ⟨g, off + j * 6 + 3, none⟩ = some (.string a0.text) ∧ w'.cell? ⟨g, off + j * 6 + 4, none⟩ = some (.slice a0.ia a0.ints.length a0.ic) ∧ w'.cell? ⟨g, off + j * 6 + 5, none⟩ = some (.slice a0.ta a0.texts.length a0.tc)) (go_keep)
        ((first | (go_at_call 24; refine Calls.mono (requal_same b2 a0 _ (HL2.out.below ?_) (HLI.out _ ?_) HF2.out HFI.out HD2.out) ?_; (focus ((repeat (first | (with_reducible refine below_set ?_ (by first | exact Nat.le_refl _ | omega) _ _) | with_reducible exact Below.refl _ _ | with_reducible refine belowA ?_ _ | with_reducible refine below_own' ?_ hb0 | with_reducible refine belowD ?_ | with_reducible refine belowN ?_ _)); done)); (focus ((repeat (first | (with_reducible refine below_set ?_ (by first | exact Nat.le_refl _ | omega) _ _) | with_reducible exact Below.refl _ _ | with_reducible refine belowA ?_ _ | with_reducible refine below_own' ?_ hb0 | with_reducible refine below_own' ?_ hq2 | with_reducible refine below_own' ?_ hq1 | with_reducible refine belowD ?_ | with_reducible refine belowN ?_ _)); done)); rintro e x3 ⟨rfl, hq3⟩; have c3 := fun i => (rdCell hq3 x2.heap.size (by first | (simp; done) | (simp; omega)) i); have d3 := fun i => (rdCell hq3 g (by first | (simp; done) | (simp; omega)) i))))
      go_wp2_with fail
      go_roundw
      case rel => exact ⟨j + 1, by go_num, by omega, by (repeat (first | (with_reducible refine below_set ?_ (by first | exact Nat.le_refl _ | omega) _ _) | with_reducible exact Below.refl _ _ | with_reducible refine belowA ?_ _ | with_reducible refine below_own' ?_ hq3 | with_reducible refine below_own' ?_ hb0 | with_reducible refine below_own' ?_ hq2 | with_reducible refine below_own' ?_ hq1 | with_reducible refine below_own' ?_ HB.out | with_reducible refine belowD ?_ | with_reducible refine belowN ?_ _))⟩
      case measure => simp [intOf]; omega
    · have hd : ¬ ((j : Int) < (l.length : Int)) := by omega
      go_wp2_with (first
        | (go_at_call 25; refine Calls.mono (HT.out _ ?_) ?_; (focus ((repeat (first | (with_reducible refine below_set ?_ (by first | exact Nat.le_refl _ | omega) _ _) | with_reducible exact Below.refl _ _ | with_reducible refine belowA ?_ _ | with_reducible refine below_own' ?_ HB.out | with_reducible refine belowD ?_ | with_reducible refine belowN ?_ _)); done)); rintro e x5 ⟨rfl, hq5⟩)
        | (go_at_call 22; refine Calls.mono (HR.out _ ?_) ?_; (focus ((repeat (first | (with_reducible refine below_set ?_ (by first | exact Nat.le_refl _ | omega) _ _) | with_reducible exact Below.refl _ _ | with_reducible refine belowA ?_ _ | with_reducible refine below_own' ?_ hq5 | with_reducible refine below_own' ?_ HB.out | with_reducible refine belowD ?_ | with_reducible refine belowN ?_ _)); done)); rintro e x7 ⟨b7, rfl, hl7, hf7, hd7, hq7⟩; have HL7 := Lib.hid hl7; have HF7 := Lib.hid hf7; have HD7 := Lib.hid hd7; clear hl7 hf7 hd7)
        | (go_at_call 32; refine Calls.mono (HRV.out b7 _ (HL7.out.below (by (repeat (first | (with_reducible refine below_set ?_ (by first | exact Nat.le_refl _ | omega) _ _) | with_reducible exact Below.refl _ _ | with_reducible refine belowA ?_ _ | with_reducible refine belowD ?_ | with_reducible refine belowN ?_ _)))) HF7.out HD7.out (by (repeat (first | (with_reducible refine below_set ?_ (by first | exact Nat.le_refl _ | omega) _ _) | with_reducible exact Below.refl _ _ | with_reducible refine belowA ?_ _ | with_reducible refine below_own' ?_ hq7 | with_reducible refine below_own' ?_ hq5 | with_reducible refine below_own' ?_ HB.out | with_reducible refine belowD ?_ | with_reducible refine belowN ?_ _)))) ?_; rintro e x8 ⟨rfl, hq8⟩)
        | (go_at_call 20; refine Calls.mono (awake02 _ (HG.out.glob.below ?_)) ?_; (focus ((repeat (first | (with_reducible refine below_set ?_ (by first | exact Nat.le_refl _ | omega) _ _) | with_reducible exact Below.refl _ _ | with_reducible refine belowA ?_ _ | with_reducible refine below_own' ?_ hq8 | with_reducible refine below_own' ?_ hq7 | with_reducible refine below_own' ?_ hq5 | with_reducible refine below_own' ?_ HB.out | with_reducible refine belowD ?_ | with_reducible refine belowN ?_ _)); done)); rintro e x9 ⟨rfl, hq9⟩))
      go_ret
      exact ⟨rfl, by (repeat (first | (with_reducible refine below_set ?_ (by first | exact Nat.le_refl _ | omega) _ _) | with_reducible exact Below.refl _ _ | with_reducible refine belowA ?_ _ | with_reducible refine below_own' ?_ hq9 | with_reducible refine below_own' ?_ hq8 | with_reducible refine below_own' ?_ hq7 | with_reducible refine below_own' ?_ hq5 | with_reducible refine below_own' ?_ HB.out | with_reducible refine belowD ?_ | with_reducible refine belowN ?_ _))⟩
set_option maxRecDepth 100000 in
set_option maxHeartbeats 32000000 in
theorem back_ok_AC (p : Option Addr) (c : Nat) (l : List Atr) (s vt : ByteArray) (ds : List Dat) (D : Dat) (w : World) (hg : GlobE w) (hs : AtrSl w p l) (hl : l.length ≤ 100000000000000) (hm : ∀ a ∈ l, rightA a = true)
    (HP : Hid (Calls Tryz.prog 30 #[.slice p l.length c] w fun e w' => e = .returned (.tuple #[.string vt, .int .i64 0]) ∧ Below w.heap.size w w'))
    (HPA : Hid (∀ W, Below w.heap.size w W → Calls Tryz.prog 25 #[.string vt] W (LsPost (l.map Atr.dat) W)))
    (HT : Hid (∀ W, Below w.heap.size w W → Calls Tryz.prog 25 #[.string s] W fun e w' => e = .returned (.tuple #[.slice none 0 0, .int .i64 70]) ∧ Below W.heap.size W w')) (HR : Hid (∀ W, Below w.heap.size w W → Calls Tryz.prog 22 #[.string ⟨#[97]⟩, .string s] W fun e w' => e = .returned (.tuple #[zAt, .int .i64 70]) ∧ Below W.heap.size W w')) :
    Calls Tryz.prog 10 #[.slice p l.length c, .string s] w fun e w' => e = .returned (.bool true) ∧ Below w.heap.size w w' := by
  have HG := Lib.hid hg
  have HS := Lib.hid hs
  have HM := Lib.hid hm
  clear hg hs hm
  go_enter Tryz.func10, Tryz.ntmps10
  go_wp2_with (first
    | (go_at_call 17; refine Calls.mono (requalL_same p sv2 c cv2 l.length n2 l lv2 _ (HS.out.below (by (repeat (first | (with_reducible refine below_set ?_ (by first | exact Nat.le_refl _ | omega) _ _) | with_reducible exact Below.refl _ _ | with_reducible refine belowA ?_ _ | with_reducible refine below_own' ?_ hb2 | with_reducible refine below_own' ?_ hb1 | with_reducible refine belowD ?_ | with_reducible refine belowN ?_ _)))) (HS2.out.below (by (repeat (first | (with_reducible refine below_set ?_ (by first | exact Nat.le_refl _ | omega) _ _) | with_reducible exact Below.refl _ _ | with_reducible refine belowA ?_ _ | with_reducible refine belowD ?_ | with_reducible refine belowN ?_ _)))) HD2.out.symm rfl HN2.out hl) ?_; rintro e w3 ⟨rfl, hb3⟩)
    | (go_at_call 25; refine Calls.mono (HPA.out _ ?_) ?_; (focus ((repeat (first | (with_reducible refine below_set ?_ (by first | exact Nat.le_refl _ | omega) _ _) | with_reducible exact Below.refl _ _ | with_reducible refine belowA ?_ _ | with_reducible refine below_own' ?_ hb1 | with_reducible refine belowD ?_ | with_reducible refine belowN ?_ _)); done)); rintro e w2 ⟨sv2, cv2, n2, lv2, rfl, hn2, hnc2, hs2, hd2, hb2⟩; have HN2 := Lib.hid hn2; have HS2 := Lib.hid hs2; have HD2 := Lib.hid hd2; clear hn2 hs2 hd2)
    | (go_at_call 30; refine HP.out.mono ?_; rintro e w1 ⟨rfl, hb1⟩))
  go_loopw [9] (fun i wr => ∃ j : Nat, i = .int .i64 j ∧ j ≤ l.length ∧ Below w.heap.size w wr) (fun i _ => l.length - (intOf i).toNat)
  case atStart => exact ⟨0, rfl, Nat.zero_le _, by (repeat (first | (with_reducible refine below_set ?_ (by first | exact Nat.le_refl _ | omega) _ _) | with_reducible exact Below.refl _ _ | with_reducible refine belowA ?_ _ | with_reducible refine below_own' ?_ hb3 | with_reducible refine below_own' ?_ hb2 | with_reducible refine below_own' ?_ hb1 | with_reducible refine belowD ?_ | with_reducible refine belowN ?_ _))⟩
  case round =>
    obtain ⟨j, rfl, hjl, hb⟩ := hrel
    have HB := Lib.hid hb
    clear hb
    by_cases hlt : j < l.length
    · have hsw := HS.out.below HB.out
      obtain ⟨g, off, rfl, hzg, hrow⟩ := hsw.row hlt
      obtain ⟨a0, ha0⟩ : ∃ a0, a0 = l[j] := ⟨_, rfl⟩
      have hcj := hrow _ hlt
      rw [← ha0] at hcj
      have hmem : a0 ∈ l := by rw [ha0]; exact List.getElem_mem _
      have HLI := Lib.hid (fun (W : World) (hb : Below wr.heap.size wr W) => (hsw.lies a0 hmem).below hb)
      have HFI := Lib.hid (hsw.fits a0 hmem)
      have HGE : Hid (∀ W, Below wr.heap.size wr W → GlobE W) := Lib.hid fun W h => HG.out.below (below_own' HB.out h)
      have HRA := Lib.hid (HM.out a0 hmem)
      obtain ⟨vs, hvs⟩ : ∃ vs : ByteArray, vs = ⟨(valD a0.dat).toArray⟩ := ⟨_, rfl⟩
      have HV := Lib.hid hvs
      have hcan : Can a0.name vs a0.dat := can_atr HRA.out HFI.out (by rw [hvs])
      have hnz : a0.name.size ≤ 60 := rightA_name HRA.out
      have hvz : vs.size ≤ 10002 := by rw [hvs]; exact valD_len HRA.out HFI.out
      have HVA : Hid (∀ W, Below wr.heap.size wr W → Calls Tryz.prog 32 #[a0.val] W fun e w' => e = .returned (.tuple #[.string vs, .int .i64 0]) ∧ Below W.heap.size W w') := Lib.hid fun W h => value_back a0.name vs a0.dat hcan a0 W (HLI.out W h) HFI.out rfl (HGE.out W h).glob.pow
      have HRE : Hid (∀ W, Below wr.heap.size wr W → Calls Tryz.prog 22 #[.string a0.name, .string vs] W fun e w' => ∃ a : Atr, e = .returned (.tuple #[a.val, .int .i64 0]) ∧ a.Lies w' ∧ a.Fits ∧ a.dat = a0.dat ∧ Below W.heap.size W w') := Lib.hid fun W h => read_yes a0.name vs a0.dat (by omega) (by omega) hcan W (HGE.out W h)
      have hj0 : (0 : Int) ≤ (j : Int) := by omega
      have hjn : (j : Int) < (l.length : Int) := by omega
      clear ha0 hrow hsw hmem hvs hcan hnz hvz
      obtain ⟨k0, k1, k2, k3, k4, k5⟩ := hcj
      go_wp2_with (first
        | (go_at_call 22; refine Calls.mono (HRE.out _ ?_) ?_; (focus ((repeat (first | (with_reducible refine below_set ?_ (by first | exact Nat.le_refl _ | omega) _ _) | with_reducible exact Below.refl _ _ | with_reducible refine belowA ?_ _ | with_reducible refine below_own' ?_ hq1 | with_reducible refine belowD ?_ | with_reducible refine belowN ?_ _)); done)); rintro e x2 ⟨b2, rfl, hl2, hf2, hd2, hq2⟩; have HL2 := Lib.hid hl2; have HF2 := Lib.hid hf2; have HD2 := Lib.hid hd2; clear hl2 hf2 hd2; have d1 := fun j => rdCell hq2 g hzx1 j; have hzx2 : g < x2.heap.size := Nat.lt_of_lt_of_le hzx1 hq2.size; have n0 := (d1 (off + j * 6)).trans m0; have n1 := (d1 (off + j * 6 + 1)).trans m1; have n2 := (d1 (off + j * 6 + 2)).trans m2; have n3 := (d1 (off + j * 6 + 3)).trans m3; have n4 := (d1 (off + j * 6 + 4)).trans m4; have n5 := (d1 (off + j * 6 + 5)).trans m5; clear d1; have d2 := fun o i => rdCell ((Below.refl x2.heap.size x2).alloc (Nat.le_refl _) o) g hzx2 i; have q0 := fun o => (d2 o (off + j * 6)).trans n0; have q1 := fun o => (d2 o (off + j * 6 + 1)).trans n1; have q2 := fun o => (d2 o (off + j * 6 + 2)).trans n2; have q3 := fun o => (d2 o (off + j * 6 + 3)).trans n3; have q4 := fun o => (d2 o (off + j * 6 + 4)).trans n4; have q5 := fun o => (d2 o (off + j * 6 + 5)).trans n5; clear d2)
        | (go_at_call 32; refine Calls.mono (HVA.out _ ?_) ?_; (focus ((repeat (first | (with_reducible refine below_set ?_ (by first | exact Nat.le_refl _ | omega) _ _) | with_reducible exact Below.refl _ _ | with_reducible refine belowA ?_ _ | with_reducible refine belowD ?_ | with_reducible refine belowN ?_ _)); done)); rintro e x1 ⟨rfl, hq1⟩; have d0 := fun j => rdCell hq1 g hzg j; have hzx1 : g < x1.heap.size := Nat.lt_of_lt_of_le hzg hq1.size; have m0 := (d0 (off + j * 6)).trans k0; have m1 := (d0 (off + j * 6 + 1)).trans k1; have m2 := (d0 (off + j * 6 + 2)).trans k2; have m3 := (d0 (off + j * 6 + 3)).trans k3; have m4 := (d0 (off + j * 6 + 4)).trans k4; have m5 := (d0 (off + j * 6 + 5)).trans k5; clear d0))
      have y0 : (x2.alloc (.cells #[.string b2.name, .int .i64 b2.kind, .int .i64 b2.num, .string b2.text, .slice b2.ia b2.ints.length b2.ic, .slice b2.ta b2.texts.length b2.tc] 27)).cell? ⟨x2.heap.size, 0, none⟩ = some (.string b2.name) := by simp
      have y1 : (x2.alloc (.cells #[.string b2.name, .int .i64 b2.kind, .int .i64 b2.num, .string b2.text, .slice b2.ia b2.ints.length b2.ic, .slice b2.ta b2.texts.length b2.tc] 27)).cell? ⟨x2.heap.size, 1, none⟩ = some (.int .i64 b2.kind) := by simp
      have y2 : (x2.alloc (.cells #[.string b2.name, .int .i64 b2.kind, .int .i64 b2.num, .string b2.text, .slice b2.ia b2.ints.length b2.ic, .slice b2.ta b2.texts.length b2.tc] 27)).cell? ⟨x2.heap.size, 2, none⟩ = some (.int .i64 b2.num) := by simp
      have y3 : (x2.alloc (.cells #[.string b2.name, .int .i64 b2.kind, .int .i64 b2.num, .string b2.text, .slice b2.ia b2.ints.length b2.ic, .slice b2.ta b2.texts.length b2.tc] 27)).cell? ⟨x2.heap.size, 3, none⟩ = some (.string b2.text) := by simp
      have y4 : (x2.alloc (.cells #[.string b2.name, .int .i64 b2.kind, .int .i64 b2.num, .string b2.text, .slice b2.ia b2.ints.length b2.ic, .slice b2.ta b2.texts.length b2.tc] 27)).cell? ⟨x2.heap.size, 4, none⟩ = some (.slice b2.ia b2.ints.length b2.ic) := by simp
      have y5 : (x2.alloc (.cells #[.string b2.name, .int .i64 b2.kind, .int .i64 b2.num, .string b2.text, .slice b2.ia b2.ints.length b2.ic, .slice b2.ta b2.texts.length b2.tc] 27)).cell? ⟨x2.heap.size, 5, none⟩ = some (.slice b2.ta b2.texts.length b2.tc) := by simp
      have z0 := q0 (.cells #[.string b2.name, .int .i64 b2.kind, .int .i64 b2.num, .string b2.text, .slice b2.ia b2.ints.length b2.ic, .slice b2.ta b2.texts.length b2.tc] 27)
      have z1 := q1 (.cells #[.string b2.name, .int .i64 b2.kind, .int .i64 b2.num, .string b2.text, .slice b2.ia b2.ints.length b2.ic, .slice b2.ta b2.texts.length b2.tc] 27)
      have z2 := q2 (.cells #[.string b2.name, .int .i64 b2.kind, .int .i64 b2.num, .string b2.text, .slice b2.ia b2.ints.length b2.ic, .slice b2.ta b2.texts.length b2.tc] 27)
      have z3 := q3 (.cells #[.string b2.name, .int .i64 b2.kind, .int .i64 b2.num, .string b2.text, .slice b2.ia b2.ints.length b2.ic, .slice b2.ta b2.texts.length b2.tc] 27)
      have z4 := q4 (.cells #[.string b2.name, .int .i64 b2.kind, .int .i64 b2.num, .string b2.text, .slice b2.ia b2.ints.length b2.ic, .slice b2.ta b2.texts.length b2.tc] 27)
      have z5 := q5 (.cells #[.string b2.name, .int .i64 b2.kind, .int .i64 b2.num, .string b2.text, .slice b2.ia b2.ints.length b2.ic, .slice b2.ta b2.texts.length b2.tc] 27)
      have hb0 : Below x2.heap.size x2 (x2.alloc (.cells #[.string b2.name, .int .i64 b2.kind, .int .i64 b2.num, .string b2.text, .slice b2.ia b2.ints.length b2.ic, .slice b2.ta b2.texts.length b2.tc] 27)) := belowA (Below.refl _ _) _
      have hzW0 : x2.heap.size < (x2.alloc (.cells #[.string b2.name, .int .i64 b2.kind, .int .i64 b2.num, .string b2.text, .slice b2.ia b2.ints.length b2.ic, .slice b2.ta b2.texts.length b2.tc] 27)).heap.size := by simp
      have hzgW : g < (x2.alloc (.cells #[.string b2.name, .int .i64 b2.kind, .int .i64 b2.num, .string b2.text, .slice b2.ia b2.ints.length b2.ic, .slice b2.ta b2.texts.length b2.tc] 27)).heap.size := by simp; omega
      clear q0 q1 q2 q3 q4 q5
      generalize x2.alloc (.cells #[.string b2.name, .int .i64 b2.kind, .int .i64 b2.num, .string b2.text, .slice b2.ia b2.ints.length b2.ic, .slice b2.ta b2.texts.length b2.tc] 27) = W0 at y0 y1 y2 y3 y4 y5 z0 z1 z2 z3 z4 z5 hb0 hzW0 hzgW ⊢
      go_region_held3 (fun w' => w'.cell? ⟨x2.heap.size, 0, none⟩ = some (.string b2.name) ∧ w'.cell? ⟨x2.heap.size, 1, none⟩ = some (.int .i64 b2.kind) ∧ w'.cell? ⟨x2.heap.size, 2, none⟩ = some (.int .i64 b2.num) ∧ w'.cell? ⟨x2.heap.size, 3, none⟩ = some (.string b2.text) ∧ w'.cell? ⟨x2.heap.size, 4, none⟩ = some (.slice b2.ia b2.ints.length b2.ic) ∧ w'.cell? ⟨x2.heap.size, 5, none⟩ = some (.slice b2.ta b2.texts.length b2.tc) ∧ w'.cell? ⟨g, off + j * 6, none⟩ = some (.string a0.name) ∧ w'.cell? ⟨g, off + j * 6 + 1, none⟩ = some (.int .i64 a0.kind) ∧ w'.cell? ⟨g, off + j * 6 + 2, none⟩ = some (.int .i64 a0.num) ∧ w'.cell? ⟨g, off + j * 6 + 3, none⟩ = some (.string a0.text) ∧ w'.cell? ⟨g, off + j * 6 + 4, none⟩ = some (.slice a0.ia a0.ints.length a0.ic) ∧ w'.cell? ⟨g, off + j * 6 + 5, none⟩ = some (.slice a0.ta a0.texts.length a0.tc)) (go_keep)
        ((first | (go_at_call 24; refine Calls.mono (requal_same b2 a0 _ (HL2.out.below ?_) (HLI.out _ ?_) HF2.out HFI.out HD2.out) ?_; (focus ((repeat (first | (with_reducible refine below_set ?_ (by first | exact Nat.le_refl _ | omega) _ _) | with_reducible exact Below.refl _ _ | with_reducible refine belowA ?_ _ | with_reducible refine below_own' ?_ hb0 | with_reducible refine belowD ?_ | with_reducible refine belowN ?_ _)); done)); (focus ((repeat (first | (with_reducible refine below_set ?_ (by first | exact Nat.le_refl _ | omega) _ _) | with_reducible exact Below.refl _ _ | with_reducible refine belowA ?_ _ | with_reducible refine below_own' ?_ hb0 | with_reducible refine below_own' ?_ hq2 | with_reducible refine below_own' ?_ hq1 | with_reducible refine belowD ?_ | with_reducible refine belowN ?_ _)); done)); rintro e x3 ⟨rfl, hq3⟩; have c3 := fun i => (rdCell hq3 x2.heap.size (by first | (simp; done) | (simp; omega)) i); have d3 := fun i => (rdCell hq3 g (by first | (simp; done) | (simp; omega)) i))))
      go_wp2_with fail
      go_roundw
      case rel => exact ⟨j + 1, by go_num, by omega, by (repeat (first | (with_reducible refine below_set ?_ (by first | exact Nat.le_refl _ | omega) _ _) | with_reducible exact Below.refl _ _ | with_reducible refine belowA ?_ _ | with_reducible refine below_own' ?_ hq3 | with_reducible refine below_own' ?_ hb0 | with_reducible refine below_own' ?_ hq2 | with_reducible refine below_own' ?_ hq1 | with_reducible refine below_own' ?_ HB.out | with_reducible refine belowD ?_ | with_reducible refine belowN ?_ _))⟩
      case measure => simp [intOf]; omega
    · have hd : ¬ ((j : Int) < (l.length : Int)) := by omega
      go_wp2_with (first
        | (go_at_call 25; refine Calls.mono (HT.out _ ?_) ?_; (focus ((repeat (first | (with_reducible refine below_set ?_ (by first | exact Nat.le_refl _ | omega) _ _) | with_reducible exact Below.refl _ _ | with_reducible refine belowA ?_ _ | with_reducible refine below_own' ?_ HB.out | with_reducible refine belowD ?_ | with_reducible refine belowN ?_ _)); done)); rintro e x5 ⟨rfl, hq5⟩)
        | (go_at_call 22; refine Calls.mono (HR.out _ ?_) ?_; (focus ((repeat (first | (with_reducible refine below_set ?_ (by first | exact Nat.le_refl _ | omega) _ _) | with_reducible exact Below.refl _ _ | with_reducible refine belowA ?_ _ | with_reducible refine below_own' ?_ hq5 | with_reducible refine below_own' ?_ HB.out | with_reducible refine belowD ?_ | with_reducible refine belowN ?_ _)); done)); rintro e x7 ⟨rfl, hq7⟩; simp only [zAt])
        | (go_at_call 20; refine Calls.mono (awake02 _ (HG.out.glob.below ?_)) ?_; (focus ((repeat (first | (with_reducible refine below_set ?_ (by first | exact Nat.le_refl _ | omega) _ _) | with_reducible exact Below.refl _ _ | with_reducible refine belowA ?_ _ | with_reducible refine below_own' ?_ hq7 | with_reducible refine below_own' ?_ hq5 | with_reducible refine below_own' ?_ HB.out | with_reducible refine belowD ?_ | with_reducible refine belowN ?_ _)); done)); rintro e x9 ⟨rfl, hq9⟩))
      go_ret
      exact ⟨rfl, by (repeat (first | (with_reducible refine below_set ?_ (by first | exact Nat.le_refl _ | omega) _ _) | with_reducible exact Below.refl _ _ | with_reducible refine belowA ?_ _ | with_reducible refine below_own' ?_ hq9 | with_reducible refine below_own' ?_ hq7 | with_reducible refine below_own' ?_ hq5 | with_reducible refine below_own' ?_ HB.out | with_reducible refine belowD ?_ | with_reducible refine belowN ?_ _))⟩

end Go.Proofs.YtmepjbjmjbpchaaGreatDoor

