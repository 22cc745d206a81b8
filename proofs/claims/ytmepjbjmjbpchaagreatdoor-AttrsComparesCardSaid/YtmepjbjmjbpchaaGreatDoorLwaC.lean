/- AttrsCompares: the law's walk. -/
import Derived.Test.YtmepjbjmjbpchaaGreatDoorMg25
import Derived.Test.YtmepjbjmjbpchaaGreatDoorMg27
namespace Go.Proofs.YtmepjbjmjbpchaaGreatDoor
open Go Go.RowKit Go.Sort
set_option linter.unusedVariables false
set_option linter.unusedSimpArgs false

theorem nmCmp_flip (s t : ByteArray) : nmCmp t s = -nmCmp s t := by
  unfold nmCmp
  cases h1 : nmLt s t with
  | true => rw [nm_asymm h1]; simp
  | false => cases h2 : nmLt t s <;> simp
theorem kCmp_flip (a b : Int) : kCmp b a = -kCmp a b := by
  unfold kCmp
  split <;> split <;> first | omega | simp
theorem orI_neg (x y z : Int) : orI (-x) (-y) (-z) = -orI x y z := by
  unfold orI
  by_cases h1 : x = 0
  · by_cases h2 : y = 0 <;> simp [h1, h2]
  · simp [h1]
theorem cmpA_flip (x y : Atr) : cmpA y x = -cmpA x y := by
  unfold cmpA
  rw [nmCmp_flip x.name y.name, kCmp_flip x.kind y.kind, nmCmp_flip (valB x) (valB y), orI_neg]
theorem nmCmp_three (s t : ByteArray) : nmCmp s t = -1 ∨ nmCmp s t = 0 ∨ nmCmp s t = 1 := by
  unfold nmCmp; split
  · exact .inl rfl
  · split
    · exact .inr (.inr rfl)
    · exact .inr (.inl rfl)
theorem kCmp_three (s t : Int) : kCmp s t = -1 ∨ kCmp s t = 0 ∨ kCmp s t = 1 := by
  unfold kCmp; split
  · exact .inl rfl
  · split
    · exact .inr (.inr rfl)
    · exact .inr (.inl rfl)
theorem cmpA_three (x y : Atr) : cmpA x y = -1 ∨ cmpA x y = 0 ∨ cmpA x y = 1 := by
  unfold cmpA orI
  split
  · exact nmCmp_three _ _
  · split
    · exact kCmp_three _ _
    · exact nmCmp_three _ _
theorem cmpA_same {x y : Atr} (hx : rightA x = true) (hy : rightA y = true) : sameA x y = decide (cmpA x y = 0) := by
  rw [sameA_dat, decide_eq_decide]
  constructor
  · intro h
    have h1 : x.name = y.name := congrArg Dat.name h
    have h2 : x.kind = y.kind := congrArg Dat.kind h
    unfold cmpA valB
    rw [h, h1, h2, nmCmp_self, nmCmp_self]
    unfold orI kCmp
    simp
  · intro h
    by_cases h1 : x.name = y.name
    · by_cases h2 : x.kind = y.kind
      · have h3 : valB x = valB y := by
          by_cases h4 : valB x = valB y
          · exact h4
          · exfalso
            unfold cmpA at h
            rw [h1, h2, nmCmp_self] at h
            have h5 := nmCmp_ne h4
            unfold orI kCmp at h
            simp at h
            exact h5 h
        refine valD_inj (by rw [← rightA_D]; exact hx) (by rw [← rightA_D]; exact hy) h1 h2 ?_
        have := congrArg (fun b : ByteArray => b.data.toList) h3
        simpa [valB] using this
      · exfalso
        rw [cmpA_kind h1 h2] at h
        unfold kCmp at h
        split at h
        · cases h
        · split at h
          · cases h
          · omega
    · exfalso
      rw [cmpA_name h1] at h
      exact nmCmp_ne h1 h
set_option maxRecDepth 100000 in
set_option maxHeartbeats 16000000 in
theorem compares_law (x y : Atr) (w : World) (hg : Glob w) (hx : x.Lies w) (hy : y.Lies w) (fx : x.Fits) (fy : y.Fits) :
    Calls Tryz.prog 7 #[x.val, y.val] w fun e w' => e = .returned (.bool true) ∧ Below w.heap.size w w' := by
  have HG := Lib.hid hg
  obtain ⟨rx, hrx⟩ : ∃ r, r = rightA x := ⟨_, rfl⟩
  obtain ⟨ry, hry⟩ : ∃ r, r = rightA y := ⟨_, rfl⟩
  obtain ⟨z, hz⟩ : ∃ z, z = cmpA x y := ⟨_, rfl⟩
  obtain ⟨b, hb⟩ : ∃ b, b = sameA x y := ⟨_, rfl⟩
  have he : ∀ W, Below w.heap.size w W → Calls Tryz.prog 27 #[x.val, y.val] W fun e w' => e = .returned (.tuple #[.bool ((rx && ry) && decide (z = 0)), .int .i64 (if rx && ry then 0 else 20)]) ∧ Below W.heap.size W w' := fun W h => by
    have := equalA_any x y W (hx.below h) (hy.below h) fx fy (pow_below hg.pow h)
    unfold EqPost at this
    rw [← hrx, ← hry, ← hz] at this
    exact this
  have hc1 : ∀ W, Below w.heap.size w W → Calls Tryz.prog 28 #[x.val, y.val] W fun e w' => e = .returned (.tuple #[.int .i64 (if rx && ry then z else 0), .int .i64 (if rx && ry then 0 else 20)]) ∧ Below W.heap.size W w' := fun W h => by
    have := cmpA_any x y W (hx.below h) (hy.below h) fx fy (pow_below hg.pow h)
    unfold CmpPost at this
    rw [← hrx, ← hry, ← hz] at this
    exact this
  have hc2 : ∀ W, Below w.heap.size w W → Calls Tryz.prog 28 #[y.val, x.val] W fun e w' => e = .returned (.tuple #[.int .i64 (if ry && rx then -z else 0), .int .i64 (if ry && rx then 0 else 20)]) ∧ Below W.heap.size W w' := fun W h => by
    have := cmpA_any y x W (hy.below h) (hx.below h) fy fx (pow_below hg.pow h)
    unfold CmpPost at this
    rw [← hrx, ← hry, cmpA_flip x y, ← hz] at this
    exact this
  have hr1 : ∀ W, Below w.heap.size w W → Calls Tryz.prog 15 #[x.val] W fun e w' => e = .returned (.bool rx) ∧ Below W.heap.size W w' := fun W h => by rw [hrx]; exact rRight_any x W (hx.below h) fx
  have hr2 : ∀ W, Below w.heap.size w W → Calls Tryz.prog 15 #[y.val] W fun e w' => e = .returned (.bool ry) ∧ Below W.heap.size W w' := fun W h => by rw [hry]; exact rRight_any y W (hy.below h) fy
  have hq : ∀ W, Below w.heap.size w W → Calls Tryz.prog 24 #[x.val, y.val] W fun e w' => e = .returned (.bool b) ∧ Below W.heap.size W w' := fun W h => by rw [hb]; exact requal_any x y W (hx.below h) (hy.below h) fx fy
  have hcq : rx = true → ry = true → ∀ W, Below w.heap.size w W → Calls Tryz.prog 29 #[x.val, y.val] W fun e w' => e = .returned (.int .i64 z) ∧ Below W.heap.size W w' := fun h1 h2 W h => by rw [hz]; exact rcmpA_any x y W (hx.below h) (hy.below h) fx fy (hrx ▸ h1) (hry ▸ h2)
  have hbz : rx = true → ry = true → b = decide (z = 0) := fun h1 h2 => by rw [hb, hz]; exact cmpA_same (hrx ▸ h1) (hry ▸ h2)
  have hz3 : z = -1 ∨ z = 0 ∨ z = 1 := by rw [hz]; exact cmpA_three x y
  clear hrx hry hz hb hg hx hy
  cases rx with
  | false =>
    simp only [Bool.false_and, Bool.and_false, Bool.false_eq_true, if_false] at he hc1 hc2
    have HE := Lib.hid he
    have HC1 := Lib.hid hc1
    have HC2 := Lib.hid hc2
    have HR1 := Lib.hid hr1
    clear he hc1 hc2 hr1 hr2 hq hcq hbz hz3
    go_enter Tryz.func7, Tryz.ntmps7
    go_wp2_with (first
      | (go_at_call 20; refine Calls.mono (awake02 _ (HG.out.below (by (repeat (first | (with_reducible refine below_set ?_ (by first | exact Nat.le_refl _ | omega) _ _) | with_reducible exact Below.refl _ _ | with_reducible refine belowA ?_ _ | with_reducible refine below_own' ?_ hb4 | with_reducible refine below_own' ?_ hb3 | with_reducible refine below_own' ?_ hb2 | with_reducible refine below_own' ?_ hb1 | with_reducible refine belowD ?_ | with_reducible refine belowN ?_ _))))) ?_; rintro e w5 ⟨rfl, hb5⟩)
      | (go_at_call 15; refine Calls.mono (HR1.out _ (by (repeat (first | (with_reducible refine below_set ?_ (by first | exact Nat.le_refl _ | omega) _ _) | with_reducible exact Below.refl _ _ | with_reducible refine belowA ?_ _ | with_reducible refine below_own' ?_ hb3 | with_reducible refine below_own' ?_ hb2 | with_reducible refine below_own' ?_ hb1 | with_reducible refine belowD ?_ | with_reducible refine belowN ?_ _)))) ?_; rintro e w4 ⟨rfl, hb4⟩; have c4 := fun j => (rdCell hb4 w.heap.size (by omega) j).trans (c3 j); have d4 := fun j => (rdCell hb4 (w.heap.size + 1) (by omega) j).trans (d3 j); have hz4 : w.heap.size + 1 < w4.heap.size := Nat.lt_of_lt_of_le hz3 hb4.size; clear c3 d3; have tok4 : True := trivial)
      | (have tok := tok2; clear tok tok2; go_at_call 28; refine Calls.mono (HC2.out _ (by (repeat (first | (with_reducible refine below_set ?_ (by first | exact Nat.le_refl _ | omega) _ _) | with_reducible exact Below.refl _ _ | with_reducible refine belowA ?_ _ | with_reducible refine below_own' ?_ hb2 | with_reducible refine below_own' ?_ hb1 | with_reducible refine belowD ?_ | with_reducible refine belowN ?_ _)))) ?_; rintro e w3 ⟨rfl, hb3⟩; have c3 := fun j => (rdCell hb3 w.heap.size (by omega) j).trans (c2 j); have d3 := fun j => (rdCell hb3 (w.heap.size + 1) (by omega) j).trans (d2 j); have hz3 : w.heap.size + 1 < w3.heap.size := Nat.lt_of_lt_of_le hz2 hb3.size; clear c2 d2)
      | (go_at_call 28; refine Calls.mono (HC1.out _ (by (repeat (first | (with_reducible refine below_set ?_ (by first | exact Nat.le_refl _ | omega) _ _) | with_reducible exact Below.refl _ _ | with_reducible refine belowA ?_ _ | with_reducible refine below_own' ?_ hb1 | with_reducible refine belowD ?_ | with_reducible refine belowN ?_ _)))) ?_; rintro e w2 ⟨rfl, hb2⟩; have c2 := fun j => (rdCell hb2 w.heap.size (by omega) j).trans (c1 j); have d2 := fun j => (rdCell hb2 (w.heap.size + 1) (by omega) j).trans (d1 j); have hz2 : w.heap.size + 1 < w2.heap.size := Nat.lt_of_lt_of_le hz1 hb2.size; clear c1 d1; have tok2 : True := trivial)
      | (go_at_call 27; refine Calls.mono (HE.out _ (by (repeat (first | (with_reducible refine below_set ?_ (by first | exact Nat.le_refl _ | omega) _ _) | with_reducible exact Below.refl _ _ | with_reducible refine belowA ?_ _ | with_reducible refine belowD ?_ | with_reducible refine belowN ?_ _)))) ?_; rintro e w1 ⟨rfl, hb1⟩; have c1 := rdCell hb1 w.heap.size (by first | (simp; done) | (simp; omega)); have d1 := rdCell hb1 (w.heap.size + 1) (by first | (simp; done) | (simp; omega)); have hz1 : w.heap.size + 1 < w1.heap.size := (by have := Below.size hb1; simp at this; omega)))
    go_ret
    exact ⟨rfl, by (repeat (first | (with_reducible refine below_set ?_ (by first | exact Nat.le_refl _ | omega) _ _) | with_reducible exact Below.refl _ _ | with_reducible refine belowA ?_ _ | with_reducible refine below_own' ?_ hb5 | with_reducible refine below_own' ?_ hb4 | with_reducible refine below_own' ?_ hb3 | with_reducible refine below_own' ?_ hb2 | with_reducible refine below_own' ?_ hb1 | with_reducible refine belowD ?_ | with_reducible refine belowN ?_ _))⟩
  | true =>
    cases ry with
    | false =>
      simp only [Bool.false_and, Bool.and_false, Bool.false_eq_true, if_false] at he hc1 hc2
      have HE := Lib.hid he
      have HC1 := Lib.hid hc1
      have HC2 := Lib.hid hc2
      have HR1 := Lib.hid hr1
      have HR2 := Lib.hid hr2
      clear he hc1 hc2 hr1 hr2 hq hcq hbz hz3
      go_enter Tryz.func7, Tryz.ntmps7
      go_wp2_with (first
        | (go_at_call 20; refine Calls.mono (awake02 _ (HG.out.below (by (repeat (first | (with_reducible refine below_set ?_ (by first | exact Nat.le_refl _ | omega) _ _) | with_reducible exact Below.refl _ _ | with_reducible refine belowA ?_ _ | with_reducible refine below_own' ?_ hb5 | with_reducible refine below_own' ?_ hb4 | with_reducible refine below_own' ?_ hb3 | with_reducible refine below_own' ?_ hb2 | with_reducible refine below_own' ?_ hb1 | with_reducible refine belowD ?_ | with_reducible refine belowN ?_ _))))) ?_; rintro e w6 ⟨rfl, hb6⟩)
        | (have tok := tok4; clear tok tok4; go_at_call 15; refine Calls.mono (HR2.out _ (by (repeat (first | (with_reducible refine below_set ?_ (by first | exact Nat.le_refl _ | omega) _ _) | with_reducible exact Below.refl _ _ | with_reducible refine belowA ?_ _ | with_reducible refine below_own' ?_ hb4 | with_reducible refine below_own' ?_ hb3 | with_reducible refine below_own' ?_ hb2 | with_reducible refine below_own' ?_ hb1 | with_reducible refine belowD ?_ | with_reducible refine belowN ?_ _)))) ?_; rintro e w5 ⟨rfl, hb5⟩; have c5 := fun j => (rdCell hb5 w.heap.size (by omega) j).trans (c4 j); have d5 := fun j => (rdCell hb5 (w.heap.size + 1) (by omega) j).trans (d4 j); have hz5 : w.heap.size + 1 < w5.heap.size := Nat.lt_of_lt_of_le hz4 hb5.size; clear c4 d4)
        | (go_at_call 15; refine Calls.mono (HR1.out _ (by (repeat (first | (with_reducible refine below_set ?_ (by first | exact Nat.le_refl _ | omega) _ _) | with_reducible exact Below.refl _ _ | with_reducible refine belowA ?_ _ | with_reducible refine below_own' ?_ hb3 | with_reducible refine below_own' ?_ hb2 | with_reducible refine below_own' ?_ hb1 | with_reducible refine belowD ?_ | with_reducible refine belowN ?_ _)))) ?_; rintro e w4 ⟨rfl, hb4⟩; have c4 := fun j => (rdCell hb4 w.heap.size (by omega) j).trans (c3 j); have d4 := fun j => (rdCell hb4 (w.heap.size + 1) (by omega) j).trans (d3 j); have hz4 : w.heap.size + 1 < w4.heap.size := Nat.lt_of_lt_of_le hz3 hb4.size; clear c3 d3; have tok4 : True := trivial)
        | (have tok := tok2; clear tok tok2; go_at_call 28; refine Calls.mono (HC2.out _ (by (repeat (first | (with_reducible refine below_set ?_ (by first | exact Nat.le_refl _ | omega) _ _) | with_reducible exact Below.refl _ _ | with_reducible refine belowA ?_ _ | with_reducible refine below_own' ?_ hb2 | with_reducible refine below_own' ?_ hb1 | with_reducible refine belowD ?_ | with_reducible refine belowN ?_ _)))) ?_; rintro e w3 ⟨rfl, hb3⟩; have c3 := fun j => (rdCell hb3 w.heap.size (by omega) j).trans (c2 j); have d3 := fun j => (rdCell hb3 (w.heap.size + 1) (by omega) j).trans (d2 j); have hz3 : w.heap.size + 1 < w3.heap.size := Nat.lt_of_lt_of_le hz2 hb3.size; clear c2 d2)
        | (go_at_call 28; refine Calls.mono (HC1.out _ (by (repeat (first | (with_reducible refine below_set ?_ (by first | exact Nat.le_refl _ | omega) _ _) | with_reducible exact Below.refl _ _ | with_reducible refine belowA ?_ _ | with_reducible refine below_own' ?_ hb1 | with_reducible refine belowD ?_ | with_reducible refine belowN ?_ _)))) ?_; rintro e w2 ⟨rfl, hb2⟩; have c2 := fun j => (rdCell hb2 w.heap.size (by omega) j).trans (c1 j); have d2 := fun j => (rdCell hb2 (w.heap.size + 1) (by omega) j).trans (d1 j); have hz2 : w.heap.size + 1 < w2.heap.size := Nat.lt_of_lt_of_le hz1 hb2.size; clear c1 d1; have tok2 : True := trivial)
        | (go_at_call 27; refine Calls.mono (HE.out _ (by (repeat (first | (with_reducible refine below_set ?_ (by first | exact Nat.le_refl _ | omega) _ _) | with_reducible exact Below.refl _ _ | with_reducible refine belowA ?_ _ | with_reducible refine belowD ?_ | with_reducible refine belowN ?_ _)))) ?_; rintro e w1 ⟨rfl, hb1⟩; have c1 := rdCell hb1 w.heap.size (by first | (simp; done) | (simp; omega)); have d1 := rdCell hb1 (w.heap.size + 1) (by first | (simp; done) | (simp; omega)); have hz1 : w.heap.size + 1 < w1.heap.size := (by have := Below.size hb1; simp at this; omega)))
      go_ret
      exact ⟨rfl, by (repeat (first | (with_reducible refine below_set ?_ (by first | exact Nat.le_refl _ | omega) _ _) | with_reducible exact Below.refl _ _ | with_reducible refine belowA ?_ _ | with_reducible refine below_own' ?_ hb6 | with_reducible refine below_own' ?_ hb5 | with_reducible refine below_own' ?_ hb4 | with_reducible refine below_own' ?_ hb3 | with_reducible refine below_own' ?_ hb2 | with_reducible refine below_own' ?_ hb1 | with_reducible refine belowD ?_ | with_reducible refine belowN ?_ _))⟩
    | true =>
      obtain rfl := hbz rfl rfl
      have hcq2 := hcq rfl rfl
      simp only [Bool.and_self, Bool.true_and, if_true] at he hc1 hc2
      rcases hz3 with rfl | rfl | rfl
      all_goals simp only [Int.reduceNeg, Int.neg_neg, decide_true, Int.reduceEq, decide_false, Int.neg_zero] at he hc1 hc2 hq
      all_goals have HE := Lib.hid he
      all_goals have HC1 := Lib.hid hc1
      all_goals have HC2 := Lib.hid hc2
      all_goals have HR1 := Lib.hid hr1
      all_goals have HR2 := Lib.hid hr2
      all_goals have HQ := Lib.hid hq
      all_goals have HCQ := Lib.hid hcq2
      all_goals clear he hc1 hc2 hr1 hr2 hq hcq hcq2 hbz
      · go_enter Tryz.func7, Tryz.ntmps7
        go_wp2_with (first
          | (go_at_call 20; refine Calls.mono (awake02 _ (HG.out.below (by (repeat (first | (with_reducible refine below_set ?_ (by first | exact Nat.le_refl _ | omega) _ _) | with_reducible exact Below.refl _ _ | with_reducible refine belowA ?_ _ | with_reducible refine below_own' ?_ hb7 | with_reducible refine below_own' ?_ hb6 | with_reducible refine below_own' ?_ hb5 | with_reducible refine below_own' ?_ hb4 | with_reducible refine below_own' ?_ hb3 | with_reducible refine below_own' ?_ hb2 | with_reducible refine below_own' ?_ hb1 | with_reducible refine belowD ?_ | with_reducible refine belowN ?_ _))))) ?_; rintro e w8 ⟨rfl, hb8⟩)
          | (go_at_call 29; refine Calls.mono (HCQ.out _ (by (repeat (first | (with_reducible refine below_set ?_ (by first | exact Nat.le_refl _ | omega) _ _) | with_reducible exact Below.refl _ _ | with_reducible refine belowA ?_ _ | with_reducible refine below_own' ?_ hb6 | with_reducible refine below_own' ?_ hb5 | with_reducible refine below_own' ?_ hb4 | with_reducible refine below_own' ?_ hb3 | with_reducible refine below_own' ?_ hb2 | with_reducible refine below_own' ?_ hb1 | with_reducible refine belowD ?_ | with_reducible refine belowN ?_ _)))) ?_; rintro e w7 ⟨rfl, hb7⟩; have c7 := fun j => (rdCell hb7 w.heap.size (by omega) j).trans (c6 j); have d7 := fun j => (rdCell hb7 (w.heap.size + 1) (by omega) j).trans (d6 j); have hz7 : w.heap.size + 1 < w7.heap.size := Nat.lt_of_lt_of_le hz6 hb7.size; clear c6 d6)
          | (go_at_call 24; refine Calls.mono (HQ.out _ (by (repeat (first | (with_reducible refine below_set ?_ (by first | exact Nat.le_refl _ | omega) _ _) | with_reducible exact Below.refl _ _ | with_reducible refine belowA ?_ _ | with_reducible refine below_own' ?_ hb5 | with_reducible refine below_own' ?_ hb4 | with_reducible refine below_own' ?_ hb3 | with_reducible refine below_own' ?_ hb2 | with_reducible refine below_own' ?_ hb1 | with_reducible refine belowD ?_ | with_reducible refine belowN ?_ _)))) ?_; rintro e w6 ⟨rfl, hb6⟩; have c6 := fun j => (rdCell hb6 w.heap.size (by omega) j).trans (c5 j); have d6 := fun j => (rdCell hb6 (w.heap.size + 1) (by omega) j).trans (d5 j); have hz6 : w.heap.size + 1 < w6.heap.size := Nat.lt_of_lt_of_le hz5 hb6.size; clear c5 d5)
          | (have tok := tok4; clear tok tok4; go_at_call 15; refine Calls.mono (HR2.out _ (by (repeat (first | (with_reducible refine below_set ?_ (by first | exact Nat.le_refl _ | omega) _ _) | with_reducible exact Below.refl _ _ | with_reducible refine belowA ?_ _ | with_reducible refine below_own' ?_ hb4 | with_reducible refine below_own' ?_ hb3 | with_reducible refine below_own' ?_ hb2 | with_reducible refine below_own' ?_ hb1 | with_reducible refine belowD ?_ | with_reducible refine belowN ?_ _)))) ?_; rintro e w5 ⟨rfl, hb5⟩; have c5 := fun j => (rdCell hb5 w.heap.size (by omega) j).trans (c4 j); have d5 := fun j => (rdCell hb5 (w.heap.size + 1) (by omega) j).trans (d4 j); have hz5 : w.heap.size + 1 < w5.heap.size := Nat.lt_of_lt_of_le hz4 hb5.size; clear c4 d4)
          | (go_at_call 15; refine Calls.mono (HR1.out _ (by (repeat (first | (with_reducible refine below_set ?_ (by first | exact Nat.le_refl _ | omega) _ _) | with_reducible exact Below.refl _ _ | with_reducible refine belowA ?_ _ | with_reducible refine below_own' ?_ hb3 | with_reducible refine below_own' ?_ hb2 | with_reducible refine below_own' ?_ hb1 | with_reducible refine belowD ?_ | with_reducible refine belowN ?_ _)))) ?_; rintro e w4 ⟨rfl, hb4⟩; have c4 := fun j => (rdCell hb4 w.heap.size (by omega) j).trans (c3 j); have d4 := fun j => (rdCell hb4 (w.heap.size + 1) (by omega) j).trans (d3 j); have hz4 : w.heap.size + 1 < w4.heap.size := Nat.lt_of_lt_of_le hz3 hb4.size; clear c3 d3; have tok4 : True := trivial)
          | (have tok := tok2; clear tok tok2; go_at_call 28; refine Calls.mono (HC2.out _ (by (repeat (first | (with_reducible refine below_set ?_ (by first | exact Nat.le_refl _ | omega) _ _) | with_reducible exact Below.refl _ _ | with_reducible refine belowA ?_ _ | with_reducible refine below_own' ?_ hb2 | with_reducible refine below_own' ?_ hb1 | with_reducible refine belowD ?_ | with_reducible refine belowN ?_ _)))) ?_; rintro e w3 ⟨rfl, hb3⟩; have c3 := fun j => (rdCell hb3 w.heap.size (by omega) j).trans (c2 j); have d3 := fun j => (rdCell hb3 (w.heap.size + 1) (by omega) j).trans (d2 j); have hz3 : w.heap.size + 1 < w3.heap.size := Nat.lt_of_lt_of_le hz2 hb3.size; clear c2 d2)
          | (go_at_call 28; refine Calls.mono (HC1.out _ (by (repeat (first | (with_reducible refine below_set ?_ (by first | exact Nat.le_refl _ | omega) _ _) | with_reducible exact Below.refl _ _ | with_reducible refine belowA ?_ _ | with_reducible refine below_own' ?_ hb1 | with_reducible refine belowD ?_ | with_reducible refine belowN ?_ _)))) ?_; rintro e w2 ⟨rfl, hb2⟩; have c2 := fun j => (rdCell hb2 w.heap.size (by omega) j).trans (c1 j); have d2 := fun j => (rdCell hb2 (w.heap.size + 1) (by omega) j).trans (d1 j); have hz2 : w.heap.size + 1 < w2.heap.size := Nat.lt_of_lt_of_le hz1 hb2.size; clear c1 d1; have tok2 : True := trivial)
          | (go_at_call 27; refine Calls.mono (HE.out _ (by (repeat (first | (with_reducible refine below_set ?_ (by first | exact Nat.le_refl _ | omega) _ _) | with_reducible exact Below.refl _ _ | with_reducible refine belowA ?_ _ | with_reducible refine belowD ?_ | with_reducible refine belowN ?_ _)))) ?_; rintro e w1 ⟨rfl, hb1⟩; have c1 := rdCell hb1 w.heap.size (by first | (simp; done) | (simp; omega)); have d1 := rdCell hb1 (w.heap.size + 1) (by first | (simp; done) | (simp; omega)); have hz1 : w.heap.size + 1 < w1.heap.size := (by have := Below.size hb1; simp at this; omega)))
        go_ret
        exact ⟨rfl, by (repeat (first | (with_reducible refine below_set ?_ (by first | exact Nat.le_refl _ | omega) _ _) | with_reducible exact Below.refl _ _ | with_reducible refine belowA ?_ _ | with_reducible refine below_own' ?_ hb8 | with_reducible refine below_own' ?_ hb7 | with_reducible refine below_own' ?_ hb6 | with_reducible refine below_own' ?_ hb5 | with_reducible refine below_own' ?_ hb4 | with_reducible refine below_own' ?_ hb3 | with_reducible refine below_own' ?_ hb2 | with_reducible refine below_own' ?_ hb1 | with_reducible refine belowD ?_ | with_reducible refine belowN ?_ _))⟩
      · go_enter Tryz.func7, Tryz.ntmps7
        go_wp2_with (first
          | (go_at_call 20; refine Calls.mono (awake02 _ (HG.out.below (by (repeat (first | (with_reducible refine below_set ?_ (by first | exact Nat.le_refl _ | omega) _ _) | with_reducible exact Below.refl _ _ | with_reducible refine belowA ?_ _ | with_reducible refine below_own' ?_ hb7 | with_reducible refine below_own' ?_ hb6 | with_reducible refine below_own' ?_ hb5 | with_reducible refine below_own' ?_ hb4 | with_reducible refine below_own' ?_ hb3 | with_reducible refine below_own' ?_ hb2 | with_reducible refine below_own' ?_ hb1 | with_reducible refine belowD ?_ | with_reducible refine belowN ?_ _))))) ?_; rintro e w8 ⟨rfl, hb8⟩)
          | (go_at_call 29; refine Calls.mono (HCQ.out _ (by (repeat (first | (with_reducible refine below_set ?_ (by first | exact Nat.le_refl _ | omega) _ _) | with_reducible exact Below.refl _ _ | with_reducible refine belowA ?_ _ | with_reducible refine below_own' ?_ hb6 | with_reducible refine below_own' ?_ hb5 | with_reducible refine below_own' ?_ hb4 | with_reducible refine below_own' ?_ hb3 | with_reducible refine below_own' ?_ hb2 | with_reducible refine below_own' ?_ hb1 | with_reducible refine belowD ?_ | with_reducible refine belowN ?_ _)))) ?_; rintro e w7 ⟨rfl, hb7⟩; have c7 := fun j => (rdCell hb7 w.heap.size (by omega) j).trans (c6 j); have d7 := fun j => (rdCell hb7 (w.heap.size + 1) (by omega) j).trans (d6 j); have hz7 : w.heap.size + 1 < w7.heap.size := Nat.lt_of_lt_of_le hz6 hb7.size; clear c6 d6)
          | (go_at_call 24; refine Calls.mono (HQ.out _ (by (repeat (first | (with_reducible refine below_set ?_ (by first | exact Nat.le_refl _ | omega) _ _) | with_reducible exact Below.refl _ _ | with_reducible refine belowA ?_ _ | with_reducible refine below_own' ?_ hb5 | with_reducible refine below_own' ?_ hb4 | with_reducible refine below_own' ?_ hb3 | with_reducible refine below_own' ?_ hb2 | with_reducible refine below_own' ?_ hb1 | with_reducible refine belowD ?_ | with_reducible refine belowN ?_ _)))) ?_; rintro e w6 ⟨rfl, hb6⟩; have c6 := fun j => (rdCell hb6 w.heap.size (by omega) j).trans (c5 j); have d6 := fun j => (rdCell hb6 (w.heap.size + 1) (by omega) j).trans (d5 j); have hz6 : w.heap.size + 1 < w6.heap.size := Nat.lt_of_lt_of_le hz5 hb6.size; clear c5 d5)
          | (have tok := tok4; clear tok tok4; go_at_call 15; refine Calls.mono (HR2.out _ (by (repeat (first | (with_reducible refine below_set ?_ (by first | exact Nat.le_refl _ | omega) _ _) | with_reducible exact Below.refl _ _ | with_reducible refine belowA ?_ _ | with_reducible refine below_own' ?_ hb4 | with_reducible refine below_own' ?_ hb3 | with_reducible refine below_own' ?_ hb2 | with_reducible refine below_own' ?_ hb1 | with_reducible refine belowD ?_ | with_reducible refine belowN ?_ _)))) ?_; rintro e w5 ⟨rfl, hb5⟩; have c5 := fun j => (rdCell hb5 w.heap.size (by omega) j).trans (c4 j); have d5 := fun j => (rdCell hb5 (w.heap.size + 1) (by omega) j).trans (d4 j); have hz5 : w.heap.size + 1 < w5.heap.size := Nat.lt_of_lt_of_le hz4 hb5.size; clear c4 d4)
          | (go_at_call 15; refine Calls.mono (HR1.out _ (by (repeat (first | (with_reducible refine below_set ?_ (by first | exact Nat.le_refl _ | omega) _ _) | with_reducible exact Below.refl _ _ | with_reducible refine belowA ?_ _ | with_reducible refine below_own' ?_ hb3 | with_reducible refine below_own' ?_ hb2 | with_reducible refine below_own' ?_ hb1 | with_reducible refine belowD ?_ | with_reducible refine belowN ?_ _)))) ?_; rintro e w4 ⟨rfl, hb4⟩; have c4 := fun j => (rdCell hb4 w.heap.size (by omega) j).trans (c3 j); have d4 := fun j => (rdCell hb4 (w.heap.size + 1) (by omega) j).trans (d3 j); have hz4 : w.heap.size + 1 < w4.heap.size := Nat.lt_of_lt_of_le hz3 hb4.size; clear c3 d3; have tok4 : True := trivial)
          | (have tok := tok2; clear tok tok2; go_at_call 28; refine Calls.mono (HC2.out _ (by (repeat (first | (with_reducible refine below_set ?_ (by first | exact Nat.le_refl _ | omega) _ _) | with_reducible exact Below.refl _ _ | with_reducible refine belowA ?_ _ | with_reducible refine below_own' ?_ hb2 | with_reducible refine below_own' ?_ hb1 | with_reducible refine belowD ?_ | with_reducible refine belowN ?_ _)))) ?_; rintro e w3 ⟨rfl, hb3⟩; have c3 := fun j => (rdCell hb3 w.heap.size (by omega) j).trans (c2 j); have d3 := fun j => (rdCell hb3 (w.heap.size + 1) (by omega) j).trans (d2 j); have hz3 : w.heap.size + 1 < w3.heap.size := Nat.lt_of_lt_of_le hz2 hb3.size; clear c2 d2)
          | (go_at_call 28; refine Calls.mono (HC1.out _ (by (repeat (first | (with_reducible refine below_set ?_ (by first | exact Nat.le_refl _ | omega) _ _) | with_reducible exact Below.refl _ _ | with_reducible refine belowA ?_ _ | with_reducible refine below_own' ?_ hb1 | with_reducible refine belowD ?_ | with_reducible refine belowN ?_ _)))) ?_; rintro e w2 ⟨rfl, hb2⟩; have c2 := fun j => (rdCell hb2 w.heap.size (by omega) j).trans (c1 j); have d2 := fun j => (rdCell hb2 (w.heap.size + 1) (by omega) j).trans (d1 j); have hz2 : w.heap.size + 1 < w2.heap.size := Nat.lt_of_lt_of_le hz1 hb2.size; clear c1 d1; have tok2 : True := trivial)
          | (go_at_call 27; refine Calls.mono (HE.out _ (by (repeat (first | (with_reducible refine below_set ?_ (by first | exact Nat.le_refl _ | omega) _ _) | with_reducible exact Below.refl _ _ | with_reducible refine belowA ?_ _ | with_reducible refine belowD ?_ | with_reducible refine belowN ?_ _)))) ?_; rintro e w1 ⟨rfl, hb1⟩; have c1 := rdCell hb1 w.heap.size (by first | (simp; done) | (simp; omega)); have d1 := rdCell hb1 (w.heap.size + 1) (by first | (simp; done) | (simp; omega)); have hz1 : w.heap.size + 1 < w1.heap.size := (by have := Below.size hb1; simp at this; omega)))
        go_ret
        exact ⟨rfl, by (repeat (first | (with_reducible refine below_set ?_ (by first | exact Nat.le_refl _ | omega) _ _) | with_reducible exact Below.refl _ _ | with_reducible refine belowA ?_ _ | with_reducible refine below_own' ?_ hb8 | with_reducible refine below_own' ?_ hb7 | with_reducible refine below_own' ?_ hb6 | with_reducible refine below_own' ?_ hb5 | with_reducible refine below_own' ?_ hb4 | with_reducible refine below_own' ?_ hb3 | with_reducible refine below_own' ?_ hb2 | with_reducible refine below_own' ?_ hb1 | with_reducible refine belowD ?_ | with_reducible refine belowN ?_ _))⟩
      · go_enter Tryz.func7, Tryz.ntmps7
        go_wp2_with (first
          | (go_at_call 20; refine Calls.mono (awake02 _ (HG.out.below (by (repeat (first | (with_reducible refine below_set ?_ (by first | exact Nat.le_refl _ | omega) _ _) | with_reducible exact Below.refl _ _ | with_reducible refine belowA ?_ _ | with_reducible refine below_own' ?_ hb7 | with_reducible refine below_own' ?_ hb6 | with_reducible refine below_own' ?_ hb5 | with_reducible refine below_own' ?_ hb4 | with_reducible refine below_own' ?_ hb3 | with_reducible refine below_own' ?_ hb2 | with_reducible refine below_own' ?_ hb1 | with_reducible refine belowD ?_ | with_reducible refine belowN ?_ _))))) ?_; rintro e w8 ⟨rfl, hb8⟩)
          | (go_at_call 29; refine Calls.mono (HCQ.out _ (by (repeat (first | (with_reducible refine below_set ?_ (by first | exact Nat.le_refl _ | omega) _ _) | with_reducible exact Below.refl _ _ | with_reducible refine belowA ?_ _ | with_reducible refine below_own' ?_ hb6 | with_reducible refine below_own' ?_ hb5 | with_reducible refine below_own' ?_ hb4 | with_reducible refine below_own' ?_ hb3 | with_reducible refine below_own' ?_ hb2 | with_reducible refine below_own' ?_ hb1 | with_reducible refine belowD ?_ | with_reducible refine belowN ?_ _)))) ?_; rintro e w7 ⟨rfl, hb7⟩; have c7 := fun j => (rdCell hb7 w.heap.size (by omega) j).trans (c6 j); have d7 := fun j => (rdCell hb7 (w.heap.size + 1) (by omega) j).trans (d6 j); have hz7 : w.heap.size + 1 < w7.heap.size := Nat.lt_of_lt_of_le hz6 hb7.size; clear c6 d6)
          | (go_at_call 24; refine Calls.mono (HQ.out _ (by (repeat (first | (with_reducible refine below_set ?_ (by first | exact Nat.le_refl _ | omega) _ _) | with_reducible exact Below.refl _ _ | with_reducible refine belowA ?_ _ | with_reducible refine below_own' ?_ hb5 | with_reducible refine below_own' ?_ hb4 | with_reducible refine below_own' ?_ hb3 | with_reducible refine below_own' ?_ hb2 | with_reducible refine below_own' ?_ hb1 | with_reducible refine belowD ?_ | with_reducible refine belowN ?_ _)))) ?_; rintro e w6 ⟨rfl, hb6⟩; have c6 := fun j => (rdCell hb6 w.heap.size (by omega) j).trans (c5 j); have d6 := fun j => (rdCell hb6 (w.heap.size + 1) (by omega) j).trans (d5 j); have hz6 : w.heap.size + 1 < w6.heap.size := Nat.lt_of_lt_of_le hz5 hb6.size; clear c5 d5)
          | (have tok := tok4; clear tok tok4; go_at_call 15; refine Calls.mono (HR2.out _ (by (repeat (first | (with_reducible refine below_set ?_ (by first | exact Nat.le_refl _ | omega) _ _) | with_reducible exact Below.refl _ _ | with_reducible refine belowA ?_ _ | with_reducible refine below_own' ?_ hb4 | with_reducible refine below_own' ?_ hb3 | with_reducible refine below_own' ?_ hb2 | with_reducible refine below_own' ?_ hb1 | with_reducible refine belowD ?_ | with_reducible refine belowN ?_ _)))) ?_; rintro e w5 ⟨rfl, hb5⟩; have c5 := fun j => (rdCell hb5 w.heap.size (by omega) j).trans (c4 j); have d5 := fun j => (rdCell hb5 (w.heap.size + 1) (by omega) j).trans (d4 j); have hz5 : w.heap.size + 1 < w5.heap.size := Nat.lt_of_lt_of_le hz4 hb5.size; clear c4 d4)
          | (go_at_call 15; refine Calls.mono (HR1.out _ (by (repeat (first | (with_reducible refine below_set ?_ (by first | exact Nat.le_refl _ | omega) _ _) | with_reducible exact Below.refl _ _ | with_reducible refine belowA ?_ _ | with_reducible refine below_own' ?_ hb3 | with_reducible refine below_own' ?_ hb2 | with_reducible refine below_own' ?_ hb1 | with_reducible refine belowD ?_ | with_reducible refine belowN ?_ _)))) ?_; rintro e w4 ⟨rfl, hb4⟩; have c4 := fun j => (rdCell hb4 w.heap.size (by omega) j).trans (c3 j); have d4 := fun j => (rdCell hb4 (w.heap.size + 1) (by omega) j).trans (d3 j); have hz4 : w.heap.size + 1 < w4.heap.size := Nat.lt_of_lt_of_le hz3 hb4.size; clear c3 d3; have tok4 : True := trivial)
          | (have tok := tok2; clear tok tok2; go_at_call 28; refine Calls.mono (HC2.out _ (by (repeat (first | (with_reducible refine below_set ?_ (by first | exact Nat.le_refl _ | omega) _ _) | with_reducible exact Below.refl _ _ | with_reducible refine belowA ?_ _ | with_reducible refine below_own' ?_ hb2 | with_reducible refine below_own' ?_ hb1 | with_reducible refine belowD ?_ | with_reducible refine belowN ?_ _)))) ?_; rintro e w3 ⟨rfl, hb3⟩; have c3 := fun j => (rdCell hb3 w.heap.size (by omega) j).trans (c2 j); have d3 := fun j => (rdCell hb3 (w.heap.size + 1) (by omega) j).trans (d2 j); have hz3 : w.heap.size + 1 < w3.heap.size := Nat.lt_of_lt_of_le hz2 hb3.size; clear c2 d2)
          | (go_at_call 28; refine Calls.mono (HC1.out _ (by (repeat (first | (with_reducible refine below_set ?_ (by first | exact Nat.le_refl _ | omega) _ _) | with_reducible exact Below.refl _ _ | with_reducible refine belowA ?_ _ | with_reducible refine below_own' ?_ hb1 | with_reducible refine belowD ?_ | with_reducible refine belowN ?_ _)))) ?_; rintro e w2 ⟨rfl, hb2⟩; have c2 := fun j => (rdCell hb2 w.heap.size (by omega) j).trans (c1 j); have d2 := fun j => (rdCell hb2 (w.heap.size + 1) (by omega) j).trans (d1 j); have hz2 : w.heap.size + 1 < w2.heap.size := Nat.lt_of_lt_of_le hz1 hb2.size; clear c1 d1; have tok2 : True := trivial)
          | (go_at_call 27; refine Calls.mono (HE.out _ (by (repeat (first | (with_reducible refine below_set ?_ (by first | exact Nat.le_refl _ | omega) _ _) | with_reducible exact Below.refl _ _ | with_reducible refine belowA ?_ _ | with_reducible refine belowD ?_ | with_reducible refine belowN ?_ _)))) ?_; rintro e w1 ⟨rfl, hb1⟩; have c1 := rdCell hb1 w.heap.size (by first | (simp; done) | (simp; omega)); have d1 := rdCell hb1 (w.heap.size + 1) (by first | (simp; done) | (simp; omega)); have hz1 : w.heap.size + 1 < w1.heap.size := (by have := Below.size hb1; simp at this; omega)))
        go_ret
        exact ⟨rfl, by (repeat (first | (with_reducible refine below_set ?_ (by first | exact Nat.le_refl _ | omega) _ _) | with_reducible exact Below.refl _ _ | with_reducible refine belowA ?_ _ | with_reducible refine below_own' ?_ hb8 | with_reducible refine below_own' ?_ hb7 | with_reducible refine below_own' ?_ hb6 | with_reducible refine below_own' ?_ hb5 | with_reducible refine below_own' ?_ hb4 | with_reducible refine below_own' ?_ hb3 | with_reducible refine below_own' ?_ hb2 | with_reducible refine below_own' ?_ hb1 | with_reducible refine belowD ?_ | with_reducible refine belowN ?_ _))⟩
end Go.Proofs.YtmepjbjmjbpchaaGreatDoor

