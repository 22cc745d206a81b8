/- AttrsEdits: a list that is not right, an attribute that may not be set. -/
import Derived.Test.YtmepjbjmjbpchaaGreatDoorLwe0
namespace Go.Proofs.YtmepjbjmjbpchaaGreatDoor
open Go Go.RowKit Go.Sort
set_option linter.unusedVariables false
set_option linter.unusedSimpArgs false

set_option maxRecDepth 100000 in
set_option maxHeartbeats 32000000 in
theorem edits_A (p : Option Addr) (c : Nat) (l : List Atr) (x : Atr) (w : World) (hg : Glob w) (hs : AtrSl w p l) (hc : l.length ≤ c) (hl : l.length ≤ 100000000000000) (hx : x.Lies w) (fx : x.Fits) (h0 : rightL l = false) :
    Calls Tryz.prog 12 #[.slice p l.length c, x.val] w fun e w' => e = .returned (.bool true) ∧ Below w.heap.size w w' := by
  have HG := Lib.hid hg
  have HS := Lib.hid hs
  have HX := Lib.hid hx
  obtain ⟨r, hr⟩ : ∃ r, r = rightL l := ⟨_, rfl⟩
  have HCK : Hid (∀ W, Below w.heap.size w W → Calls Tryz.prog 19 #[.slice p l.length c] W fun e w' => e = .returned (.int .i64 (if r then 0 else 20)) ∧ Below W.heap.size W w') := Lib.hid fun W h => by rw [hr]; exact check_any' p c l W (hs.below h) hl
  have hrr : r = false := hr.trans h0
  subst hrr
  simp only [Bool.false_eq_true, if_false] at HCK
  clear hr hg hs hx
  have tk0 : True := trivial
  go_enter Tryz.func12, Tryz.ntmps12
  go_wp2_with (first
    | (have tok := tk1; clear tok tk1; go_at_call 20; refine Calls.mono (awake02 _ (HG.out.below ?_)) ?_; (focus ((repeat (first | (with_reducible refine below_set ?_ (by first | exact Nat.le_refl _ | omega) _ _) | with_reducible exact Below.refl _ _ | with_reducible refine belowA ?_ _ | with_reducible refine below_own' ?_ hb1 | with_reducible refine belowD ?_ | with_reducible refine belowN ?_ _)); done)); rintro e w2 ⟨rfl, hb2⟩)
    | (have tok := tk0; clear tok tk0; go_at_call 19; refine Calls.mono (HCK.out _ ?_) ?_; (focus ((repeat (first | (with_reducible refine below_set ?_ (by first | exact Nat.le_refl _ | omega) _ _) | with_reducible exact Below.refl _ _ | with_reducible refine belowA ?_ _ | with_reducible refine belowD ?_ | with_reducible refine belowN ?_ _)); done)); rintro e w1 ⟨rfl, hb1⟩; have c1 := rdCell hb1 w.heap.size (by first | (simp; done) | (simp; omega)); have hz1 : w.heap.size < w1.heap.size := (by have := Below.size hb1; simp at this; omega); have tk1 : True := trivial))
  go_ret
  exact ⟨rfl, by (repeat (first | (with_reducible refine below_set ?_ (by first | exact Nat.le_refl _ | omega) _ _) | with_reducible exact Below.refl _ _ | with_reducible refine belowA ?_ _ | with_reducible refine below_own' ?_ hb2 | with_reducible refine below_own' ?_ hb1 | with_reducible refine belowD ?_ | with_reducible refine belowN ?_ _))⟩
set_option maxRecDepth 100000 in
set_option maxHeartbeats 32000000 in
theorem edits_B (p : Option Addr) (c : Nat) (l : List Atr) (x : Atr) (w : World) (hg : Glob w) (hs : AtrSl w p l) (hc : l.length ≤ c) (hl : l.length ≤ 100000000000000) (hx : x.Lies w) (fx : x.Fits) (h0 : rightL l = true) (hok : ¬ (rightA x = true ∧ (setD (l.map Atr.dat) x.dat).length ≤ 100)) :
    Calls Tryz.prog 12 #[.slice p l.length c, x.val] w fun e w' => e = .returned (.bool true) ∧ Below w.heap.size w w' := by
  have HG := Lib.hid hg
  have HS := Lib.hid hs
  have HX := Lib.hid hx
  obtain ⟨r, hr⟩ : ∃ r, r = rightL l := ⟨_, rfl⟩
  have HCK : Hid (∀ W, Below w.heap.size w W → Calls Tryz.prog 19 #[.slice p l.length c] W fun e w' => e = .returned (.int .i64 (if r then 0 else 20)) ∧ Below W.heap.size W w') := Lib.hid fun W h => by rw [hr]; exact check_any' p c l W (hs.below h) hl
  have hrr : r = true := hr.trans h0
  subst hrr
  simp only [if_true] at HCK
  have h1l := rightL_len hr.symm
  have HR := Lib.hid hr.symm
  have hri := rises_dat hr.symm
  have hln : (l.map Atr.dat).length ≤ 100 := by simpa using h1l
  have HM1 : Hid (∀ W, Below w.heap.size w W → Calls Tryz.prog 18 #[.slice p l.length c, .slice none 0 0] W (LsPost (l.map Atr.dat) W)) := Lib.hid fun W h => merge_ls p none c 0 l.length 0 l [] _ W (hs.below h) ⟨.inl rfl, by simp, by simp⟩ rfl rfl hr.symm rfl rfl hln
  have HM2 : Hid (∀ W, Below w.heap.size w W → Calls Tryz.prog 18 #[.slice none 0 0, .slice p l.length c] W (LsPost (l.map Atr.dat) W)) := Lib.hid fun W h => merge_ls none p 0 c 0 l.length [] l _ W ⟨.inl rfl, by simp, by simp⟩ (hs.below h) rfl rfl rfl hr.symm (merge_rise _ [] hri) hln
  have HM3 : Hid (∀ W, Below w.heap.size w W → Calls Tryz.prog 18 #[.slice p l.length c, .slice p l.length c] W (LsPost (l.map Atr.dat) W)) := Lib.hid fun W h => merge_ls p p c c l.length l.length l l _ W (hs.below h) (hs.below h) rfl rfl hr.symm hr.symm (merge_sub _ _ hri fun _ h => h) hln
  have hst := fun W (h : Below w.heap.size w W) => set_any p c l x W (hs.below h) hl (hx.below h) fx
  obtain ⟨D, hD⟩ : ∃ D, D = setD (l.map Atr.dat) x.dat := ⟨_, rfl⟩
  have hme : mergeD (l.map Atr.dat) ([x].map Atr.dat) = D := by rw [hD]; rfl
  rw [← hD] at hok
  have HSE : Hid (∀ W, Below w.heap.size w W → Calls Tryz.prog 13 #[.slice p l.length c, x.val] W fun e w' => ∃ n : Int, (n == 0) = false ∧ e = .returned (.tuple #[.slice none 0 0, .int .i64 n]) ∧ Below W.heap.size W w') := Lib.hid fun W h => (hst W h).mono fun e w' h => by
    obtain ⟨hb, h3⟩ := h
    by_cases h5 : rightL [x] = true
    · have h6 : ¬ D.length ≤ 100 := fun h7 => hok ⟨rightL_mem h5 x (by simp), h7⟩
      rw [← hr, h5, if_pos (show (true && true) = true from rfl), hme, if_pos (by omega)] at h3
      exact ⟨2, rfl, h3, hb⟩
    · rw [← hr, Bool.eq_false_iff.2 h5, if_neg (by simp)] at h3
      exact ⟨20, rfl, h3, hb⟩
  clear hg hs hx hr hst hri hln
  have tk0 : True := trivial
  go_enter Tryz.func12, Tryz.ntmps12
  go_wp2_with (first
    | (have tok := tk8; clear tok tk8; go_at_call 20; refine Calls.mono (awake02 _ (HG.out.below ?_)) ?_; (focus ((repeat (first | (with_reducible refine below_set ?_ (by first | exact Nat.le_refl _ | omega) _ _) | with_reducible exact Below.refl _ _ | with_reducible refine belowA ?_ _ | with_reducible refine below_own' ?_ hb8 | with_reducible refine below_own' ?_ hb7 | with_reducible refine below_own' ?_ hb6 | with_reducible refine below_own' ?_ hb5 | with_reducible refine below_own' ?_ hb4 | with_reducible refine below_own' ?_ hb3 | with_reducible refine below_own' ?_ hb2 | with_reducible refine below_own' ?_ hb1 | with_reducible refine belowD ?_ | with_reducible refine belowN ?_ _)); done)); rintro e w9 ⟨rfl, hb9⟩)
    | (have tok := tk7; clear tok tk7; go_at_call 13; refine Calls.mono (HSE.out _ ?_) ?_; (focus ((repeat (first | (with_reducible refine below_set ?_ (by first | exact Nat.le_refl _ | omega) _ _) | with_reducible exact Below.refl _ _ | with_reducible refine belowA ?_ _ | with_reducible refine below_own' ?_ hb7 | with_reducible refine below_own' ?_ hb6 | with_reducible refine below_own' ?_ hb5 | with_reducible refine below_own' ?_ hb4 | with_reducible refine below_own' ?_ hb3 | with_reducible refine below_own' ?_ hb2 | with_reducible refine below_own' ?_ hb1 | with_reducible refine belowD ?_ | with_reducible refine belowN ?_ _)); done)); rintro e w8 ⟨n8, hn8, rfl, hb8⟩; have c8 := fun j => (rdCell hb8 w.heap.size (by first | omega | (simp; omega)) j).trans (c7 j); have hz8 : w.heap.size < w8.heap.size := Nat.lt_of_lt_of_le hz7 hb8.size; clear c7; have tk8 : True := trivial)
    | (have tok := tk6; clear tok tk6; go_at_call 17; refine Calls.mono (requalL_same sv4 p cv4 c n4 l.length lv4 l _ (HS4.out.below ?_) (HS.out.below ?_) HD4.out HN4.out rfl (by have := HN4.out; have := congrArg List.length HD4.out; simp at this; omega)) ?_; (focus ((repeat (first | (with_reducible refine below_set ?_ (by first | exact Nat.le_refl _ | omega) _ _) | with_reducible exact Below.refl _ _ | with_reducible refine belowA ?_ _ | with_reducible refine below_own' ?_ hb6 | with_reducible refine below_own' ?_ hb5 | with_reducible refine belowD ?_ | with_reducible refine belowN ?_ _)); done)); (focus ((repeat (first | (with_reducible refine below_set ?_ (by first | exact Nat.le_refl _ | omega) _ _) | with_reducible exact Below.refl _ _ | with_reducible refine belowA ?_ _ | with_reducible refine below_own' ?_ hb6 | with_reducible refine below_own' ?_ hb5 | with_reducible refine below_own' ?_ hb4 | with_reducible refine below_own' ?_ hb3 | with_reducible refine below_own' ?_ hb2 | with_reducible refine below_own' ?_ hb1 | with_reducible refine belowD ?_ | with_reducible refine belowN ?_ _)); done)); rintro e w7 ⟨rfl, hb7⟩; have c7 := fun j => (rdCell hb7 w.heap.size (by first | omega | (simp; omega)) j).trans (c6 j); have hz7 : w.heap.size < w7.heap.size := Nat.lt_of_lt_of_le hz6 hb7.size; clear c6; have tk7 : True := trivial)
    | (have tok := tk5; clear tok tk5; go_at_call 17; refine Calls.mono (requalL_same sv3 p cv3 c n3 l.length lv3 l _ (HS3.out.below ?_) (HS.out.below ?_) HD3.out HN3.out rfl (by have := HN3.out; have := congrArg List.length HD3.out; simp at this; omega)) ?_; (focus ((repeat (first | (with_reducible refine below_set ?_ (by first | exact Nat.le_refl _ | omega) _ _) | with_reducible exact Below.refl _ _ | with_reducible refine belowA ?_ _ | with_reducible refine below_own' ?_ hb5 | with_reducible refine below_own' ?_ hb4 | with_reducible refine belowD ?_ | with_reducible refine belowN ?_ _)); done)); (focus ((repeat (first | (with_reducible refine below_set ?_ (by first | exact Nat.le_refl _ | omega) _ _) | with_reducible exact Below.refl _ _ | with_reducible refine belowA ?_ _ | with_reducible refine below_own' ?_ hb5 | with_reducible refine below_own' ?_ hb4 | with_reducible refine below_own' ?_ hb3 | with_reducible refine below_own' ?_ hb2 | with_reducible refine below_own' ?_ hb1 | with_reducible refine belowD ?_ | with_reducible refine belowN ?_ _)); done)); rintro e w6 ⟨rfl, hb6⟩; have c6 := fun j => (rdCell hb6 w.heap.size (by first | omega | (simp; omega)) j).trans (c5 j); have hz6 : w.heap.size < w6.heap.size := Nat.lt_of_lt_of_le hz5 hb6.size; clear c5; have tk6 : True := trivial)
    | (have tok := tk4; clear tok tk4; go_at_call 17; refine Calls.mono (requalL_same sv2 p cv2 c n2 l.length lv2 l _ (HS2.out.below ?_) (HS.out.below ?_) HD2.out HN2.out rfl (by have := HN2.out; have := congrArg List.length HD2.out; simp at this; omega)) ?_; (focus ((repeat (first | (with_reducible refine below_set ?_ (by first | exact Nat.le_refl _ | omega) _ _) | with_reducible exact Below.refl _ _ | with_reducible refine belowA ?_ _ | with_reducible refine below_own' ?_ hb4 | with_reducible refine below_own' ?_ hb3 | with_reducible refine belowD ?_ | with_reducible refine belowN ?_ _)); done)); (focus ((repeat (first | (with_reducible refine below_set ?_ (by first | exact Nat.le_refl _ | omega) _ _) | with_reducible exact Below.refl _ _ | with_reducible refine belowA ?_ _ | with_reducible refine below_own' ?_ hb4 | with_reducible refine below_own' ?_ hb3 | with_reducible refine below_own' ?_ hb2 | with_reducible refine below_own' ?_ hb1 | with_reducible refine belowD ?_ | with_reducible refine belowN ?_ _)); done)); rintro e w5 ⟨rfl, hb5⟩; have c5 := fun j => (rdCell hb5 w.heap.size (by first | omega | (simp; omega)) j).trans (c4 j); have hz5 : w.heap.size < w5.heap.size := Nat.lt_of_lt_of_le hz4 hb5.size; clear c4; have tk5 : True := trivial)
    | (have tok := tk3; clear tok tk3; go_at_call 18; refine Calls.mono (HM3.out _ ?_) ?_; (focus ((repeat (first | (with_reducible refine below_set ?_ (by first | exact Nat.le_refl _ | omega) _ _) | with_reducible exact Below.refl _ _ | with_reducible refine belowA ?_ _ | with_reducible refine below_own' ?_ hb3 | with_reducible refine below_own' ?_ hb2 | with_reducible refine below_own' ?_ hb1 | with_reducible refine belowD ?_ | with_reducible refine belowN ?_ _)); done)); rintro e w4 ⟨sv4, cv4, n4, lv4, rfl, hn4, hnc4, hs4, hd4, hb4⟩; have c4 := fun j => (rdCell hb4 w.heap.size (by first | omega | (simp; omega)) j).trans (c3 j); have hz4 : w.heap.size < w4.heap.size := Nat.lt_of_lt_of_le hz3 hb4.size; clear c3; have HN4 := Lib.hid hn4; have HS4 := Lib.hid hs4; have HD4 := Lib.hid hd4; clear hn4 hs4 hd4; have tk4 : True := trivial)
    | (have tok := tk2; clear tok tk2; go_at_call 18; refine Calls.mono (HM2.out _ ?_) ?_; (focus ((repeat (first | (with_reducible refine below_set ?_ (by first | exact Nat.le_refl _ | omega) _ _) | with_reducible exact Below.refl _ _ | with_reducible refine belowA ?_ _ | with_reducible refine below_own' ?_ hb2 | with_reducible refine below_own' ?_ hb1 | with_reducible refine belowD ?_ | with_reducible refine belowN ?_ _)); done)); rintro e w3 ⟨sv3, cv3, n3, lv3, rfl, hn3, hnc3, hs3, hd3, hb3⟩; have c3 := fun j => (rdCell hb3 w.heap.size (by first | omega | (simp; omega)) j).trans (c2 j); have hz3 : w.heap.size < w3.heap.size := Nat.lt_of_lt_of_le hz2 hb3.size; clear c2; have HN3 := Lib.hid hn3; have HS3 := Lib.hid hs3; have HD3 := Lib.hid hd3; clear hn3 hs3 hd3; have tk3 : True := trivial)
    | (have tok := tk1; clear tok tk1; go_at_call 18; refine Calls.mono (HM1.out _ ?_) ?_; (focus ((repeat (first | (with_reducible refine below_set ?_ (by first | exact Nat.le_refl _ | omega) _ _) | with_reducible exact Below.refl _ _ | with_reducible refine belowA ?_ _ | with_reducible refine below_own' ?_ hb1 | with_reducible refine belowD ?_ | with_reducible refine belowN ?_ _)); done)); rintro e w2 ⟨sv2, cv2, n2, lv2, rfl, hn2, hnc2, hs2, hd2, hb2⟩; have c2 := fun j => (rdCell hb2 w.heap.size (by first | omega | (simp; omega)) j).trans (c1 j); have hz2 : w.heap.size < w2.heap.size := Nat.lt_of_lt_of_le hz1 hb2.size; clear c1; have HN2 := Lib.hid hn2; have HS2 := Lib.hid hs2; have HD2 := Lib.hid hd2; clear hn2 hs2 hd2; have tk2 : True := trivial)
    | (have tok := tk0; clear tok tk0; go_at_call 19; refine Calls.mono (HCK.out _ ?_) ?_; (focus ((repeat (first | (with_reducible refine below_set ?_ (by first | exact Nat.le_refl _ | omega) _ _) | with_reducible exact Below.refl _ _ | with_reducible refine belowA ?_ _ | with_reducible refine belowD ?_ | with_reducible refine belowN ?_ _)); done)); rintro e w1 ⟨rfl, hb1⟩; have c1 := rdCell hb1 w.heap.size (by first | (simp; done) | (simp; omega)); have hz1 : w.heap.size < w1.heap.size := (by have := Below.size hb1; simp at this; omega); have tk1 : True := trivial))
  go_ret
  exact ⟨rfl, by (repeat (first | (with_reducible refine below_set ?_ (by first | exact Nat.le_refl _ | omega) _ _) | with_reducible exact Below.refl _ _ | with_reducible refine belowA ?_ _ | with_reducible refine below_own' ?_ hb9 | with_reducible refine below_own' ?_ hb8 | with_reducible refine below_own' ?_ hb7 | with_reducible refine below_own' ?_ hb6 | with_reducible refine below_own' ?_ hb5 | with_reducible refine below_own' ?_ hb4 | with_reducible refine below_own' ?_ hb3 | with_reducible refine below_own' ?_ hb2 | with_reducible refine below_own' ?_ hb1 | with_reducible refine belowD ?_ | with_reducible refine belowN ?_ _))⟩
end Go.Proofs.YtmepjbjmjbpchaaGreatDoor

