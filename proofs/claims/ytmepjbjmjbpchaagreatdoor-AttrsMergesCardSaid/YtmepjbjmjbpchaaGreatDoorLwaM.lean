/- AttrsMerges: the law's walk. -/
import Derived.Test.YtmepjbjmjbpchaaGreatDoorMg27
namespace Go.Proofs.YtmepjbjmjbpchaaGreatDoor
open Go Go.RowKit Go.Sort
set_option linter.unusedVariables false
set_option linter.unusedSimpArgs false

set_option maxRecDepth 100000 in
set_option maxHeartbeats 8000000 in
theorem merges_law (p q : Option Addr) (c d : Nat) (l m : List Atr) (w : World) (hg : Glob w) (hs : AtrSl w p l) (hs2 : AtrSl w q m) (hl : l.length ≤ 100000000000000) (hm : m.length ≤ 100000000000000) :
    Calls Tryz.prog 4 #[.slice p l.length c, .slice q m.length d] w fun e w' => e = .returned (.bool true) ∧ Below w.heap.size w w' := by
  have HG := Lib.hid hg
  have HS := Lib.hid hs
  have HS2 := Lib.hid hs2
  have hmg := merge_any p q c d l m w hs hs2 hl hm
  obtain ⟨rl, hrl⟩ : ∃ rl, rl = rightL l := ⟨_, rfl⟩
  obtain ⟨rm, hrm⟩ : ∃ rm, rm = rightL m := ⟨_, rfl⟩
  have HRL := Lib.hid hrl
  have HRM := Lib.hid hrm
  unfold MgPost at hmg
  rw [← hrl, ← hrm] at hmg
  clear hg hs hs2
  cases rl with
  | false =>
    have HM : Hid (Calls Tryz.prog 18 #[.slice p l.length c, .slice q m.length d] w fun e w' => e = .returned (.tuple #[.slice none 0 0, .int .i64 20]) ∧ Below w.heap.size w w') := Lib.hid (hmg.mono fun e w' h => ⟨by simpa using h.2, h.1⟩)
    clear hmg hrl hrm
    go_enter Tryz.func4, Tryz.ntmps4
    go_wp2_with (first
      | (go_at_call 20; refine Calls.mono (awake02 _ (HG.out.below ?_)) ?_; (focus ((repeat (first | (with_reducible refine below_set ?_ (by first | exact Nat.le_refl _ | omega) _ _) | with_reducible exact Below.refl _ _ | with_reducible refine belowA ?_ _ | with_reducible refine below_own' ?_ hb3 | with_reducible refine below_own' ?_ hb2 | with_reducible refine below_own' ?_ hb1 | with_reducible refine belowD ?_ | with_reducible refine belowN ?_ _)); done)); rintro e w4 ⟨rfl, hb4⟩)
      | (go_at_call 17; refine (requalL_nil _).mono ?_; rintro e w3 ⟨rfl, hb3⟩)
      | (go_at_call 14; refine Calls.mono (rRightList_any p c l _ (HS.out.below ?_) hl) ?_; (focus ((repeat (first | (with_reducible refine below_set ?_ (by first | exact Nat.le_refl _ | omega) _ _) | with_reducible exact Below.refl _ _ | with_reducible refine belowA ?_ _ | with_reducible refine below_own' ?_ hb1 | with_reducible refine belowD ?_ | with_reducible refine belowN ?_ _)); done)); rintro e w2 ⟨rfl, hb2⟩; rw [← HRL.out])
      | (go_at_call 18; refine HM.out.mono ?_; rintro e w1 ⟨rfl, hb1⟩))
    go_ret
    exact ⟨rfl, by (repeat (first | (with_reducible refine below_set ?_ (by first | exact Nat.le_refl _ | omega) _ _) | with_reducible exact Below.refl _ _ | with_reducible refine belowA ?_ _ | with_reducible refine below_own' ?_ hb4 | with_reducible refine below_own' ?_ hb3 | with_reducible refine below_own' ?_ hb2 | with_reducible refine below_own' ?_ hb1 | with_reducible refine belowD ?_ | with_reducible refine belowN ?_ _))⟩
  | true =>
    cases rm with
    | false =>
      have HM : Hid (Calls Tryz.prog 18 #[.slice p l.length c, .slice q m.length d] w fun e w' => e = .returned (.tuple #[.slice none 0 0, .int .i64 20]) ∧ Below w.heap.size w w') := Lib.hid (hmg.mono fun e w' h => ⟨by simpa using h.2, h.1⟩)
      clear hmg hrl hrm
      go_enter Tryz.func4, Tryz.ntmps4
      go_wp2_with (first
        | (go_at_call 20; refine Calls.mono (awake02 _ (HG.out.below ?_)) ?_; (focus ((repeat (first | (with_reducible refine below_set ?_ (by first | exact Nat.le_refl _ | omega) _ _) | with_reducible exact Below.refl _ _ | with_reducible refine belowA ?_ _ | with_reducible refine below_own' ?_ hb4 | with_reducible refine below_own' ?_ hb3 | with_reducible refine below_own' ?_ hb2 | with_reducible refine below_own' ?_ hb1 | with_reducible refine belowD ?_ | with_reducible refine belowN ?_ _)); done)); rintro e w5 ⟨rfl, hb5⟩)
        | (go_at_call 17; refine (requalL_nil _).mono ?_; rintro e w4 ⟨rfl, hb4⟩)
        | (have tok := tok2; clear tok tok2; go_at_call 14; refine Calls.mono (rRightList_any q d m _ (HS2.out.below ?_) hm) ?_; (focus ((repeat (first | (with_reducible refine below_set ?_ (by first | exact Nat.le_refl _ | omega) _ _) | with_reducible exact Below.refl _ _ | with_reducible refine belowA ?_ _ | with_reducible refine below_own' ?_ hb2 | with_reducible refine below_own' ?_ hb1 | with_reducible refine belowD ?_ | with_reducible refine belowN ?_ _)); done)); rintro e w3 ⟨rfl, hb3⟩; rw [← HRM.out])
        | (go_at_call 14; refine Calls.mono (rRightList_any p c l _ (HS.out.below ?_) hl) ?_; (focus ((repeat (first | (with_reducible refine below_set ?_ (by first | exact Nat.le_refl _ | omega) _ _) | with_reducible exact Below.refl _ _ | with_reducible refine belowA ?_ _ | with_reducible refine below_own' ?_ hb1 | with_reducible refine belowD ?_ | with_reducible refine belowN ?_ _)); done)); rintro e w2 ⟨rfl, hb2⟩; rw [← HRL.out]; have tok2 : True := trivial)
        | (go_at_call 18; refine HM.out.mono ?_; rintro e w1 ⟨rfl, hb1⟩))
      go_ret
      exact ⟨rfl, by (repeat (first | (with_reducible refine below_set ?_ (by first | exact Nat.le_refl _ | omega) _ _) | with_reducible exact Below.refl _ _ | with_reducible refine belowA ?_ _ | with_reducible refine below_own' ?_ hb5 | with_reducible refine below_own' ?_ hb4 | with_reducible refine below_own' ?_ hb3 | with_reducible refine below_own' ?_ hb2 | with_reducible refine below_own' ?_ hb1 | with_reducible refine belowD ?_ | with_reducible refine belowN ?_ _))⟩
    | true =>
      have h1l := rightL_len hrl.symm
      have h1m := rightL_len hrm.symm
      have HRI := Lib.hid (rises_dat hrl.symm)
      have hlen := mergeD_len (m.map Atr.dat) (l.map Atr.dat)
      simp only [List.length_map] at hlen
      by_cases h100 : 100 < (mergeD (l.map Atr.dat) (m.map Atr.dat)).length
      · have HM : Hid (Calls Tryz.prog 18 #[.slice p l.length c, .slice q m.length d] w fun e w' => e = .returned (.tuple #[.slice none 0 0, .int .i64 2]) ∧ Below w.heap.size w w') := Lib.hid (hmg.mono fun e w' h => ⟨by have := h.2; rw [if_pos (by rfl), if_pos h100] at this; exact this, h.1⟩)
        have HK := Lib.hid h100
        clear hmg hrl hrm h100 hlen
        go_enter Tryz.func4, Tryz.ntmps4
        go_wp2_with (first
          | (go_at_call 20; refine Calls.mono (awake02 _ (HG.out.below ?_)) ?_; (focus ((repeat (first | (with_reducible refine below_set ?_ (by first | exact Nat.le_refl _ | omega) _ _) | with_reducible exact Below.refl _ _ | with_reducible refine belowA ?_ _ | with_reducible refine below_own' ?_ hb5 | with_reducible refine below_own' ?_ hb4 | with_reducible refine below_own' ?_ hb3 | with_reducible refine below_own' ?_ hb2 | with_reducible refine below_own' ?_ hb1 | with_reducible refine belowD ?_ | with_reducible refine belowN ?_ _)); done)); rintro e w6 ⟨rfl, hb6⟩)
          | (go_at_call 17; refine (requalL_nil _).mono ?_; rintro e w5 ⟨rfl, hb5⟩)
          | (go_at_call 21; refine Calls.mono (rmerge_any p q c d l m _ (HS.out.below ?_) (HS2.out.below ?_) (by omega) (by omega) HRI.out) ?_; (focus ((repeat (first | (with_reducible refine below_set ?_ (by first | exact Nat.le_refl _ | omega) _ _) | with_reducible exact Below.refl _ _ | with_reducible refine belowA ?_ _ | with_reducible refine below_own' ?_ hb3 | with_reducible refine below_own' ?_ hb2 | with_reducible refine below_own' ?_ hb1 | with_reducible refine belowD ?_ | with_reducible refine belowN ?_ _)); done)); (focus ((repeat (first | (with_reducible refine below_set ?_ (by first | exact Nat.le_refl _ | omega) _ _) | with_reducible exact Below.refl _ _ | with_reducible refine belowA ?_ _ | with_reducible refine below_own' ?_ hb3 | with_reducible refine below_own' ?_ hb2 | with_reducible refine below_own' ?_ hb1 | with_reducible refine belowD ?_ | with_reducible refine belowN ?_ _)); done)); rintro e w4 ⟨sa, sc, l4, rfl, hs4, hd4, hb4⟩; obtain ⟨n4, hn4⟩ : ∃ n4, n4 = l4.length := ⟨_, rfl⟩; rw [← hn4]; have h4 : (100 : Int) < (n4 : Int) := (by have := HK.out; rw [← hd4] at this; simp at this; omega); clear hs4 hd4 hn4)
          | (have tok := tok2; clear tok tok2; go_at_call 14; refine Calls.mono (rRightList_any q d m _ (HS2.out.below ?_) hm) ?_; (focus ((repeat (first | (with_reducible refine below_set ?_ (by first | exact Nat.le_refl _ | omega) _ _) | with_reducible exact Below.refl _ _ | with_reducible refine belowA ?_ _ | with_reducible refine below_own' ?_ hb2 | with_reducible refine below_own' ?_ hb1 | with_reducible refine belowD ?_ | with_reducible refine belowN ?_ _)); done)); rintro e w3 ⟨rfl, hb3⟩; rw [← HRM.out])
          | (go_at_call 14; refine Calls.mono (rRightList_any p c l _ (HS.out.below ?_) hl) ?_; (focus ((repeat (first | (with_reducible refine below_set ?_ (by first | exact Nat.le_refl _ | omega) _ _) | with_reducible exact Below.refl _ _ | with_reducible refine belowA ?_ _ | with_reducible refine below_own' ?_ hb1 | with_reducible refine belowD ?_ | with_reducible refine belowN ?_ _)); done)); rintro e w2 ⟨rfl, hb2⟩; rw [← HRL.out]; have tok2 : True := trivial)
          | (go_at_call 18; refine HM.out.mono ?_; rintro e w1 ⟨rfl, hb1⟩))
        go_ret
        exact ⟨rfl, by (repeat (first | (with_reducible refine below_set ?_ (by first | exact Nat.le_refl _ | omega) _ _) | with_reducible exact Below.refl _ _ | with_reducible refine belowA ?_ _ | with_reducible refine below_own' ?_ hb6 | with_reducible refine below_own' ?_ hb5 | with_reducible refine below_own' ?_ hb4 | with_reducible refine below_own' ?_ hb3 | with_reducible refine below_own' ?_ hb2 | with_reducible refine below_own' ?_ hb1 | with_reducible refine belowD ?_ | with_reducible refine belowN ?_ _))⟩
      · have HM : Hid (Calls Tryz.prog 18 #[.slice p l.length c, .slice q m.length d] w fun e w' => ∃ sv sn cv lv, e = .returned (.tuple #[.slice sv sn cv, .int .i64 0]) ∧ sn = lv.length ∧ AtrSl w' sv lv ∧ lv.map Atr.dat = mergeD (l.map Atr.dat) (m.map Atr.dat) ∧ Below w.heap.size w w') := Lib.hid (hmg.mono fun e w' h => by
          have h2 := h.2
          rw [if_pos (by rfl), if_neg h100] at h2
          obtain ⟨v, lv, he, ho, hd⟩ := h2
          obtain ⟨sv, cv, rfl, -⟩ := own_form ho.own
          exact ⟨sv, lv.length, cv, lv, he, rfl, ho.sl, hd, h.1⟩)
        have HK := Lib.hid h100
        clear hmg hrl hrm h100
        go_enter Tryz.func4, Tryz.ntmps4
        go_wp2_with (first
          | (go_at_call 20; refine Calls.mono (awake02 _ (HG.out.below ?_)) ?_; (focus ((repeat (first | (with_reducible refine below_set ?_ (by first | exact Nat.le_refl _ | omega) _ _) | with_reducible exact Below.refl _ _ | with_reducible refine belowA ?_ _ | with_reducible refine below_own' ?_ hb5 | with_reducible refine below_own' ?_ hb4 | with_reducible refine below_own' ?_ hb3 | with_reducible refine below_own' ?_ hb2 | with_reducible refine below_own' ?_ hb1 | with_reducible refine belowD ?_ | with_reducible refine belowN ?_ _)); done)); rintro e w6 ⟨rfl, hb6⟩)
          | (go_at_call 17; refine Calls.mono (requalL_same sv sa cv sc sn n4 lv l4 _ (HSV.out.below ?_) HS4.out (HDV.out.trans HD4.out.symm) HNV.out HN4.out (by have := HNV.out; omega)) ?_; (focus ((repeat (first | (with_reducible refine below_set ?_ (by first | exact Nat.le_refl _ | omega) _ _) | with_reducible exact Below.refl _ _ | with_reducible refine belowA ?_ _ | with_reducible refine below_own' ?_ hb4 | with_reducible refine below_own' ?_ hb3 | with_reducible refine below_own' ?_ hb2 | with_reducible refine belowD ?_ | with_reducible refine belowN ?_ _)); done)); rintro e w5 ⟨rfl, hb5⟩)
          | (go_at_call 21; refine Calls.mono (rmerge_any p q c d l m _ (HS.out.below ?_) (HS2.out.below ?_) (by omega) (by omega) HRI.out) ?_; (focus ((repeat (first | (with_reducible refine below_set ?_ (by first | exact Nat.le_refl _ | omega) _ _) | with_reducible exact Below.refl _ _ | with_reducible refine belowA ?_ _ | with_reducible refine below_own' ?_ hb3 | with_reducible refine below_own' ?_ hb2 | with_reducible refine below_own' ?_ hb1 | with_reducible refine belowD ?_ | with_reducible refine belowN ?_ _)); done)); (focus ((repeat (first | (with_reducible refine below_set ?_ (by first | exact Nat.le_refl _ | omega) _ _) | with_reducible exact Below.refl _ _ | with_reducible refine belowA ?_ _ | with_reducible refine below_own' ?_ hb3 | with_reducible refine below_own' ?_ hb2 | with_reducible refine below_own' ?_ hb1 | with_reducible refine belowD ?_ | with_reducible refine belowN ?_ _)); done)); rintro e w4 ⟨sa, sc, l4, rfl, hs4, hd4, hb4⟩; obtain ⟨n4, hn4⟩ : ∃ n4, n4 = l4.length := ⟨_, rfl⟩; rw [← hn4]; have h4 : ¬ (100 : Int) < (n4 : Int) := (by have := HK.out; rw [← hd4] at this; simp at this; omega); have HS4 := Lib.hid hs4; have HD4 := Lib.hid hd4; have HN4 := Lib.hid hn4; clear hs4 hd4 hn4)
          | (have tok := tok2; clear tok tok2; go_at_call 14; refine Calls.mono (rRightList_any q d m _ (HS2.out.below ?_) hm) ?_; (focus ((repeat (first | (with_reducible refine below_set ?_ (by first | exact Nat.le_refl _ | omega) _ _) | with_reducible exact Below.refl _ _ | with_reducible refine belowA ?_ _ | with_reducible refine below_own' ?_ hb2 | with_reducible refine below_own' ?_ hb1 | with_reducible refine belowD ?_ | with_reducible refine belowN ?_ _)); done)); rintro e w3 ⟨rfl, hb3⟩; rw [← HRM.out])
          | (go_at_call 14; refine Calls.mono (rRightList_any p c l _ (HS.out.below ?_) hl) ?_; (focus ((repeat (first | (with_reducible refine below_set ?_ (by first | exact Nat.le_refl _ | omega) _ _) | with_reducible exact Below.refl _ _ | with_reducible refine belowA ?_ _ | with_reducible refine below_own' ?_ hb1 | with_reducible refine belowD ?_ | with_reducible refine belowN ?_ _)); done)); rintro e w2 ⟨rfl, hb2⟩; rw [← HRL.out]; have tok2 : True := trivial)
          | (go_at_call 18; refine HM.out.mono ?_; rintro e w1 ⟨sv, sn, cv, lv, rfl, hnv, hsv, hdv, hb1⟩; have hn200 : sn ≤ 200 := (by have := congrArg List.length hdv; simp at this; omega); have HNV := Lib.hid hnv; have HSV := Lib.hid hsv; have HDV := Lib.hid hdv; clear hnv hsv hdv))
        go_ret
        exact ⟨rfl, by (repeat (first | (with_reducible refine below_set ?_ (by first | exact Nat.le_refl _ | omega) _ _) | with_reducible exact Below.refl _ _ | with_reducible refine belowA ?_ _ | with_reducible refine below_own' ?_ hb6 | with_reducible refine below_own' ?_ hb5 | with_reducible refine below_own' ?_ hb4 | with_reducible refine below_own' ?_ hb3 | with_reducible refine below_own' ?_ hb2 | with_reducible refine below_own' ?_ hb1 | with_reducible refine belowD ?_ | with_reducible refine belowN ?_ _))⟩
end Go.Proofs.YtmepjbjmjbpchaaGreatDoor

