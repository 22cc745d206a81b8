/- AttrsChecks: a name that is in the list. -/
import Derived.Test.YtmepjbjmjbpchaaGreatDoorLwk1
namespace Go.Proofs.YtmepjbjmjbpchaaGreatDoor
open Go Go.RowKit Go.Sort
set_option linter.unusedVariables false
set_option linter.unusedSimpArgs false
set_option maxRecDepth 100000 in
set_option maxHeartbeats 32000000 in
theorem checks_C (g off : Nat) (c k n : Nat) (l : List Atr) (s : ByteArray) (w : World) (hg : Glob w) (hs : AtrSl w (some ⟨g, off, none⟩) l) (hzg : g < w.heap.size) (hc : l.length ≤ c) (hcm : c ≤ 9223372036854775807) (h0 : rightL l = true) (h1 : foundB l s = true) (hk : k = lowerB l s) (hkl : k < l.length) (hn : n = l.length) (hfull : ¬ c = k + 1) :
    Calls Tryz.prog 11 #[.slice (some ⟨g, off, none⟩) n c, .string s] w fun e w' => e = .returned (.bool true) ∧ Below w.heap.size w w' := by
  obtain ⟨i0, hin, hz0, hz1, hz2⟩ := info_parts (show (Tryz.prog.info? 27).map (fun i => (i.zero, i.size, i.bytes)) = some (some zAttr, 6, 96) by kernel_rfl)
  have hl100 := right_len h0
  obtain ⟨x, hx⟩ : ∃ x, x = l[k] := ⟨_, rfl⟩
  have HG := Lib.hid hg
  have HS := Lib.hid hs
  have HCK : Hid (∀ W, Below w.heap.size w W → Calls Tryz.prog 19 #[.slice (some ⟨g, off, none⟩) n c] W fun e w' => e = .returned (.int .i64 0) ∧ Below W.heap.size W w') := Lib.hid fun W h => by rw [hn]; exact (check_any' _ c l W (hs.below h) (by omega)).mono fun e w' h => ⟨by rw [h.1, h0]; rfl, h.2⟩
  have HGT : Hid (∀ W, Below w.heap.size w W → Calls Tryz.prog 34 #[.slice (some ⟨g, off, none⟩) n c, .string s] W fun e w' => ∃ b : Atr, e = .returned (.tuple #[b.val, .int .i64 0]) ∧ b.Lies w' ∧ b.Fits ∧ b.dat = x.dat ∧ Below W.heap.size W w') := Lib.hid fun W h => by
    rw [hn]
    refine (get_any _ c l s W (hs.below h) hc (by omega)).mono fun e w' h => ?_
    have h2 := h.2
    rw [h0, h1] at h2
    obtain ⟨b, he, hl1, hf1, hd⟩ := h2
    refine ⟨b, he, hl1, hf1, ?_, h.1⟩
    rw [← hk, List.getElem?_map, List.getElem?_eq_getElem hkl] at hd
    rw [hx]
    exact (Option.some.inj hd).symm
  have HDR : Hid (∀ W, Below w.heap.size w W → Calls Tryz.prog 35 #[.slice (some ⟨g, off, none⟩) n c, .string s] W fun e w' => ∃ sa m sc l', e = .returned (.tuple #[.slice sa m sc, .int .i64 0]) ∧ m = l'.length ∧ AtrSl w' sa l' ∧ l'.map Atr.dat = (l.map Atr.dat).eraseIdx k ∧ Below W.heap.size W w') := Lib.hid fun W h => by
    rw [hn]
    refine (drop_any _ c l s W (hs.below h) (by omega)).mono fun e w' h => ?_
    have h2 := h.2
    rw [h0, h1, ← hk] at h2
    obtain ⟨sa, sc, l', he, hs1, hd⟩ := h2
    exact ⟨sa, l'.length, sc, l', he, rfl, hs1, hd, h.1⟩
  have HRL : Hid (∀ W, Below w.heap.size w W → Calls Tryz.prog 14 #[.slice (some ⟨g, off, none⟩) n c] W fun e w' => e = .returned (.bool true) ∧ Below W.heap.size W w') := Lib.hid fun W h => by rw [hn]; exact (rRightList_any _ c l W (hs.below h) (by omega)).mono fun e w' h => ⟨by rw [h.1, h0], h.2⟩
  have HPL : Hid (∀ W, Below w.heap.size w W → Calls Tryz.prog 36 #[.slice (some ⟨g, off, none⟩) n c, .string s] W fun e w' => e = .returned (.int .i64 k) ∧ Below W.heap.size W w') := Lib.hid fun W h => by rw [hn]; exact (place_any _ c l s W (hs.below h) (by omega)).mono fun e w' h => ⟨by rw [h.1, place_yes (rises_of_right h0) h1, hk], by rw [← h.2]; exact Below.refl _ _⟩
  have HT : Hid (∀ W, Below w.heap.size w W → AtrSl W (some ⟨g, off, none⟩) (l.take k)) := Lib.hid fun W h => (hs.below h).pieces 0 k |> fun h => by simpa using h
  have HD : Hid (∀ W, Below w.heap.size w W → AtrSl W (some ⟨g, off + (k + 1) * 6, none⟩) (l.drop (k + 1))) := Lib.hid fun W h => by have := (hs.below h).pieces (k + 1) l.length; rwa [List.take_of_length_le (by rw [List.length_drop]; omega)] at this
  have HKC : Hid (∀ W, Below w.heap.size w W → AtCells W g (off + k * 6) x) := Lib.hid fun W h => by
    rw [hx]
    obtain ⟨g', off', he, -, hrow⟩ := (hs.below h).row hkl
    cases he
    exact hrow k hkl
  have HLK : Hid (∀ W, Below w.heap.size w W → x.Lies W ∧ x.Fits) := Lib.hid fun W h => by rw [hx]; exact ⟨(hs.lies _ (List.getElem_mem hkl)).below h, hs.fits _ (List.getElem_mem hkl)⟩
  have HEQ : Hid (∀ (b : Atr) (W : World), b.Lies W → b.Fits → b.dat = x.dat → Below w.heap.size w W → Calls Tryz.prog 24 #[b.val, x.val] W fun e w' => e = .returned (.bool true) ∧ Below W.heap.size W w') := Lib.hid fun b W hb hf hd hW => by
    have := requal_any b x W hb (HLK.out W hW).1 hf (HLK.out W hW).2
    rw [sameA_dat, hd] at this
    simpa using this
  have hmem : ∀ a ∈ l.take k ++ l.drop (k + 1), a ∈ l := fun a ha => by
    rcases List.mem_append.1 ha with h | h
    · exact List.mem_of_mem_take h
    · exact List.mem_of_mem_drop h
  have HLF : Hid (∀ W, Below w.heap.size w W → (∀ a ∈ l.take k ++ l.drop (k + 1), a.Lies W) ∧ ∀ a ∈ l.take k ++ l.drop (k + 1), a.Fits) := Lib.hid fun W h => ⟨fun a ha => (hs.lies a (hmem a ha)).below h, fun a ha => hs.fits a (hmem a ha)⟩
  have hkt : (l.take k).length = k := by rw [List.length_take]; omega
  have hdl : (l.drop (k + 1)).length = l.length - (k + 1) := by rw [List.length_drop]
  have HLT := Lib.hid hkt
  have HLD : Hid ((l.drop (k + 1)).length = n - (k + 1)) := Lib.hid (by rw [hdl, hn])
  have HCS : Hid ((l.take k).flatMap Atr.cells ++ (l.drop (k + 1)).flatMap Atr.cells = (l.take k ++ l.drop (k + 1)).flatMap Atr.cells) := Lib.hid (by rw [List.flatMap_append])
  have HER : Hid ((l.take k ++ l.drop (k + 1)).map Atr.dat = (l.map Atr.dat).eraseIdx k) := Lib.hid (by rw [erase_parts, map_erase])
  have HLEN : Hid (k + (n - (k + 1)) = (l.take k ++ l.drop (k + 1)).length) := Lib.hid (by rw [List.length_append, hkt, hdl, hn])
  have hk0 : (0 : Int) ≤ (k : Int) := by omega
  have hk1 : (k : Int) < (n : Int) := by omega
  have hk2 : (k : Int) + 1 ≤ (n : Int) := by omega
  have hk3 : (n : Int) ≤ (c : Int) := by omega
  have hn100 : n ≤ 100 := by omega
  have hk4 : (k : Int) ≤ (c : Int) := by omega
  have hktn : ((k : Int) + 1).toNat = k + 1 := by omega
  clear hg hs hmem hkt hdl h0 h1 hk hl100 hn hx hkl hc
  have tk0 : True := trivial
  go_enter Tryz.func11, Tryz.ntmps11
  go_wp2_with (first
    | (at_builtin; refine wpList_append_own _ rfl _ _ 22 rfl w5.heap.size 27 i0 zAttr 6 96 Tryz.underlying22 hin hz0 hz1 hz2 rfl (by decide) _ _ _ rfl (World.ownsRow_nil _ _ _ _) ⟨g, off, none⟩ (k) (c) ((l.take k).flatMap Atr.cells) rfl ?p0 ?p1 ?p2 ?p3 ?p4 ?p5 ?_)
    | (have tok := tk4; clear tok tk4; go_at_call 36; refine Calls.mono (HPL.out _ ?_) ?_; (focus ((repeat (first | (with_reducible refine below_set ?_ (by first | exact Nat.le_refl _ | omega) _ _) | with_reducible exact Below.refl _ _ | with_reducible refine belowA ?_ _ | with_reducible refine below_own' ?_ hb4 | with_reducible refine below_own' ?_ hb3 | with_reducible refine below_own' ?_ hb2 | with_reducible refine below_own' ?_ hb1 | with_reducible refine belowD ?_ | with_reducible refine belowN ?_ _)); done)); rintro e w5 ⟨rfl, hb5⟩; have c5 := fun j => (rdCell hb5 w2.heap.size (by first | exact hz4 | (simp; omega)) j).trans (c4 j); have hz5 : w2.heap.size < w5.heap.size := Nat.lt_of_lt_of_le hz4 hb5.size; clear c4; have tk5 : True := trivial)
    | (have tok := tk3; clear tok tk3; go_at_call 14; refine Calls.mono (HRL.out _ ?_) ?_; (focus ((repeat (first | (with_reducible refine below_set ?_ (by first | exact Nat.le_refl _ | omega) _ _) | with_reducible exact Below.refl _ _ | with_reducible refine belowA ?_ _ | with_reducible refine below_own' ?_ hb3 | with_reducible refine below_own' ?_ hb2 | with_reducible refine below_own' ?_ hb1 | with_reducible refine belowD ?_ | with_reducible refine belowN ?_ _)); done)); rintro e w4 ⟨rfl, hb4⟩; have c4 := fun j => (rdCell hb4 w2.heap.size (by first | exact hz3 | (simp; omega)) j).trans (c3 j); have hz4 : w2.heap.size < w4.heap.size := Nat.lt_of_lt_of_le hz3 hb4.size; clear c3; have tk4 : True := trivial)
    | (have tok := tk2; clear tok tk2; go_at_call 35; refine Calls.mono (HDR.out _ ?_) ?_; (focus ((repeat (first | (with_reducible refine below_set ?_ (by first | exact Nat.le_refl _ | omega) _ _) | with_reducible exact Below.refl _ _ | with_reducible refine belowA ?_ _ | with_reducible refine below_own' ?_ hb2 | with_reducible refine below_own' ?_ hb1 | with_reducible refine belowD ?_ | with_reducible refine belowN ?_ _)); done)); rintro e w3 ⟨sa3, n3, sc3, l3, rfl, hn3, hs3, hd3, hb3⟩; have c3 := rdCell hb3 w2.heap.size (by first | (simp; done) | (simp; omega)); have hz3 : w2.heap.size < w3.heap.size := (by have := Below.size hb3; simp at this; omega); have HN3 := Lib.hid hn3; have HS3 := Lib.hid hs3; have HD3 := Lib.hid hd3; clear hn3 hs3 hd3; have tk3 : True := trivial)
    | (have tok := tk1; clear tok tk1; go_at_call 34; refine Calls.mono (HGT.out _ ?_) ?_; (focus ((repeat (first | (with_reducible refine below_set ?_ (by first | exact Nat.le_refl _ | omega) _ _) | with_reducible exact Below.refl _ _ | with_reducible refine belowA ?_ _ | with_reducible refine below_own' ?_ hb1 | with_reducible refine belowD ?_ | with_reducible refine belowN ?_ _)); done)); rintro e w2 ⟨b2, rfl, hl2, hf2, hd2, hb2⟩; have HL2 := Lib.hid hl2; have HF2 := Lib.hid hf2; have HD2 := Lib.hid hd2; clear hl2 hf2 hd2; have tk2 : True := trivial)
    | (have tok := tk0; clear tok tk0; go_at_call 19; refine Calls.mono (HCK.out _ ?_) ?_; (focus ((repeat (first | (with_reducible refine below_set ?_ (by first | exact Nat.le_refl _ | omega) _ _) | with_reducible exact Below.refl _ _ | with_reducible refine belowA ?_ _ | with_reducible refine belowD ?_ | with_reducible refine belowN ?_ _)); done)); rintro e w1 ⟨rfl, hb1⟩; have tk1 : True := trivial))
  case p0 => rw [six_len, HLT.out]
  case p1 => exact sl_news (HT.out _ (by (repeat (first | (with_reducible refine below_set ?_ (by first | exact Nat.le_refl _ | omega) _ _) | with_reducible exact Below.refl _ _ | with_reducible refine belowA ?_ _ | with_reducible refine below_own' ?_ hb5 | with_reducible refine below_own' ?_ hb4 | with_reducible refine below_own' ?_ hb3 | with_reducible refine below_own' ?_ hb2 | with_reducible refine below_own' ?_ hb1 | with_reducible refine belowD ?_ | with_reducible refine belowN ?_ _))))
  case p2 => exact cells_one
  case p3 => unfold maxLen; omega
  case p4 => omega
  case p5 => exact Nat.le_refl _
  intro v6 w6 hown6 hgr6 _
  try simp only [Nat.zero_add, List.nil_append] at hown6
  obtain ⟨sa6, sc6, rfl, -⟩ := own_form hown6
  have HB56 : Hid (Below w5.heap.size w5 w6) := Lib.hid ((Below.refl _ _).grown hgr6 (Nat.le_refl _) (fun j hj => by cases hj))
  have HB25 : Hid (Below (w2.alloc (.cells (avCells b2.name b2.kind b2.num b2.text b2.ia b2.ints.length b2.ic b2.ta b2.texts.length b2.tc) 27)).heap.size (w2.alloc (.cells (avCells b2.name b2.kind b2.num b2.text b2.ia b2.ints.length b2.ic b2.ta b2.texts.length b2.tc) 27)) w5) := Lib.hid (below_own' (below_own' hb3 hb4) hb5)
  have HB5 : Hid (Below w.heap.size w w5) := Lib.hid (by (repeat (first | (with_reducible refine below_set ?_ (by first | exact Nat.le_refl _ | omega) _ _) | with_reducible exact Below.refl _ _ | with_reducible refine belowA ?_ _ | with_reducible refine below_own' ?_ hb5 | with_reducible refine below_own' ?_ hb4 | with_reducible refine below_own' ?_ hb3 | with_reducible refine below_own' ?_ hb2 | with_reducible refine below_own' ?_ hb1 | with_reducible refine belowD ?_ | with_reducible refine belowN ?_ _)))
  have HB6 : Hid (Below w.heap.size w w6) := Lib.hid (below_own' HB5.out HB56.out)
  have HO6 := Lib.hid hown6
  have HL25 : Hid (b2.Lies w5) := Lib.hid (HL2.out.below (by have h := HB25.out; (repeat (first | (with_reducible refine below_set ?_ (by first | exact Nat.le_refl _ | omega) _ _) | with_reducible exact Below.refl _ _ | with_reducible refine belowA ?_ _ | with_reducible refine below_own' ?_ h | with_reducible refine belowD ?_ | with_reducible refine belowN ?_ _))))
  have HS35 : Hid (AtrSl w5 sa3 l3) := Lib.hid (HS3.out.below (below_own' hb4 hb5))
  clear hown6 hgr6 hb1 hb2 hb3 hb4 hb5 c5 hz5 hz3 hz4 HL2 HS3
  go_wp2_with (at_builtin; refine wpList_append_own _ rfl _ _ 22 rfl w5.heap.size 27 i0 zAttr 6 96 Tryz.underlying22 hin hz0 hz1 hz2 rfl (by decide) _ _ _ rfl (HO6.out) ⟨g, off + (k + 1) * 6, none⟩ (n - (k + 1)) (c - (k + 1)) ((l.drop (k + 1)).flatMap Atr.cells) rfl ?q0 ?q1 ?q2 ?q3 ?q4 ?q5 ?_)
  case q0 => rw [six_len, HLD.out]
  case q1 => exact sl_news (HD.out _ HB6.out)
  case q2 => exact cells_one
  case q3 => unfold maxLen; omega
  case q4 => omega
  case q5 => exact HB56.out.size
  intro v7 w7 hown7 hgr7 _
  have HO7 : Hid (w7.ownsRow w5.heap.size 27 6 v7 (k + (n - (k + 1))) ((l.take k ++ l.drop (k + 1)).flatMap Atr.cells)) := Lib.hid (by rw [← HCS.out]; exact hown7)
  have HN7 : Hid (k + (n - (k + 1)) = (l.take k ++ l.drop (k + 1)).length) := HLEN
  obtain ⟨sa7, sc7, rfl, -⟩ := own_form HO7.out
  have HB57 : Hid (Below w5.heap.size w5 w7) := Lib.hid (HB56.out.grown hgr7 HB56.out.size (fun j hj => (HO6.out.lt j hj).1))
  have HB7 : Hid (Below w.heap.size w w7) := Lib.hid (below_own' HB5.out HB57.out)
  have HB27 := Lib.hid (below_own' HB25.out HB57.out)
  have HS77 : Hid (AtrSl w7 sa7 (l.take k ++ l.drop (k + 1))) := Lib.hid (sl_of_own HO7.out HN7.out (HLF.out _ HB7.out).1 (HLF.out _ HB7.out).2)
  have HL27 := Lib.hid (HL25.out.below HB57.out)
  have HS37 := Lib.hid (HS35.out.below HB57.out)
  have qc := fun j => (rdCell HB27.out w2.heap.size (by simp) j).trans (blkCell (heap_alloc_new w2 _) j)
  have q0 := qc 0
  have q1 := qc 1
  have q2 := qc 2
  have q3 := qc 3
  have q4 := qc 4
  have q5 := qc 5
  simp only [List.getElem?_toArray, List.getElem?_cons_zero, List.getElem?_cons_succ] at q0 q1 q2 q3 q4 q5
  obtain ⟨k0, k1, k2, k3, k4, k5⟩ := HKC.out _ HB7.out
  have hz2 : w2.heap.size < w7.heap.size := by have := HB27.out.size; simp at this; omega
  have hzg7 : g < w7.heap.size := Nat.lt_of_lt_of_le hzg HB7.out.size
  have HKX : Hid (∀ W, Below w7.heap.size w7 W → Calls Tryz.prog 17 #[.slice sa3 n3 sc3, .slice sa7 (k + (n - (k + 1))) sc7] W fun e w' => e = .returned (.bool true) ∧ Below W.heap.size W w') := Lib.hid fun W h => requalL_same sa3 sa7 sc3 sc7 n3 (k + (n - (k + 1))) l3 _ W (HS37.out.below h) (HS77.out.below h) (HD3.out.trans HER.out.symm) HN3.out HN7.out (by have := HN3.out; have h2 := congrArg List.length (HD3.out.trans HER.out.symm); rw [List.length_map, List.length_map, ← HN7.out] at h2; omega)
  clear qc hgr7 hown7 HB5 HB6 HO6 HB56 HB25 HL25 HS35 HO7 HCS
  go_wp2_with fail
  go_region_held3 (fun w' => w'.cell? ⟨w2.heap.size, 0, none⟩ = some (.string b2.name) ∧ w'.cell? ⟨w2.heap.size, 1, none⟩ = some (.int .i64 b2.kind) ∧ w'.cell? ⟨w2.heap.size, 2, none⟩ = some (.int .i64 b2.num) ∧ w'.cell? ⟨w2.heap.size, 3, none⟩ = some (.string b2.text) ∧ w'.cell? ⟨w2.heap.size, 4, none⟩ = some (.slice b2.ia b2.ints.length b2.ic) ∧ w'.cell? ⟨w2.heap.size, 5, none⟩ = some (.slice b2.ta b2.texts.length b2.tc) ∧ w'.cell? ⟨g, off + k * 6, none⟩ = some (.string x.name) ∧ w'.cell? ⟨g, off + k * 6 + 1, none⟩ = some (.int .i64 x.kind) ∧ w'.cell? ⟨g, off + k * 6 + 2, none⟩ = some (.int .i64 x.num) ∧ w'.cell? ⟨g, off + k * 6 + 3, none⟩ = some (.string x.text) ∧ w'.cell? ⟨g, off + k * 6 + 4, none⟩ = some (.slice x.ia x.ints.length x.ic) ∧ w'.cell? ⟨g, off + k * 6 + 5, none⟩ = some (.slice x.ta x.texts.length x.tc)) (go_keep)
    ((first
      | (go_at_call 20; refine Calls.mono (awake02 _ (HG.out.below ?_)) ?_; (focus ((repeat (first | (with_reducible refine below_set ?_ (by first | exact Nat.le_refl _ | omega) _ _) | with_reducible exact Below.refl _ _ | with_reducible refine belowA ?_ _ | with_reducible refine below_own' ?_ hb9 | with_reducible refine below_own' ?_ hb8 | with_reducible refine below_own' ?_ HB7.out | with_reducible refine belowD ?_ | with_reducible refine belowN ?_ _)); done)); rintro e w10 ⟨rfl, hb10⟩; have c10 := fun j => (rdCell hb10 w2.heap.size hz9 j).trans (c9 j); have d10 := fun j => (rdCell hb10 g hg9 j).trans (d9 j); clear c9 d9)
      | (go_at_call 17; refine Calls.mono (HKX.out _ ?_) ?_; (focus ((repeat (first | (with_reducible refine below_set ?_ (by first | exact Nat.le_refl _ | omega) _ _) | with_reducible exact Below.refl _ _ | with_reducible refine belowA ?_ _ | with_reducible refine below_own' ?_ hb8 | with_reducible refine belowD ?_ | with_reducible refine belowN ?_ _)); done)); rintro e w9 ⟨rfl, hb9⟩; have c9 := fun j => (rdCell hb9 w2.heap.size hz8 j).trans (c8 j); have d9 := fun j => (rdCell hb9 g hg8 j).trans (d8 j); have hz9 := Nat.lt_of_lt_of_le hz8 hb9.size; have hg9 := Nat.lt_of_lt_of_le hg8 hb9.size; clear c8 d8)
      | (go_at_call 24; refine Calls.mono (HEQ.out b2 _ (HL27.out.below ?_) HF2.out HD2.out ?_) ?_; (focus ((repeat (first | (with_reducible refine below_set ?_ (by first | exact Nat.le_refl _ | omega) _ _) | with_reducible exact Below.refl _ _ | with_reducible refine belowA ?_ _ | with_reducible refine belowD ?_ | with_reducible refine belowN ?_ _)); done)); (focus ((repeat (first | (with_reducible refine below_set ?_ (by first | exact Nat.le_refl _ | omega) _ _) | with_reducible exact Below.refl _ _ | with_reducible refine belowA ?_ _ | with_reducible refine below_own' ?_ HB7.out | with_reducible refine belowD ?_ | with_reducible refine belowN ?_ _)); done)); rintro e w8 ⟨rfl, hb8⟩; have c8 := rdCell hb8 w2.heap.size (by first | (simp; done) | (simp; omega)); have d8 := rdCell hb8 g (by first | (simp; done) | (simp; omega)); have hz8 := Nat.lt_of_lt_of_le hz2 hb8.size; have hg8 := Nat.lt_of_lt_of_le hzg7 hb8.size)))
  go_wp2_with fail
  go_ret
  exact ⟨rfl, by (repeat (first | (with_reducible refine below_set ?_ (by first | exact Nat.le_refl _ | omega) _ _) | with_reducible exact Below.refl _ _ | with_reducible refine belowA ?_ _ | with_reducible refine below_own' ?_ hb10 | with_reducible refine below_own' ?_ hb9 | with_reducible refine below_own' ?_ hb8 | with_reducible refine below_own' ?_ HB7.out | with_reducible refine belowD ?_ | with_reducible refine belowN ?_ _))⟩
set_option maxRecDepth 100000 in
set_option maxHeartbeats 32000000 in
theorem checks_D (g off : Nat) (c k n : Nat) (l : List Atr) (s : ByteArray) (w : World) (hg : Glob w) (hs : AtrSl w (some ⟨g, off, none⟩) l) (hzg : g < w.heap.size) (hc : l.length ≤ c) (hcm : c ≤ 9223372036854775807) (h0 : rightL l = true) (h1 : foundB l s = true) (hk : k = lowerB l s) (hkl : k < l.length) (hn : n = l.length) (hfull : k + 1 = n ∧ k + 1 = c) :
    Calls Tryz.prog 11 #[.slice (some ⟨g, off, none⟩) n c, .string s] w fun e w' => e = .returned (.bool true) ∧ Below w.heap.size w w' := by
  obtain ⟨i0, hin, hz0, hz1, hz2⟩ := info_parts (show (Tryz.prog.info? 27).map (fun i => (i.zero, i.size, i.bytes)) = some (some zAttr, 6, 96) by kernel_rfl)
  have hl100 := right_len h0
  obtain ⟨x, hx⟩ : ∃ x, x = l[k] := ⟨_, rfl⟩
  have HG := Lib.hid hg
  have HS := Lib.hid hs
  have HCK : Hid (∀ W, Below w.heap.size w W → Calls Tryz.prog 19 #[.slice (some ⟨g, off, none⟩) n c] W fun e w' => e = .returned (.int .i64 0) ∧ Below W.heap.size W w') := Lib.hid fun W h => by rw [hn]; exact (check_any' _ c l W (hs.below h) (by omega)).mono fun e w' h => ⟨by rw [h.1, h0]; rfl, h.2⟩
  have HGT : Hid (∀ W, Below w.heap.size w W → Calls Tryz.prog 34 #[.slice (some ⟨g, off, none⟩) n c, .string s] W fun e w' => ∃ b : Atr, e = .returned (.tuple #[b.val, .int .i64 0]) ∧ b.Lies w' ∧ b.Fits ∧ b.dat = x.dat ∧ Below W.heap.size W w') := Lib.hid fun W h => by
    rw [hn]
    refine (get_any _ c l s W (hs.below h) hc (by omega)).mono fun e w' h => ?_
    have h2 := h.2
    rw [h0, h1] at h2
    obtain ⟨b, he, hl1, hf1, hd⟩ := h2
    refine ⟨b, he, hl1, hf1, ?_, h.1⟩
    rw [← hk, List.getElem?_map, List.getElem?_eq_getElem hkl] at hd
    rw [hx]
    exact (Option.some.inj hd).symm
  have HDR : Hid (∀ W, Below w.heap.size w W → Calls Tryz.prog 35 #[.slice (some ⟨g, off, none⟩) n c, .string s] W fun e w' => ∃ sa m sc l', e = .returned (.tuple #[.slice sa m sc, .int .i64 0]) ∧ m = l'.length ∧ AtrSl w' sa l' ∧ l'.map Atr.dat = (l.map Atr.dat).eraseIdx k ∧ Below W.heap.size W w') := Lib.hid fun W h => by
    rw [hn]
    refine (drop_any _ c l s W (hs.below h) (by omega)).mono fun e w' h => ?_
    have h2 := h.2
    rw [h0, h1, ← hk] at h2
    obtain ⟨sa, sc, l', he, hs1, hd⟩ := h2
    exact ⟨sa, l'.length, sc, l', he, rfl, hs1, hd, h.1⟩
  have HRL : Hid (∀ W, Below w.heap.size w W → Calls Tryz.prog 14 #[.slice (some ⟨g, off, none⟩) n c] W fun e w' => e = .returned (.bool true) ∧ Below W.heap.size W w') := Lib.hid fun W h => by rw [hn]; exact (rRightList_any _ c l W (hs.below h) (by omega)).mono fun e w' h => ⟨by rw [h.1, h0], h.2⟩
  have HPL : Hid (∀ W, Below w.heap.size w W → Calls Tryz.prog 36 #[.slice (some ⟨g, off, none⟩) n c, .string s] W fun e w' => e = .returned (.int .i64 k) ∧ Below W.heap.size W w') := Lib.hid fun W h => by rw [hn]; exact (place_any _ c l s W (hs.below h) (by omega)).mono fun e w' h => ⟨by rw [h.1, place_yes (rises_of_right h0) h1, hk], by rw [← h.2]; exact Below.refl _ _⟩
  have HT : Hid (∀ W, Below w.heap.size w W → AtrSl W (some ⟨g, off, none⟩) (l.take k)) := Lib.hid fun W h => (hs.below h).pieces 0 k |> fun h => by simpa using h
  have HD : Hid (∀ W, Below w.heap.size w W → AtrSl W (some ⟨g, off + (k + 1) * 6, none⟩) (l.drop (k + 1))) := Lib.hid fun W h => by have := (hs.below h).pieces (k + 1) l.length; rwa [List.take_of_length_le (by rw [List.length_drop]; omega)] at this
  have HKC : Hid (∀ W, Below w.heap.size w W → AtCells W g (off + k * 6) x) := Lib.hid fun W h => by
    rw [hx]
    obtain ⟨g', off', he, -, hrow⟩ := (hs.below h).row hkl
    cases he
    exact hrow k hkl
  have HLK : Hid (∀ W, Below w.heap.size w W → x.Lies W ∧ x.Fits) := Lib.hid fun W h => by rw [hx]; exact ⟨(hs.lies _ (List.getElem_mem hkl)).below h, hs.fits _ (List.getElem_mem hkl)⟩
  have HEQ : Hid (∀ (b : Atr) (W : World), b.Lies W → b.Fits → b.dat = x.dat → Below w.heap.size w W → Calls Tryz.prog 24 #[b.val, x.val] W fun e w' => e = .returned (.bool true) ∧ Below W.heap.size W w') := Lib.hid fun b W hb hf hd hW => by
    have := requal_any b x W hb (HLK.out W hW).1 hf (HLK.out W hW).2
    rw [sameA_dat, hd] at this
    simpa using this
  have hmem : ∀ a ∈ l.take k ++ l.drop (k + 1), a ∈ l := fun a ha => by
    rcases List.mem_append.1 ha with h | h
    · exact List.mem_of_mem_take h
    · exact List.mem_of_mem_drop h
  have HLF : Hid (∀ W, Below w.heap.size w W → (∀ a ∈ l.take k ++ l.drop (k + 1), a.Lies W) ∧ ∀ a ∈ l.take k ++ l.drop (k + 1), a.Fits) := Lib.hid fun W h => ⟨fun a ha => (hs.lies a (hmem a ha)).below h, fun a ha => hs.fits a (hmem a ha)⟩
  have hkt : (l.take k).length = k := by rw [List.length_take]; omega
  have hdl : (l.drop (k + 1)).length = l.length - (k + 1) := by rw [List.length_drop]
  have HLT := Lib.hid hkt
  have HLD : Hid ((l.drop (k + 1)).length = n - (k + 1)) := Lib.hid (by rw [hdl, hn])
  have HCS : Hid ((l.take k).flatMap Atr.cells ++ (l.drop (k + 1)).flatMap Atr.cells = (l.take k ++ l.drop (k + 1)).flatMap Atr.cells) := Lib.hid (by rw [List.flatMap_append])
  have HER : Hid ((l.take k ++ l.drop (k + 1)).map Atr.dat = (l.map Atr.dat).eraseIdx k) := Lib.hid (by rw [erase_parts, map_erase])
  have HLEN : Hid (k + (n - (k + 1)) = (l.take k ++ l.drop (k + 1)).length) := Lib.hid (by rw [List.length_append, hkt, hdl, hn])
  have hk0 : (0 : Int) ≤ (k : Int) := by omega
  have hk1 : (k : Int) < (n : Int) := by omega
  have hk2 : (k : Int) + 1 ≤ (n : Int) := by omega
  have hk3 : (n : Int) ≤ (c : Int) := by omega
  have hn100 : n ≤ 100 := by omega
  have hk4 : (k : Int) ≤ (c : Int) := by omega
  have hktn : ((k : Int) + 1).toNat = k + 1 := by omega
  clear hg hs hmem hkt hdl h0 h1 hk hl100 hn hx hkl hc
  obtain ⟨rfl, rfl⟩ := hfull
  have hk9 : (k : Int) < (k : Int) + 1 := by omega
  have tk0 : True := trivial
  go_enter Tryz.func11, Tryz.ntmps11
  go_wp2_with (first
    | (at_builtin; refine wpList_append_own _ rfl _ _ 22 rfl w5.heap.size 27 i0 zAttr 6 96 Tryz.underlying22 hin hz0 hz1 hz2 rfl (by decide) _ _ _ rfl (World.ownsRow_nil _ _ _ _) ⟨g, off, none⟩ (k) (k + 1) ((l.take k).flatMap Atr.cells) rfl ?p0 ?p1 ?p2 ?p3 ?p4 ?p5 ?_)
    | (have tok := tk4; clear tok tk4; go_at_call 36; refine Calls.mono (HPL.out _ ?_) ?_; (focus ((repeat (first | (with_reducible refine below_set ?_ (by first | exact Nat.le_refl _ | omega) _ _) | with_reducible exact Below.refl _ _ | with_reducible refine belowA ?_ _ | with_reducible refine below_own' ?_ hb4 | with_reducible refine below_own' ?_ hb3 | with_reducible refine below_own' ?_ hb2 | with_reducible refine below_own' ?_ hb1 | with_reducible refine belowD ?_ | with_reducible refine belowN ?_ _)); done)); rintro e w5 ⟨rfl, hb5⟩; have c5 := fun j => (rdCell hb5 w2.heap.size (by first | exact hz4 | (simp; omega)) j).trans (c4 j); have hz5 : w2.heap.size < w5.heap.size := Nat.lt_of_lt_of_le hz4 hb5.size; clear c4; have tk5 : True := trivial)
    | (have tok := tk3; clear tok tk3; go_at_call 14; refine Calls.mono (HRL.out _ ?_) ?_; (focus ((repeat (first | (with_reducible refine below_set ?_ (by first | exact Nat.le_refl _ | omega) _ _) | with_reducible exact Below.refl _ _ | with_reducible refine belowA ?_ _ | with_reducible refine below_own' ?_ hb3 | with_reducible refine below_own' ?_ hb2 | with_reducible refine below_own' ?_ hb1 | with_reducible refine belowD ?_ | with_reducible refine belowN ?_ _)); done)); rintro e w4 ⟨rfl, hb4⟩; have c4 := fun j => (rdCell hb4 w2.heap.size (by first | exact hz3 | (simp; omega)) j).trans (c3 j); have hz4 : w2.heap.size < w4.heap.size := Nat.lt_of_lt_of_le hz3 hb4.size; clear c3; have tk4 : True := trivial)
    | (have tok := tk2; clear tok tk2; go_at_call 35; refine Calls.mono (HDR.out _ ?_) ?_; (focus ((repeat (first | (with_reducible refine below_set ?_ (by first | exact Nat.le_refl _ | omega) _ _) | with_reducible exact Below.refl _ _ | with_reducible refine belowA ?_ _ | with_reducible refine below_own' ?_ hb2 | with_reducible refine below_own' ?_ hb1 | with_reducible refine belowD ?_ | with_reducible refine belowN ?_ _)); done)); rintro e w3 ⟨sa3, n3, sc3, l3, rfl, hn3, hs3, hd3, hb3⟩; have c3 := rdCell hb3 w2.heap.size (by first | (simp; done) | (simp; omega)); have hz3 : w2.heap.size < w3.heap.size := (by have := Below.size hb3; simp at this; omega); have HN3 := Lib.hid hn3; have HS3 := Lib.hid hs3; have HD3 := Lib.hid hd3; clear hn3 hs3 hd3; have tk3 : True := trivial)
    | (have tok := tk1; clear tok tk1; go_at_call 34; refine Calls.mono (HGT.out _ ?_) ?_; (focus ((repeat (first | (with_reducible refine below_set ?_ (by first | exact Nat.le_refl _ | omega) _ _) | with_reducible exact Below.refl _ _ | with_reducible refine belowA ?_ _ | with_reducible refine below_own' ?_ hb1 | with_reducible refine belowD ?_ | with_reducible refine belowN ?_ _)); done)); rintro e w2 ⟨b2, rfl, hl2, hf2, hd2, hb2⟩; have HL2 := Lib.hid hl2; have HF2 := Lib.hid hf2; have HD2 := Lib.hid hd2; clear hl2 hf2 hd2; have tk2 : True := trivial)
    | (have tok := tk0; clear tok tk0; go_at_call 19; refine Calls.mono (HCK.out _ ?_) ?_; (focus ((repeat (first | (with_reducible refine below_set ?_ (by first | exact Nat.le_refl _ | omega) _ _) | with_reducible exact Below.refl _ _ | with_reducible refine belowA ?_ _ | with_reducible refine belowD ?_ | with_reducible refine belowN ?_ _)); done)); rintro e w1 ⟨rfl, hb1⟩; have tk1 : True := trivial))
  case p0 => rw [six_len, HLT.out]
  case p1 => exact sl_news (HT.out _ (by (repeat (first | (with_reducible refine below_set ?_ (by first | exact Nat.le_refl _ | omega) _ _) | with_reducible exact Below.refl _ _ | with_reducible refine belowA ?_ _ | with_reducible refine below_own' ?_ hb5 | with_reducible refine below_own' ?_ hb4 | with_reducible refine below_own' ?_ hb3 | with_reducible refine below_own' ?_ hb2 | with_reducible refine below_own' ?_ hb1 | with_reducible refine belowD ?_ | with_reducible refine belowN ?_ _))))
  case p2 => exact cells_one
  case p3 => unfold maxLen; omega
  case p4 => omega
  case p5 => exact Nat.le_refl _
  intro v6 w6 hown6 hgr6 _
  try simp only [Nat.zero_add, List.nil_append] at hown6
  obtain ⟨sa6, sc6, rfl, -⟩ := own_form hown6
  have HB56 : Hid (Below w5.heap.size w5 w6) := Lib.hid ((Below.refl _ _).grown hgr6 (Nat.le_refl _) (fun j hj => by cases hj))
  have HB25 : Hid (Below (w2.alloc (.cells (avCells b2.name b2.kind b2.num b2.text b2.ia b2.ints.length b2.ic b2.ta b2.texts.length b2.tc) 27)).heap.size (w2.alloc (.cells (avCells b2.name b2.kind b2.num b2.text b2.ia b2.ints.length b2.ic b2.ta b2.texts.length b2.tc) 27)) w5) := Lib.hid (below_own' (below_own' hb3 hb4) hb5)
  have HB5 : Hid (Below w.heap.size w w5) := Lib.hid (by (repeat (first | (with_reducible refine below_set ?_ (by first | exact Nat.le_refl _ | omega) _ _) | with_reducible exact Below.refl _ _ | with_reducible refine belowA ?_ _ | with_reducible refine below_own' ?_ hb5 | with_reducible refine below_own' ?_ hb4 | with_reducible refine below_own' ?_ hb3 | with_reducible refine below_own' ?_ hb2 | with_reducible refine below_own' ?_ hb1 | with_reducible refine belowD ?_ | with_reducible refine belowN ?_ _)))
  have HB6 : Hid (Below w.heap.size w w6) := Lib.hid (below_own' HB5.out HB56.out)
  have HO6 := Lib.hid hown6
  have HL25 : Hid (b2.Lies w5) := Lib.hid (HL2.out.below (by have h := HB25.out; (repeat (first | (with_reducible refine below_set ?_ (by first | exact Nat.le_refl _ | omega) _ _) | with_reducible exact Below.refl _ _ | with_reducible refine belowA ?_ _ | with_reducible refine below_own' ?_ h | with_reducible refine belowD ?_ | with_reducible refine belowN ?_ _))))
  have HS35 : Hid (AtrSl w5 sa3 l3) := Lib.hid (HS3.out.below (below_own' hb4 hb5))
  clear hown6 hgr6 hb1 hb2 hb3 hb4 hb5 c5 hz5 hz3 hz4 HL2 HS3
  go_wp2_with (at_builtin; refine wpList_append_own _ rfl _ _ 22 rfl w5.heap.size 27 i0 zAttr 6 96 Tryz.underlying22 hin hz0 hz1 hz2 rfl (by decide) _ _ _ rfl (HO6.out) ⟨g, off, none⟩ (0) (0) ([]) rfl ?q0 ?q1 ?q2 ?q3 ?q4 ?q5 ?_)
  case q0 => rfl
  case q1 => intro t u h; simp at h
  case q2 => simp
  case q3 => unfold maxLen; omega
  case q4 => omega
  case q5 => exact HB56.out.size
  intro v7 w7 hown7 hgr7 _
  try simp only [Nat.add_zero, List.append_nil] at hown7
  have hdrop : l.drop (k + 1) = [] := List.eq_nil_of_length_eq_zero (by rw [HLD.out]; omega)
  have HO7 : Hid (w7.ownsRow w5.heap.size 27 6 v7 (k) ((l.take k ++ l.drop (k + 1)).flatMap Atr.cells)) := Lib.hid (by rw [hdrop, List.append_nil]; exact hown7)
  have HN7 : Hid (k = (l.take k ++ l.drop (k + 1)).length) := Lib.hid (by rw [hdrop, List.append_nil, HLT.out])
  clear hdrop
  obtain ⟨sa7, sc7, rfl, -⟩ := own_form HO7.out
  have HB57 : Hid (Below w5.heap.size w5 w7) := Lib.hid (HB56.out.grown hgr7 HB56.out.size (fun j hj => (HO6.out.lt j hj).1))
  have HB7 : Hid (Below w.heap.size w w7) := Lib.hid (below_own' HB5.out HB57.out)
  have HB27 := Lib.hid (below_own' HB25.out HB57.out)
  have HS77 : Hid (AtrSl w7 sa7 (l.take k ++ l.drop (k + 1))) := Lib.hid (sl_of_own HO7.out HN7.out (HLF.out _ HB7.out).1 (HLF.out _ HB7.out).2)
  have HL27 := Lib.hid (HL25.out.below HB57.out)
  have HS37 := Lib.hid (HS35.out.below HB57.out)
  have qc := fun j => (rdCell HB27.out w2.heap.size (by simp) j).trans (blkCell (heap_alloc_new w2 _) j)
  have q0 := qc 0
  have q1 := qc 1
  have q2 := qc 2
  have q3 := qc 3
  have q4 := qc 4
  have q5 := qc 5
  simp only [List.getElem?_toArray, List.getElem?_cons_zero, List.getElem?_cons_succ] at q0 q1 q2 q3 q4 q5
  obtain ⟨k0, k1, k2, k3, k4, k5⟩ := HKC.out _ HB7.out
  have hz2 : w2.heap.size < w7.heap.size := by have := HB27.out.size; simp at this; omega
  have hzg7 : g < w7.heap.size := Nat.lt_of_lt_of_le hzg HB7.out.size
  have HKX : Hid (∀ W, Below w7.heap.size w7 W → Calls Tryz.prog 17 #[.slice sa3 n3 sc3, .slice sa7 (k) sc7] W fun e w' => e = .returned (.bool true) ∧ Below W.heap.size W w') := Lib.hid fun W h => requalL_same sa3 sa7 sc3 sc7 n3 (k) l3 _ W (HS37.out.below h) (HS77.out.below h) (HD3.out.trans HER.out.symm) HN3.out HN7.out (by have := HN3.out; have h2 := congrArg List.length (HD3.out.trans HER.out.symm); rw [List.length_map, List.length_map, ← HN7.out] at h2; omega)
  clear qc hgr7 hown7 HB5 HB6 HO6 HB56 HB25 HL25 HS35 HO7 HCS
  go_wp2_with fail
  go_region_held3 (fun w' => w'.cell? ⟨w2.heap.size, 0, none⟩ = some (.string b2.name) ∧ w'.cell? ⟨w2.heap.size, 1, none⟩ = some (.int .i64 b2.kind) ∧ w'.cell? ⟨w2.heap.size, 2, none⟩ = some (.int .i64 b2.num) ∧ w'.cell? ⟨w2.heap.size, 3, none⟩ = some (.string b2.text) ∧ w'.cell? ⟨w2.heap.size, 4, none⟩ = some (.slice b2.ia b2.ints.length b2.ic) ∧ w'.cell? ⟨w2.heap.size, 5, none⟩ = some (.slice b2.ta b2.texts.length b2.tc) ∧ w'.cell? ⟨g, off + k * 6, none⟩ = some (.string x.name) ∧ w'.cell? ⟨g, off + k * 6 + 1, none⟩ = some (.int .i64 x.kind) ∧ w'.cell? ⟨g, off + k * 6 + 2, none⟩ = some (.int .i64 x.num) ∧ w'.cell? ⟨g, off + k * 6 + 3, none⟩ = some (.string x.text) ∧ w'.cell? ⟨g, off + k * 6 + 4, none⟩ = some (.slice x.ia x.ints.length x.ic) ∧ w'.cell? ⟨g, off + k * 6 + 5, none⟩ = some (.slice x.ta x.texts.length x.tc)) (go_keep)
    ((first
      | (go_at_call 20; refine Calls.mono (awake02 _ (HG.out.below ?_)) ?_; (focus ((repeat (first | (with_reducible refine below_set ?_ (by first | exact Nat.le_refl _ | omega) _ _) | with_reducible exact Below.refl _ _ | with_reducible refine belowA ?_ _ | with_reducible refine below_own' ?_ hb9 | with_reducible refine below_own' ?_ hb8 | with_reducible refine below_own' ?_ HB7.out | with_reducible refine belowD ?_ | with_reducible refine belowN ?_ _)); done)); rintro e w10 ⟨rfl, hb10⟩; have c10 := fun j => (rdCell hb10 w2.heap.size hz9 j).trans (c9 j); have d10 := fun j => (rdCell hb10 g hg9 j).trans (d9 j); clear c9 d9)
      | (go_at_call 17; refine Calls.mono (HKX.out _ ?_) ?_; (focus ((repeat (first | (with_reducible refine below_set ?_ (by first | exact Nat.le_refl _ | omega) _ _) | with_reducible exact Below.refl _ _ | with_reducible refine belowA ?_ _ | with_reducible refine below_own' ?_ hb8 | with_reducible refine belowD ?_ | with_reducible refine belowN ?_ _)); done)); rintro e w9 ⟨rfl, hb9⟩; have c9 := fun j => (rdCell hb9 w2.heap.size hz8 j).trans (c8 j); have d9 := fun j => (rdCell hb9 g hg8 j).trans (d8 j); have hz9 := Nat.lt_of_lt_of_le hz8 hb9.size; have hg9 := Nat.lt_of_lt_of_le hg8 hb9.size; clear c8 d8)
      | (go_at_call 24; refine Calls.mono (HEQ.out b2 _ (HL27.out.below ?_) HF2.out HD2.out ?_) ?_; (focus ((repeat (first | (with_reducible refine below_set ?_ (by first | exact Nat.le_refl _ | omega) _ _) | with_reducible exact Below.refl _ _ | with_reducible refine belowA ?_ _ | with_reducible refine belowD ?_ | with_reducible refine belowN ?_ _)); done)); (focus ((repeat (first | (with_reducible refine below_set ?_ (by first | exact Nat.le_refl _ | omega) _ _) | with_reducible exact Below.refl _ _ | with_reducible refine belowA ?_ _ | with_reducible refine below_own' ?_ HB7.out | with_reducible refine belowD ?_ | with_reducible refine belowN ?_ _)); done)); rintro e w8 ⟨rfl, hb8⟩; have c8 := rdCell hb8 w2.heap.size (by first | (simp; done) | (simp; omega)); have d8 := rdCell hb8 g (by first | (simp; done) | (simp; omega)); have hz8 := Nat.lt_of_lt_of_le hz2 hb8.size; have hg8 := Nat.lt_of_lt_of_le hzg7 hb8.size)))
  go_wp2_with fail
  go_ret
  exact ⟨rfl, by (repeat (first | (with_reducible refine below_set ?_ (by first | exact Nat.le_refl _ | omega) _ _) | with_reducible exact Below.refl _ _ | with_reducible refine belowA ?_ _ | with_reducible refine below_own' ?_ hb10 | with_reducible refine below_own' ?_ hb9 | with_reducible refine below_own' ?_ hb8 | with_reducible refine below_own' ?_ HB7.out | with_reducible refine belowD ?_ | with_reducible refine belowN ?_ _))⟩

end Go.Proofs.YtmepjbjmjbpchaaGreatDoor

