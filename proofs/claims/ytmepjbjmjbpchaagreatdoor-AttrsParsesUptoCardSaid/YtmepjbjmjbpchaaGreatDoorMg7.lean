/- Texts of this claim, laid together: Rf9, Ar0, Ar1, InvT. -/
import Derived.Test.YtmepjbjmjbpchaaGreatDoorMg1
import Derived.Test.YtmepjbjmjbpchaaGreatDoorMg5
import Derived.Test.YtmepjbjmjbpchaaGreatDoorMg6
section
/- The reference of types: Read at any string; Is, IsNumber, Bits, Shaped. -/
namespace Go.Proofs.YtmepjbjmjbpchaaGreatDoor
open Go Go.RowKit Go.Sort
set_option linter.unusedVariables false
set_option linter.unusedSimpArgs false

set_option maxRecDepth 100000 in
set_option maxHeartbeats 2000000 in
theorem rread_none (s : ByteArray) (w : World) (hs : s.size ≤ 140737488355328) (he : elemOf s.data.toList = none) (hno : readOf s.data.toList = none)
    (h0 : s.size ≤ 1 ∨ ∃ h : 0 < s.size, 1 < s.size ∧ (((s[0]'h).toNat : Int) == 33) = false)
    (hn : s.size < 5 ∨ (5 ≤ s.size ∧ ¬ (s.extract 0 4).toList = [109, 101, 109, 60] ∧ ¬ (s.extract 0 4).toList = [97, 114, 114, 60]) ∨ (5 ≤ s.size ∧ ((s.extract 0 4).toList = [109, 101, 109, 60] ∨ (s.extract 0 4).toList = [97, 114, 114, 60]) ∧ ∃ h : s.size - 1 < s.size, ((((s[s.size - 1]'h).toNat : Int)) != 62) = true)) :
    Calls Tryz.prog 66 #[.string s] w (RReadPost s.data.toList w) := by
  have HE := Lib.hid he
  have HNO := Lib.hid hno
  clear he hno
  rcases h0 with h0 | ⟨hp, h1, h0⟩
  · have hq : ¬ (1 : Int) < (s.size : Int) := by omega
    have hq5 : decide ((s.size : Int) < 5) = true := by simp; omega
    clear hn
    go_enter Tryz.func66, Tryz.ntmps66
    go_wp2_with (go_at_call 86; refine (numT_none HE.out _).mono ?_; rintro e w1 ⟨⟨v, rfl⟩, rfl⟩)
    refine bodyPost_ret (v := .tuple #[tv 0 0 (.slice none 0 0) ⟨#[]⟩, .bool false]) (by simp [results, Tryz.results66, go_sem]) rfl ?_
    exact rread_no HNO.out 0 0 ⟨#[]⟩ rfl (by repeat (with_reducible (first | exact Below.refl _ _ | refine below_set ?_ (Nat.le_refl _) _ _ | refine belowA ?_ _)))
  · have hq : (1 : Int) < (s.size : Int) := by omega
    rcases hn with hn | ⟨h5, hx1, hx2⟩ | ⟨h5, hx1 | hx1, hpl, hl⟩
    · have hq5 : decide ((s.size : Int) < 5) = true := by simp; omega
      go_enter Tryz.func66, Tryz.ntmps66
      go_wp2_with (go_at_call 86; refine (numT_none HE.out _).mono ?_; rintro e w1 ⟨⟨v, rfl⟩, rfl⟩)
      refine bodyPost_ret (v := .tuple #[tv 0 0 (.slice none 0 0) ⟨#[]⟩, .bool false]) (by simp [results, Tryz.results66, go_sem]) rfl ?_
      exact rread_no HNO.out 0 0 ⟨#[]⟩ rfl (by repeat (with_reducible (first | exact Below.refl _ _ | refine below_set ?_ (Nat.le_refl _) _ _ | refine belowA ?_ _)))
    all_goals
      have hq5 : decide ((s.size : Int) < 5) = false := by simp; omega
      have hq6 : (5 : Int) ≤ (s.size : Int) := by omega
      go_enter Tryz.func66, Tryz.ntmps66
      go_wp2_with (go_at_call 86; refine (numT_none HE.out _).mono ?_; rintro e w1 ⟨⟨v, rfl⟩, rfl⟩)
      refine bodyPost_ret (v := .tuple #[tv 0 0 (.slice none 0 0) ⟨#[]⟩, .bool false]) (by simp [results, Tryz.results66, go_sem]) rfl ?_
      exact rread_no HNO.out 0 0 ⟨#[]⟩ rfl (by repeat (with_reducible (first | exact Below.refl _ _ | refine below_set ?_ (Nat.le_refl _) _ _ | refine belowA ?_ _)))

theorem rread_any (s : ByteArray) (w : World) (hs : s.size ≤ 140737488355328) : Calls Tryz.prog 66 #[.string s] w (RReadPost s.data.toList w) := by
  have hl : s.data.toList.length = s.size := by simp
  have hex4 : (s.extract 0 4).toList = s.data.toList.take 4 := by
    rw [ByteArray.toList_eq]; simp [ByteArray.data_extract]
  cases he : elemOf s.data.toList with
  | some q => exact rread_elem s q w he
  | none =>
    by_cases h33 : ∃ h : 1 < s.size, s[0]'(by omega) = 33
    · obtain ⟨h1, h0⟩ := h33
      exact rread_foreign s w he h1 h0
    · have h0a : s.size ≤ 1 ∨ ∃ h : 0 < s.size, 1 < s.size ∧ (((s[0]'h).toNat : Int) == 33) = false := by
        rcases Nat.lt_or_ge 1 s.size with h | h
        · refine .inr ⟨by omega, h, ?_⟩
          rw [beq_eq_false_iff_ne]
          intro h'
          exact h33 ⟨h, byte_eq 33 (by omega) h'⟩
        · exact .inl h
      have h0b : s.data.toList.head? ≠ some 33 ∨ s.data.toList.length ≤ 1 := by
        rcases h0a with h | ⟨h, -, h'⟩
        · exact .inr (by omega)
        · left
          have hd := data_get s 0 h
          rw [List.drop_zero] at hd
          rw [hd]
          intro h''
          simp at h''
          rw [h''] at h'
          exact absurd h' (by decide)
      rcases Nat.lt_or_ge s.size 5 with h5 | h5
      · exact rread_none s w hs he (readOf_no he h0b (.inl (by omega))) h0a (.inl h5)
      · have hpl : s.size - 1 < s.size := by omega
        have hne : s.data.toList ≠ [] := by intro e; rw [e] at hl; simp at hl; omega
        have hsuf : Lib.hasSuffix s.data.toList [62] = (s[s.size - 1]'hpl == 62) := by
          rw [suffix_iff hne, List.getLast_eq_getElem]
          simp [ByteArray.getElem_eq_getElem_data]
        by_cases hkw : s.data.toList.take 4 = [109, 101, 109, 60] ∨ s.data.toList.take 4 = [97, 114, 114, 60]
        · by_cases hlast : s[s.size - 1]'hpl = 62
          · rcases hkw with hkw | hkw
            · exact rread_cells s w 2 _ (.inl ⟨rfl, rfl⟩) hs he h5 hkw hlast
            · exact rread_cells s w 3 _ (.inr ⟨rfl, rfl⟩) hs he h5 hkw hlast
          · exact rread_none s w hs he (readOf_no he h0b (.inr (.inr (by rw [hsuf, beq_eq_false_iff_ne]; exact hlast)))) h0a (.inr (.inr ⟨h5, by rw [hex4]; exact hkw, hpl, by
              rw [bne_iff_ne]; intro h'; exact hlast (byte_eq 62 (by omega) h')⟩))
        · rw [not_or] at hkw
          exact rread_none s w hs he (readOf_no he h0b (.inr (.inl hkw))) h0a (.inr (.inl ⟨h5, by rw [hex4]; exact hkw.1, by rw [hex4]; exact hkw.2⟩))

set_option maxRecDepth 100000 in
theorem ris_any (s : ByteArray) (w : World) (hs : s.size ≤ 140737488355328) : Calls Tryz.prog 38 #[.string s] w fun e w' => e = .returned (.bool (readOf s.data.toList).isSome) ∧ Below w.heap.size w w' := by
  cases hr : readOf s.data.toList with
  | none =>
    have HR := Lib.hid hr
    clear hr
    go_enter Tryz.func38, Tryz.ntmps38
    go_wp2_with (go_at_call 66; refine (rread_any _ _ hs).mono ?_; rintro e w1 ⟨hb1, h1⟩; rw [HR.out] at h1; obtain ⟨k, b, el, rfl⟩ := h1)
    go_ret
    exact ⟨rfl, hb1.alloc hb1.size _⟩
  | some q =>
    have HR := Lib.hid hr
    clear hr
    go_enter Tryz.func38, Tryz.ntmps38
    go_wp2_with (go_at_call 66; refine (rread_any _ _ hs).mono ?_; rintro e w1 ⟨hb1, h1⟩; rw [HR.out] at h1; obtain ⟨sa, sc, rfl, hv⟩ := h1; have HV := Lib.hid hv; clear hv)
    go_ret
    exact ⟨rfl, hb1.alloc hb1.size _⟩
end Go.Proofs.YtmepjbjmjbpchaaGreatDoor
end
section
/- The reference: Right. -/
namespace Go.Proofs.YtmepjbjmjbpchaaGreatDoor
open Go Go.RowKit
set_option linter.unusedVariables false
set_option linter.unusedSimpArgs false

section
variable (nm : ByteArray) (k n : Int) (tx : ByteArray) (ia : Option Addr) (il ic : Nat) (ta : Option Addr) (tl tc : Nat) (w : World)
set_option maxRecDepth 100000 in
set_option maxHeartbeats 2000000 in
theorem rRight_no (h : nameOf nm.data.toList = false ∨ k < 0 ∨ 5 < k) : Calls Tryz.prog 15 #[av nm k n tx ia il ic ta tl tc] w fun e w' => e = .returned (.bool false) ∧ Below w.heap.size w w' := by
  obtain ⟨bn, hbn⟩ : ∃ bn, bn = nameOf nm.data.toList := ⟨_, rfl⟩
  rw [← hbn] at h
  have HBN := Lib.hid hbn
  clear hbn
  cases bn
  · clear h
    go_enter Tryz.func15, Tryz.ntmps15
    go_wp2_with (go_at_call 37; refine (risName_any _ _).mono ?_; rintro e w1 ⟨rfl, rfl⟩; rw [← HBN.out])
    go_ret
    exact ⟨rfl, by (repeat (first | (with_reducible refine below_set ?_ (by first | exact Nat.le_refl _ | omega) _ _) | with_reducible exact Below.refl _ _ | with_reducible refine belowA ?_ _ | with_reducible refine belowD ?_ | with_reducible refine belowN ?_ _))⟩
  · have h' : k < 0 ∨ (¬ k < 0 ∧ 5 < k) := by simp at h; omega
    clear h
    rcases h' with h | ⟨h, h2⟩
    all_goals
      go_enter Tryz.func15, Tryz.ntmps15
      go_wp2_with (go_at_call 37; refine (risName_any _ _).mono ?_; rintro e w1 ⟨rfl, rfl⟩; rw [← HBN.out])
      go_ret
      exact ⟨rfl, by (repeat (first | (with_reducible refine below_set ?_ (by first | exact Nat.le_refl _ | omega) _ _) | with_reducible exact Below.refl _ _ | with_reducible refine belowA ?_ _ | with_reducible refine belowD ?_ | with_reducible refine belowN ?_ _))⟩
set_option maxRecDepth 100000 in
set_option maxHeartbeats 4000000 in
theorem rRight_1 (h : nameOf nm.data.toList = true) : Calls Tryz.prog 15 #[av nm 1 n tx ia il ic ta tl tc] w fun e w' => e = .returned (.bool (decide (tx.size ≤ 1000) && noNumB n il tl)) ∧ Below w.heap.size w w' := by
  have H := Lib.hid h
  clear h
  go_enter Tryz.func15, Tryz.ntmps15
  go_wp2_with (go_at_call 37; refine (risName_any _ _).mono ?_; rintro e w1 ⟨rfl, rfl⟩; rw [H.out])
  all_goals go_ret
  all_goals (refine ⟨?_, by (repeat (first | (with_reducible refine below_set ?_ (by first | exact Nat.le_refl _ | omega) _ _) | with_reducible exact Below.refl _ _ | with_reducible refine belowA ?_ _ | with_reducible refine belowD ?_ | with_reducible refine belowN ?_ _))⟩)
  all_goals first | (simp_all [noNumB, noListsB, isTyB]; done) | (simp_all [noNumB, noListsB, isTyB]; omega)
set_option maxRecDepth 100000 in
set_option maxHeartbeats 4000000 in
theorem rRight_2 (h : nameOf nm.data.toList = true) : Calls Tryz.prog 15 #[av nm 2 n tx ia il ic ta tl tc] w fun e w' => e = .returned (.bool (nameOf tx.data.toList && noNumB n il tl)) ∧ Below w.heap.size w w' := by
  have H := Lib.hid h
  clear h
  go_enter Tryz.func15, Tryz.ntmps15
  go_wp2_with (first | (go_at_call 37; go_at_call_of 37 (Value.string nm); refine (risName_any _ _).mono ?_; rintro e w1 ⟨rfl, rfl⟩; rw [H.out]) | (go_at_call 37; refine (risName_any _ _).mono ?_; rintro e w2 ⟨rfl, rfl⟩))
  all_goals go_ret
  all_goals (refine ⟨?_, by (repeat (first | (with_reducible refine below_set ?_ (by first | exact Nat.le_refl _ | omega) _ _) | with_reducible exact Below.refl _ _ | with_reducible refine belowA ?_ _ | with_reducible refine belowD ?_ | with_reducible refine belowN ?_ _))⟩)
  all_goals first | (simp_all [noNumB, noListsB, isTyB]; done) | (simp_all [noNumB, noListsB, isTyB]; omega)
set_option maxRecDepth 100000 in
set_option maxHeartbeats 4000000 in
theorem rRight_3 (h : nameOf nm.data.toList = true) (hx : tx.size ≤ 140737488355328) : Calls Tryz.prog 15 #[av nm 3 n tx ia il ic ta tl tc] w fun e w' => e = .returned (.bool (isTyB tx && noNumB n il tl)) ∧ Below w.heap.size w w' := by
  have H := Lib.hid h
  clear h
  go_enter Tryz.func15, Tryz.ntmps15
  go_wp2_with (first | (go_at_call 37; refine (risName_any _ _).mono ?_; rintro e w1 ⟨rfl, rfl⟩; rw [H.out]) | (go_at_call 38; refine (ris_any _ _ hx).mono ?_; rintro e w2 ⟨rfl, hb2⟩))
  all_goals go_ret
  all_goals (refine ⟨?_, by (repeat (first | (with_reducible refine below_set ?_ (by first | exact Nat.le_refl _ | omega) _ _) | with_reducible exact Below.refl _ _ | with_reducible refine belowA ?_ _ | with_reducible refine below_own' ?_ hb2 | with_reducible refine belowD ?_ | with_reducible refine belowN ?_ _))⟩)
  all_goals first | (simp_all [noNumB, noListsB, isTyB]; done) | (simp_all [noNumB, noListsB, isTyB]; omega)
end
end Go.Proofs.YtmepjbjmjbpchaaGreatDoor
end
section
/- The reference: Right at the kinds whose texts are looked at. -/
namespace Go.Proofs.YtmepjbjmjbpchaaGreatDoor
open Go Go.RowKit
set_option linter.unusedVariables false
set_option linter.unusedSimpArgs false

section
variable (nm : ByteArray) (n : Int) (tx : ByteArray) (ia : Option Addr) (il ic : Nat) (ta : Option Addr) (tc : Nat) (w : World)
set_option maxRecDepth 100000 in
set_option maxHeartbeats 8000000 in
theorem rRight_0_some (h : nameOf nm.data.toList = true) (tl : Nat) (ht : tl ≠ 0) : Calls Tryz.prog 15 #[av nm 0 n tx ia il ic ta tl tc] w fun e w' => e = .returned (.bool false) ∧ Below w.heap.size w w' := by
  have H := Lib.hid h
  clear h
  have h1 : (((tl : Nat) : Int) != 0) = true := by simpa using ht
  have h2 : (((tl : Nat) : Int) == 0) = false := by simpa using ht
  go_enter Tryz.func15, Tryz.ntmps15
  go_wp2_with (go_at_call 37; refine (risName_any _ _).mono ?_; rintro e w1 ⟨rfl, rfl⟩; rw [H.out])
  all_goals go_ret
  all_goals exact ⟨rfl, by (repeat (first | (with_reducible refine below_set ?_ (by first | exact Nat.le_refl _ | omega) _ _) | with_reducible exact Below.refl _ _ | with_reducible refine belowA ?_ _ | with_reducible refine belowD ?_ | with_reducible refine belowN ?_ _))⟩
set_option maxRecDepth 100000 in
set_option maxHeartbeats 8000000 in
theorem rRight_4_some (h : nameOf nm.data.toList = true) (tl : Nat) (ht : tl ≠ 0) : Calls Tryz.prog 15 #[av nm 4 n tx ia il ic ta tl tc] w fun e w' => e = .returned (.bool false) ∧ Below w.heap.size w w' := by
  have H := Lib.hid h
  clear h
  have h1 : (((tl : Nat) : Int) != 0) = true := by simpa using ht
  have h2 : (((tl : Nat) : Int) == 0) = false := by simpa using ht
  go_enter Tryz.func15, Tryz.ntmps15
  go_wp2_with (go_at_call 37; refine (risName_any _ _).mono ?_; rintro e w1 ⟨rfl, rfl⟩; rw [H.out])
  all_goals go_ret
  all_goals exact ⟨rfl, by (repeat (first | (with_reducible refine below_set ?_ (by first | exact Nat.le_refl _ | omega) _ _) | with_reducible exact Below.refl _ _ | with_reducible refine belowA ?_ _ | with_reducible refine belowD ?_ | with_reducible refine belowN ?_ _))⟩
set_option maxRecDepth 100000 in
set_option maxHeartbeats 8000000 in
theorem rRight_0_none (h : nameOf nm.data.toList = true) : Calls Tryz.prog 15 #[av nm 0 n tx ia il ic ta 0 tc] w fun e w' => e = .returned (.bool (noTextB tx il 0)) ∧ Below w.heap.size w w' := by
  have H := Lib.hid h
  clear h
  go_enter Tryz.func15, Tryz.ntmps15
  go_wp2_with (go_at_call 37; refine (risName_any _ _).mono ?_; rintro e w1 ⟨rfl, rfl⟩; rw [H.out])
  all_goals first
    | (go_ret
       refine ⟨?_, by (repeat (first | (with_reducible refine below_set ?_ (by first | exact Nat.le_refl _ | omega) _ _) | with_reducible exact Below.refl _ _ | with_reducible refine belowA ?_ _ | with_reducible refine belowD ?_ | with_reducible refine belowN ?_ _))⟩
       first | (simp_all [noTextB, noneOfB, noListsB]; done) | (simp_all [noTextB, noneOfB, noListsB]; omega))
    | (refine wp_loop_rounds 1 ?_
       rw [rounds_succ]
       go_wp2_with fail
       all_goals go_ret
       all_goals (refine ⟨?_, by (repeat (first | (with_reducible refine below_set ?_ (by first | exact Nat.le_refl _ | omega) _ _) | with_reducible exact Below.refl _ _ | with_reducible refine belowA ?_ _ | with_reducible refine belowD ?_ | with_reducible refine belowN ?_ _))⟩)
       all_goals first | (simp_all [noTextB, noneOfB, noListsB]; done) | (simp_all [noTextB, noneOfB, noListsB]; omega))
set_option maxRecDepth 100000 in
set_option maxHeartbeats 8000000 in
theorem rRight_4_none (h : nameOf nm.data.toList = true) : Calls Tryz.prog 15 #[av nm 4 n tx ia il ic ta 0 tc] w fun e w' => e = .returned (.bool (decide (((il : Nat) : Int) ≤ 100) && noneOfB n tx)) ∧ Below w.heap.size w w' := by
  have H := Lib.hid h
  clear h
  go_enter Tryz.func15, Tryz.ntmps15
  go_wp2_with (go_at_call 37; refine (risName_any _ _).mono ?_; rintro e w1 ⟨rfl, rfl⟩; rw [H.out])
  all_goals first
    | (go_ret
       refine ⟨?_, by (repeat (first | (with_reducible refine below_set ?_ (by first | exact Nat.le_refl _ | omega) _ _) | with_reducible exact Below.refl _ _ | with_reducible refine belowA ?_ _ | with_reducible refine belowD ?_ | with_reducible refine belowN ?_ _))⟩
       first | (simp_all [noTextB, noneOfB, noListsB]; done) | (simp_all [noTextB, noneOfB, noListsB]; omega))
    | (refine wp_loop_rounds 1 ?_
       rw [rounds_succ]
       go_wp2_with fail
       all_goals go_ret
       all_goals (refine ⟨?_, by (repeat (first | (with_reducible refine below_set ?_ (by first | exact Nat.le_refl _ | omega) _ _) | with_reducible exact Below.refl _ _ | with_reducible refine belowA ?_ _ | with_reducible refine belowD ?_ | with_reducible refine belowN ?_ _))⟩)
       all_goals first | (simp_all [noTextB, noneOfB, noListsB]; done) | (simp_all [noTextB, noneOfB, noListsB]; omega))
set_option maxRecDepth 100000 in
set_option maxHeartbeats 8000000 in
theorem rRight_5 (h : nameOf nm.data.toList = true) (ls : List ByteArray) (hs : StrSl w ta ls) (hx : ∀ s ∈ ls, s.size ≤ 140737488355328) (hn : ls.length ≤ 9223372036854775807) : Calls Tryz.prog 15 #[av nm 5 n tx ia il ic ta ls.length tc] w fun e w' => e = .returned (.bool (decide (((ls.length : Nat) : Int) ≤ 100) && ls.all isTyB && (il == 0) && noneOfB n tx)) ∧ Below w.heap.size w w' := by
  have H := Lib.hid h
  have HS := Lib.hid hs
  have HX := Lib.hid hx
  clear h hs hx
  go_enter Tryz.func15, Tryz.ntmps15
  go_wp2_with (go_at_call 37; refine (risName_any _ _).mono ?_; rintro e w1 ⟨rfl, rfl⟩; rw [H.out])
  all_goals first
    | (go_ret
       refine ⟨?_, by (repeat (first | (with_reducible refine below_set ?_ (by first | exact Nat.le_refl _ | omega) _ _) | with_reducible exact Below.refl _ _ | with_reducible refine belowA ?_ _ | with_reducible refine belowD ?_ | with_reducible refine belowN ?_ _))⟩
       first | (simp_all [noTextB, noneOfB, noListsB]; done) | (simp_all [noTextB, noneOfB, noListsB]; omega))
    | (go_loopw [4] (fun i wr => ∃ j : Nat, i = .int .i64 j ∧ j ≤ ls.length ∧ Below (w.heap.size + 1) (w.alloc (.cells (avCells nm 5 n tx ia il ic ta ls.length tc) 27)) wr ∧ (ls.take j).all isTyB = true) (fun i _ => ls.length - (intOf i).toNat)
       case atStart => exact ⟨0, rfl, Nat.zero_le _, (by first | exact Below.refl _ _ | (simp only [avCells, *]; exact Below.refl _ _)), rfl⟩
       case round =>
         obtain ⟨j, rfl, hj, hb, ht⟩ := hrel
         have c0 := rdCell (W := w.alloc (.cells (avCells nm 5 n tx ia il ic ta ls.length tc) 27)) (hb.mono (by simp)) w.heap.size (by simp)
         have HB := Lib.hid hb
         have HT := Lib.hid ht
         clear hb ht
         rcases Nat.lt_or_ge j ls.length with hlt | hge
         · have hw0 : Below w.heap.size w wr := by
             refine below_own' ((Below.refl w.heap.size w).alloc (Nat.le_refl _) _) (HB.out.mono (by simp))
           obtain ⟨g, off, rfl, hcell⟩ := (HS.out.below hw0).at hlt
           have HW0 := Lib.hid hw0
           obtain ⟨s, hsj⟩ : ∃ s, s = ls[j] := ⟨_, rfl⟩
           rw [← hsj] at hcell
           have hq := HX.out s (by rw [hsj]; exact List.getElem_mem _)
           have HSJ := Lib.hid hsj
           obtain ⟨b, hbt⟩ : ∃ b, b = isTyB s := ⟨_, rfl⟩
           have HBT := Lib.hid hbt
           have hnx : Hid ((ls.take (j + 1)).all isTyB = ((ls.take j).all isTyB && b)) := Lib.hid (by rw [List.take_succ_eq_append_getElem hlt, List.all_append, hbt, hsj]; simp)
           clear hw0 hsj hbt
           cases b
           · go_wp2_with (go_at_call 38; refine (ris_any _ _ hq).mono ?_; rintro e w2 ⟨rfl, hb2⟩; rw [show (readOf s.data.toList).isSome = false from HBT.out.symm])
             go_ret
             refine ⟨?_, below_own' HW0.out hb2⟩
             have hall : ls.all isTyB = false := by
               rw [List.all_eq_false]; exact ⟨ls[j], List.getElem_mem _, by rw [← HSJ.out, ← HBT.out]; simp⟩
             rw [hall]; simp
           · go_wp2_with (go_at_call 38; refine (ris_any _ _ hq).mono ?_; rintro e w2 ⟨rfl, hb2⟩; rw [show (readOf s.data.toList).isSome = true from HBT.out.symm])
             go_roundw
             case rel => exact ⟨j + 1, by go_num, by omega, HB.out.trans (hb2.mono (by have := HB.out.size; simpa using this)), by rw [hnx.out, HT.out]; rfl⟩
             case measure => simp [intOf]; omega
         · obtain rfl : j = ls.length := by omega
           have hall : Hid (ls.all isTyB = true) := Lib.hid (by have := HT.out; rwa [List.take_length] at this)
           go_wp2_with fail
           all_goals go_ret
           all_goals (refine ⟨?_, below_own' ((Below.refl w.heap.size w).alloc (Nat.le_refl _) _) (HB.out.mono (by simp))⟩)
           all_goals (rw [hall.out]; simp_all [noneOfB]))
end
end Go.Proofs.YtmepjbjmjbpchaaGreatDoor
end
section
/- A region that draws its order: the operations ahead of m by an invariant, those from m on in the order of the text. -/
set_option linter.unusedVariables false
set_option linter.unusedSimpArgs false
namespace Go.Proofs.YtmepjbjmjbpchaaGreatDoor
open Go

section
variable {P : Program} {ops : Array Oper} {n : Nat} {Q : Exit → Act → World → Prop} {V : Nat → Value} {a0 : Act} {Inv : Array Bool → World → Prop}

def headsOf (m s : Nat) : Array Bool := Array.replicate m true ++ Array.replicate (s - m) false

theorem heads_of_count {m s : Nat} {listed : Array Bool} (hs : listed.size = s) (hm : m ≤ s) (ht : ∀ t, m ≤ t → t < s → listed.getD t true = false) (hc : listed.count false ≤ s - m) : listed = headsOf m s := by
  have h2 : listed = listed.extract 0 m ++ listed.extract m s := by
    rw [Array.extract_append_extract, show min 0 m = 0 by omega, show max m s = s by omega, ← hs]; simp
  have h3 : listed.extract m s = Array.replicate (s - m) false := by
    apply Array.ext
    · simp [hs]
    · intro i h1 h2
      simp [hs] at h1
      have := ht (m + i) (by omega) (by omega)
      rw [Array.getElem_extract, Array.getElem_replicate]
      simpa [hs, show m + i < s by omega] using this
  have hc2 : (listed.extract 0 m).count false = 0 := by
    rw [h2, Array.count_append, h3, Array.count_replicate] at hc
    simp at hc
    omega
  have h4 : listed.extract 0 m = Array.replicate m true := by
    apply Array.ext
    · simp [hs, hm]
    · intro i h1 h2
      rw [Array.getElem_replicate]
      have h5 : false ∉ listed.extract 0 m := by rw [← Array.count_eq_zero]; exact hc2
      have h3 : (listed.extract 0 m)[i] ∈ listed.extract 0 m := Array.getElem_mem h1
      cases hx : (listed.extract 0 m)[i] with
      | true => rfl
      | false => rw [hx] at h3; exact absurd h3 h5
  rw [h2, h3, h4, headsOf]

theorem headsOf_getD (m s j : Nat) (hm : m ≤ s) : (headsOf m s).getD j false = decide (j < m) := by
  unfold headsOf
  by_cases h : j < m
  · simp [Array.getElem?_append, h]
  · rcases Nat.lt_or_ge j s with h2 | h2
    · simp [Array.getElem?_append, h, show j - m < s - m by omega]
    · simp [Array.getElem?_append, h, show ¬ (j - m < s - m) by omega]
/-- The frame behind the first operations, put one by one. -/
def frameOf (ops : Array Oper) (V : Nat → Value) (a : Act) : Nat → Act
  | 0 => a
  | k + 1 => (frameOf ops V a k).put (ops[k]?.bind (·.dst)) (V k)
theorem headsOf_succ {k s : Nat} (h : k < s) : headsOf (k + 1) s = (headsOf k s).setIfInBounds k true := by
  apply Array.ext
  · simp [headsOf]; omega
  · intro i h1 h2
    have e1 := headsOf_getD (k + 1) s i (by omega)
    have e2 := headsOf_getD k s i (by omega)
    have h3 : i < s := by simp [headsOf] at h1; omega
    have h4 : i < (headsOf k s).size := by simp [headsOf]; omega
    simp [h1] at e1
    simp [h4] at e2
    rw [e1]
    by_cases hik : i = k
    · subst hik; simp
    · rw [Array.getElem_setIfInBounds_ne (by omega) (fun e => hik e.symm), e2]
      rw [decide_eq_decide]; omega
theorem frameOf_agrees (hok : regionOk ops a0.tmps.size = true) : ∀ k, k ≤ ops.size → Agrees ops V a0 (headsOf k ops.size) (frameOf ops V a0 k)
  | 0, _ => by
    have : headsOf 0 ops.size = Array.replicate ops.size false := by simp [headsOf]
    rw [this]; exact Agrees.start
  | k + 1, hk => by
    have ih := frameOf_agrees hok k (by omega)
    rw [headsOf_succ (by omega)]
    have ho : ops[k]? = some ops[k] := by simp [show k < ops.size by omega]
    have := Agrees.put hok ih (by simp [headsOf]; omega) ho
    simpa [frameOf, ho] using this
theorem Agrees.uniq {listed : Array Bool} {a b : Act} (ha : Agrees ops V a0 listed a) (hb : Agrees ops V a0 listed b) : a = b := by
  obtain ⟨t, ds⟩ := a
  obtain ⟨u, es⟩ := b
  have h1 : ds = es := ha.defers.trans hb.defers.symm
  have h2 : t = u := by
    apply Array.ext_getElem?
    intro d
    by_cases h : ∃ (j : Nat) (o : Oper), ops[j]? = some o ∧ listed.getD j false = true ∧ o.dst = some d
    · obtain ⟨j, o, ho, hl, hd⟩ := h
      exact (ha.got j o d ho hd hl).trans (hb.got j o d ho hd hl).symm
    · have hn : ∀ (j : Nat) (o : Oper), ops[j]? = some o → listed.getD j false = true → o.dst ≠ some d := fun j o ho hl hd => h ⟨j, o, ho, hl, hd⟩
      exact (ha.old d hn).trans (hb.old d hn).symm
  rw [h1, h2]
theorem frameOf_eq (hok : regionOk ops a0.tmps.size = true) {k : Nat} (hk : k ≤ ops.size) {a : Act} (ha : Agrees ops V a0 (headsOf k ops.size) a) : a = frameOf ops V a0 k := ha.uniq (frameOf_agrees hok k hk)

/-- THE LAW, in a fence as wide as can be. -/
theorem wpIn_region_inv_tail {F : Fence} {id : Nat} {w : World} (m : Nat) (V : Nat → Value) (Inv : Array Bool → World → Prop) (hm : P.follows .mixedOrders = true) (hok : regionOk ops a0.tmps.size = true)
    (hS : Region.sinkB .any ops m = true) (hC : Region.chainB .any ops m = true) (hn : m < ops.size) (hq : Region.seqB .any ops (ops.size - m) m (headsOf m ops.size) = true)
    (h0 : Inv (Array.replicate ops.size false) w.drew)
    (step : ∀ (i : Nat) (o : Oper) (listed : Array Bool) (a : Act) (w : World), ops[i]? = some o → listed.size = ops.size → listed.getD i false = false → (∀ e ∈ o.after, Region.binds .any e = true → listed.getD e.on false = true) → Agrees ops V a0 listed a → Inv listed w →
      (∀ j, listed.getD j false = true → (∃ p d, ops[j]? = some p ∧ p.dst = some d) → yielded ops a.tmps j = boolOf (V j)) → i < m →
      if Region.wanted o (yielded ops a.tmps) then o.wpIn F n P a w (fun a' w' => a' = a.put o.dst (V i) ∧ Inv (listed.setIfInBounds i true) w') Q else (∀ f, o.about P w a.eval = some f → F.fn f) ∧ a.put o.dst undef = a.put o.dst (V i) ∧ Inv (listed.setIfInBounds i true) w)
    (tail : ∀ w, Inv (headsOf m ops.size) w → wpListIn F n P ops Q (ops.toList.drop m) (frameOf ops V a0 m) w) :
    (Code.region id ops true).wpIn F n P Q a0 w := by
  refine wpIn_region_any hm ?_
  have main : ∀ (fuel : Nat) (listed : Array Bool) (a : Act) (w : World), listed.count false = fuel + (ops.size - m) → HeadInv .any ops m listed → Agrees ops V a0 listed a → Inv listed w → wpAnyIn F n P .any ops Q (fuel + (ops.size - m)) listed a w := by
    intro fuel
    induction fuel with
    | zero =>
      intro listed a w hc hH ha hi
      have hall := heads_of_count hH.size (Nat.le_of_lt hn) hH.tail (by omega)
      subst hall
      have htl := tail w hi
      rw [← frameOf_eq hok (Nat.le_of_lt hn) ha] at htl
      have := wpAnyIn_of_seq (md := .any) (F := F) (n := n) (Q := Q) (P := P) (ops.toList.drop m) m (headsOf m ops.size) a w (fun j => by simp [List.getElem?_drop]) (by simpa using hq) htl
      simpa using this
    | succ f ih =>
      intro listed a w hc hH ha hi
      have hs := hH.size
      have hx : ∃ i, i < m ∧ listed.getD i false = false := by
        by_cases hx : ∃ i, i < m ∧ listed.getD i false = false
        · exact hx
        · exfalso
          have hle : listed.count false ≤ ops.size - m := by
            have h2 : listed = listed.extract 0 m ++ listed.extract m ops.size := by
              rw [Array.extract_append_extract, show min 0 m = 0 by omega, show max m ops.size = ops.size by omega, ← hs]; simp
            have h5 : (listed.extract 0 m).count false = 0 := by
              rw [Array.count_eq_zero]
              intro hmem
              obtain ⟨i, hi1, hi2⟩ := Array.mem_iff_getElem.1 hmem
              simp at hi1
              refine hx ⟨i, by omega, ?_⟩
              rw [Array.getElem_extract] at hi2
              simp at hi2
              simp [show i < listed.size by omega, hi2]
            rw [h2, Array.count_append, h5]
            have := Array.count_le_size (a := false) (xs := listed.extract m ops.size)
            simp [hs] at this ⊢
            omega
          omega
      obtain ⟨i0, hi0, hl0⟩ := hx
      rw [show f + 1 + (ops.size - m) = (f + (ops.size - m)) + 1 by omega]
      refine ⟨fun he => ?_, fun i hir => ?_⟩
      · exact absurd he (ready_of_unlisted hok hs (i0 + 1) i0 (by omega) (by omega) hl0)
      · have him : i < m := by
          rcases Nat.lt_or_ge i m with h | h
          · exact h
          · exact absurd hir (tail_waits hS hC hn hH _ i0 rfl hi0 (getD_in (by rw [hs]; omega) hl0) i h)
        obtain ⟨hu, o, ho, hall⟩ := mem_ready.1 hir
        have hlt : i < listed.size := by rw [hs]; exact (Array.getElem?_eq_some_iff.1 ho).1
        have hu' : listed[i] = false := by simpa [hlt] using hu
        have hst := step i o listed a w ho hs (by simp [hlt, hu']) hall ha hi (fun j hj ⟨p, d, hp, hd⟩ => by simp only [yielded, hp, hd, Option.bind_some, ha.got j p d hp hd hj, boolOf]; cases V j <;> rfl) him
        have hst' : wpOpIn F n P ops Q i (fun a' w' => a' = a.put o.dst (V i) ∧ Inv (listed.setIfInBounds i true) w') a w := by unfold wpOpIn; rw [ho]; exact hst
        refine wpOpIn_mono (fun a' w' => ?_) hst'
        rintro ⟨rfl, hi'⟩
        refine ih _ _ _ ?_ (hH.set hir him) (ha.put hok hs ho) hi'
        have hpos : 0 < listed.count false := Array.count_pos_iff.2 (by rw [← hu']; exact Array.getElem_mem hlt)
        rw [Array.setIfInBounds, dif_pos hlt, Array.count_set]
        simp [hu']
        omega
  have hc0 : (Array.replicate ops.size false).count false = m + (ops.size - m) := by rw [Array.count_replicate]; simp; omega
  have := main m (Array.replicate ops.size false) a0 w.drew hc0 ⟨by simp, fun j oj _ hl => (by rw [getD_replicate_false] at hl; cases hl), fun t _ ht => getD_in (by simpa using ht) (getD_replicate_false _ _)⟩ Agrees.start h0
  rw [show m + (ops.size - m) = ops.size by omega] at this
  exact this
end
end Go.Proofs.YtmepjbjmjbpchaaGreatDoor
end
