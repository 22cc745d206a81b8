/- The reference of types: Read at any string; Is, IsNumber, Bits, Shaped. -/
import Derived.Test.YthgiianmfehcaaaDoorRf8
namespace Go.Proofs.YthgiianmfehcaaaDoor
open Go Go.RowKit Go.Sort
set_option linter.unusedVariables false
set_option linter.unusedSimpArgs false

set_option maxRecDepth 100000 in
set_option maxHeartbeats 2000000 in
theorem rread_none (s : ByteArray) (w : World) (hs : s.size ≤ 140737488355328) (he : elemOf s.data.toList = none) (hno : readOf s.data.toList = none)
    (h0 : s.size ≤ 1 ∨ ∃ h : 0 < s.size, 1 < s.size ∧ (((s[0]'h).toNat : Int) == 33) = false)
    (hn : s.size < 5 ∨ (5 ≤ s.size ∧ ¬ (s.extract 0 4).toList = [109, 101, 109, 60] ∧ ¬ (s.extract 0 4).toList = [97, 114, 114, 60]) ∨ (5 ≤ s.size ∧ ((s.extract 0 4).toList = [109, 101, 109, 60] ∨ (s.extract 0 4).toList = [97, 114, 114, 60]) ∧ ∃ h : s.size - 1 < s.size, ((((s[s.size - 1]'h).toNat : Int)) != 62) = true)) :
    Calls Tryd.prog 28 #[.string s] w (RReadPost s.data.toList w) := by
  have HE := Lib.hid he
  have HNO := Lib.hid hno
  clear he hno
  rcases h0 with h0 | ⟨hp, h1, h0⟩
  · have hq : ¬ (1 : Int) < (s.size : Int) := by omega
    have hq5 : decide ((s.size : Int) < 5) = true := by simp; omega
    clear hn
    go_enter Tryd.func28, Tryd.ntmps28
    go_wp2_with (go_at_call 50; refine (numT_none HE.out _).mono ?_; rintro e w1 ⟨⟨v, rfl⟩, rfl⟩)
    refine bodyPost_ret (v := .tuple #[tv 0 0 (.slice none 0 0) ⟨#[]⟩, .bool false]) (by simp [results, Tryd.results28, go_sem]) rfl ?_
    exact rread_no HNO.out 0 0 ⟨#[]⟩ rfl (by repeat (with_reducible (first | exact Below.refl _ _ | refine below_set ?_ (Nat.le_refl _) _ _ | refine belowA ?_ _)))
  · have hq : (1 : Int) < (s.size : Int) := by omega
    rcases hn with hn | ⟨h5, hx1, hx2⟩ | ⟨h5, hx1 | hx1, hpl, hl⟩
    · have hq5 : decide ((s.size : Int) < 5) = true := by simp; omega
      go_enter Tryd.func28, Tryd.ntmps28
      go_wp2_with (go_at_call 50; refine (numT_none HE.out _).mono ?_; rintro e w1 ⟨⟨v, rfl⟩, rfl⟩)
      refine bodyPost_ret (v := .tuple #[tv 0 0 (.slice none 0 0) ⟨#[]⟩, .bool false]) (by simp [results, Tryd.results28, go_sem]) rfl ?_
      exact rread_no HNO.out 0 0 ⟨#[]⟩ rfl (by repeat (with_reducible (first | exact Below.refl _ _ | refine below_set ?_ (Nat.le_refl _) _ _ | refine belowA ?_ _)))
    all_goals
      have hq5 : decide ((s.size : Int) < 5) = false := by simp; omega
      have hq6 : (5 : Int) ≤ (s.size : Int) := by omega
      go_enter Tryd.func28, Tryd.ntmps28
      go_wp2_with (go_at_call 50; refine (numT_none HE.out _).mono ?_; rintro e w1 ⟨⟨v, rfl⟩, rfl⟩)
      refine bodyPost_ret (v := .tuple #[tv 0 0 (.slice none 0 0) ⟨#[]⟩, .bool false]) (by simp [results, Tryd.results28, go_sem]) rfl ?_
      exact rread_no HNO.out 0 0 ⟨#[]⟩ rfl (by repeat (with_reducible (first | exact Below.refl _ _ | refine below_set ?_ (Nat.le_refl _) _ _ | refine belowA ?_ _)))

theorem rread_any (s : ByteArray) (w : World) (hs : s.size ≤ 140737488355328) : Calls Tryd.prog 28 #[.string s] w (RReadPost s.data.toList w) := by
  have hl : s.data.toList.length = s.size := by simp
  have hex4 : (s.extract 0 4).toList = s.data.toList.take 4 := by
    rw [ByteArray.toList_eq]; simp [ByteArray.data_extract]
  cases he : elemOf s.data.toList with
  | some q => exact rread_elem s q w he
  | none =>
    by_cases h33 : ∃ h : 1 < s.size, s[0]'(by omega) = 33
    · obtain ⟨h1, h0⟩ := h33
      exact rread_foreign s w he h1 h0
    · have h0a : s.size ≤ 1 ∨ ∃ h : 0 < s.size, 1 < s.size ∧ (((s[0]'h).toNat : Int) == 33) = false := by
        rcases Nat.lt_or_ge 1 s.size with h | h
        · refine .inr ⟨by omega, h, ?_⟩
          rw [beq_eq_false_iff_ne]
          intro h'
          exact h33 ⟨h, byte_eq 33 (by omega) h'⟩
        · exact .inl h
      have h0b : s.data.toList.head? ≠ some 33 ∨ s.data.toList.length ≤ 1 := by
        rcases h0a with h | ⟨h, -, h'⟩
        · exact .inr (by omega)
        · left
          have hd := data_get s 0 h
          rw [List.drop_zero] at hd
          rw [hd]
          intro h''
          simp at h''
          rw [h''] at h'
          exact absurd h' (by decide)
      rcases Nat.lt_or_ge s.size 5 with h5 | h5
      · exact rread_none s w hs he (readOf_no he h0b (.inl (by omega))) h0a (.inl h5)
      · have hpl : s.size - 1 < s.size := by omega
        have hne : s.data.toList ≠ [] := by intro e; rw [e] at hl; simp at hl; omega
        have hsuf : Lib.hasSuffix s.data.toList [62] = (s[s.size - 1]'hpl == 62) := by
          rw [suffix_iff hne, List.getLast_eq_getElem]
          simp [ByteArray.getElem_eq_getElem_data]
        by_cases hkw : s.data.toList.take 4 = [109, 101, 109, 60] ∨ s.data.toList.take 4 = [97, 114, 114, 60]
        · by_cases hlast : s[s.size - 1]'hpl = 62
          · rcases hkw with hkw | hkw
            · exact rread_cells s w 2 _ (.inl ⟨rfl, rfl⟩) hs he h5 hkw hlast
            · exact rread_cells s w 3 _ (.inr ⟨rfl, rfl⟩) hs he h5 hkw hlast
          · exact rread_none s w hs he (readOf_no he h0b (.inr (.inr (by rw [hsuf, beq_eq_false_iff_ne]; exact hlast)))) h0a (.inr (.inr ⟨h5, by rw [hex4]; exact hkw, hpl, by
              rw [bne_iff_ne]; intro h'; exact hlast (byte_eq 62 (by omega) h')⟩))
        · rw [not_or] at hkw
          exact rread_none s w hs he (readOf_no he h0b (.inr (.inl hkw))) h0a (.inr (.inl ⟨h5, by rw [hex4]; exact hkw.1, by rw [hex4]; exact hkw.2⟩))

set_option maxRecDepth 100000 in
theorem ris_any (s : ByteArray) (w : World) (hs : s.size ≤ 140737488355328) : Calls Tryd.prog 17 #[.string s] w fun e w' => e = .returned (.bool (readOf s.data.toList).isSome) ∧ Below w.heap.size w w' := by
  cases hr : readOf s.data.toList with
  | none =>
    have HR := Lib.hid hr
    clear hr
    go_enter Tryd.func17, Tryd.ntmps17
    go_wp2_with (go_at_call 28; refine (rread_any _ _ hs).mono ?_; rintro e w1 ⟨hb1, h1⟩; rw [HR.out] at h1; obtain ⟨k, b, el, rfl⟩ := h1)
    go_ret
    exact ⟨rfl, hb1.alloc hb1.size _⟩
  | some q =>
    have HR := Lib.hid hr
    clear hr
    go_enter Tryd.func17, Tryd.ntmps17
    go_wp2_with (go_at_call 28; refine (rread_any _ _ hs).mono ?_; rintro e w1 ⟨hb1, h1⟩; rw [HR.out] at h1; obtain ⟨sa, sc, rfl, hv⟩ := h1; have HV := Lib.hid hv; clear hv)
    go_ret
    exact ⟨rfl, hb1.alloc hb1.size _⟩
end Go.Proofs.YthgiianmfehcaaaDoor
