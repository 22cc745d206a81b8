/- The reference of types: Make. -/
import Derived.Test.YthgiianmfehcaaaDoorRf2
namespace Go.Proofs.YthgiianmfehcaaaDoor
open Go Go.RowKit Go.Sort
set_option linter.unusedVariables false
set_option linter.unusedSimpArgs false

theorem digits_str (n : Int) (h0 : 0 ≤ n) (h1 : n ≤ 1000) (w : World) : Calls Tryd.prog 27 #[.int .i64 n] w fun e w' => ∃ t : ByteArray, e = .returned (.string t) ∧ Hid (t.data.toList = Lib.itoa n) ∧ t.size ≤ 4 ∧ w = w' :=
  (digits_any n h0 (by omega) w).mono fun e w' ⟨he, hw⟩ => ⟨_, he, rfl, by have := itoa_len h0 h1; simpa [ByteArray.size] using this, hw⟩
set_option maxRecDepth 100000 in
set_option maxHeartbeats 2000000 in
theorem rmake_kind (k : Int) (a : Option Addr) (n c : Nat) (el : ByteArray) (w : World) (h : (k ≠ 2 ∧ k ≠ 3) ∨ 3 < (n : Int)) :
    Calls Tryd.prog 12 #[.int .i64 k, .slice a n c, .string el] w fun e w' => e = .returned (.tuple #[.string ⟨#[]⟩, .int .i64 1]) ∧ w = w' := by
  by_cases h1 : k ≠ 2 ∧ k ≠ 3
  · obtain ⟨h1, h2⟩ := h1
    clear h
    go_enter Tryd.func12, Tryd.ntmps12
    go_wp2_with fail
    go_ret2
    exact ⟨rfl, rfl⟩
  · have h3 : 3 < (n : Int) := by omega
    have hk : k = 2 ∨ k = 3 := by omega
    clear h h1
    rcases hk with rfl | rfl
    all_goals
      go_enter Tryd.func12, Tryd.ntmps12
      go_wp2_with fail
      go_ret2
      exact ⟨rfl, rfl⟩
set_option maxRecDepth 100000 in
set_option maxHeartbeats 4000000 in
theorem rmake_rest (k : Nat) (hk : k = 2 ∨ k = 3) (a : Option Addr) (c : Nat) (zs : List Int) (el : ByteArray) (w : World) (hs : IntSl w a zs) (hn : zs.length ≤ 3) :
    Calls Tryd.prog 12 #[.int .i64 k, .slice a zs.length c, .string el] w fun e w' => e = .returned (.tuple #[.string ⟨(makeOf k zs el.data.toList).1.toArray⟩, .int .i64 (makeOf k zs el.data.toList).2]) ∧ Below w.heap.size w w' := by
  have HS := Lib.hid hs
  have hn3 : ((zs.length : Nat) : Int) ≤ 3 := by omega
  clear hs
  rcases hk with rfl | rfl
  · go_enter Tryd.func12, Tryd.ntmps12
    go_wp2_with fail
    go_loop [8] (fun i => ∃ j : Nat, j ≤ zs.length ∧ i = .int .i64 j ∧ badExt (zs.take j) = false) (fun i => zs.length - (intOf i).toNat)
    · exact ⟨0, Nat.zero_le _, rfl, rfl⟩
    · obtain ⟨j, hj, rfl, hb⟩ := hrel
      rcases Nat.lt_or_ge j zs.length with hlt | hge
      · obtain ⟨g, off, rfl, hg, hcell⟩ := HS.out.at hlt
        obtain ⟨z, hz⟩ : ∃ z, z = zs.getD j 0 := ⟨_, rfl⟩
        rw [← hz] at hcell
        have hbn : badExt (zs.take (j + 1)) = (decide (z < 0) || decide (1000 < z)) := by
          rw [List.take_add_one, List.getElem?_eq_getElem hlt]
          unfold badExt at hb ⊢
          rw [List.any_append, hb, hz]
          simp [hlt]
        have hbad : badExt (zs.take (j + 1)) = true → badExt zs = true := fun h => by
          unfold badExt at h ⊢
          rw [List.any_eq_true] at h ⊢
          obtain ⟨x, hx, h⟩ := h
          exact ⟨x, List.mem_of_mem_take hx, h⟩
        rw [hbn] at hbad
        have HBN := Lib.hid hbn
        have HBAD := Lib.hid hbad
        clear hz hb hbn hbad
        have hcs : z < 0 ∨ 1000 < z ∨ (0 ≤ z ∧ z ≤ 1000) := by omega
        rcases hcs with hz | hz | ⟨hz0, hz1⟩
        · go_wp2_with fail
          go_ret2
          exact ⟨by rw [makeOf, if_pos (.inr (.inr (HBAD.out (by simp; omega))))]; rfl, Below.refl _ _⟩
        · go_wp2_with fail
          go_ret2
          exact ⟨by rw [makeOf, if_pos (.inr (.inr (HBAD.out (by simp; omega))))]; rfl, Below.refl _ _⟩
        · go_wp2_with fail
          go_round
          case rel => exact ⟨_, _, .int .i64 ((j + 1 : Nat) : Int), ⟨j + 1, hlt, rfl, by rw [HBN.out]; simp; omega⟩, rfl, rfl, by simp⟩
          case measure => simp [intOf]; omega
      · have hjn : j = zs.length := by omega
        subst hjn
        rw [List.take_length] at hb
        have hno : ¬ (((2 : Nat) : Int) ≠ 2 ∧ ((2 : Nat) : Int) ≠ 3 ∨ 3 < zs.length ∨ badExt zs = true) := by rw [hb]; simp; omega
        have HNO := Lib.hid hno
        have HB := Lib.hid hb
        clear hno hb
        cases he : elemOf el.data.toList with
        | none =>
          have HE := Lib.hid he; clear he
          go_wp2_with (go_at_call 18; refine (risNum_any _ _).mono ?_; rintro e w1 ⟨rfl, rfl⟩; rw [HE.out, Option.isSome_none])
          go_ret2
          exact ⟨by rw [makeOf, if_neg HNO.out, if_pos HE.out]; rfl, Below.refl _ _⟩
        | some q =>
          have HE := Lib.hid he; clear he
          have hne : ¬ elemOf el.data.toList = none := by rw [HE.out]; simp
          have HNE := Lib.hid hne; clear hne
          by_cases hp : 4096 < prodW zs
          · have hmk : makeOf ((2 : Nat) : Int) zs el.data.toList = ([], 2) := by rw [makeOf, if_neg HNO.out, if_neg HNE.out, if_pos hp]
            have HMK := Lib.hid hmk; clear hmk
            go_wp2_with (first
              | (go_at_call 18; refine (risNum_any _ _).mono ?_; rintro e w1 ⟨rfl, rfl⟩; rw [HE.out, Option.isSome_some])
              | (go_at_call 39; refine (rcells_any _ _ a c zs _ _ (HS.out.below ((Below.refl _ w).alloc (Nat.le_refl _) _)) (by omega)).mono ?_; rintro e w2 ⟨rfl, hb2⟩))
            go_ret2
            exact ⟨by rw [HMK.out]; rfl, below_next ((Below.refl _ w).alloc (Nat.le_refl _) _) hb2⟩
          · have hmk : makeOf ((2 : Nat) : Int) zs el.data.toList = (textOf ((2 : Nat) : Int) zs el.data.toList, 0) := by rw [makeOf, if_neg HNO.out, if_neg HNE.out, if_neg hp]
            have HMK := Lib.hid hmk; clear hmk
            have hel := elemOf_len HE.out
            have hels : el.size ≤ 9 := by simp at hel; omega
            have hzr : ∀ z ∈ zs, 0 ≤ z ∧ z ≤ 1000 := fun z hz => by
              have := HB.out
              unfold badExt at this
              rw [List.any_eq_false] at this
              have := this z hz
              simp at this; omega
            have HZR := Lib.hid hzr
            clear hel hzr
            go_wp2_with (first
              | (go_at_call 18; refine (risNum_any _ _).mono ?_; rintro e w1 ⟨rfl, rfl⟩; rw [HE.out, Option.isSome_some])
              | (go_at_call 39; refine (rcells_any _ _ a c zs _ _ (HS.out.below ((Below.refl _ w).alloc (Nat.le_refl _) _)) (by omega)).mono ?_; rintro e w2 ⟨rfl, hb2⟩))
            have hbw := Lib.hid (below_next ((Below.refl _ w).alloc (Nat.le_refl _) _) hb2)
            have HS2 := Lib.hid (HS.out.below hbw.out)
            clear hb2
            go_loop [10, 11] (fun t i => ∃ (j : Nat) (st : ByteArray), j ≤ zs.length ∧ i = .int .i64 j ∧ t = .string st ∧ st.data.toList = kwStr ((2 : Nat) : Int) ++ extStr (zs.take j)) (fun _ i => zs.length - (intOf i).toNat)
            · exact ⟨0, _, Nat.zero_le _, rfl, rfl, rfl⟩
            · obtain ⟨j, st, hj, rfl, rfl, hst⟩ := hrel
              have hstl : st.size ≤ 19 := by
                have h1 := extStr_len (zs.take j) (fun z h => HZR.out z (List.mem_of_mem_take h))
                have h2 : (zs.take j).length ≤ 3 := by simp; omega
                have h3 := congrArg List.length hst
                have h4 : (kwStr ((2 : Nat) : Int)).length = 4 := rfl
                rw [List.length_append, h4] at h3
                have h5 : st.data.toList.length = st.size := by simp
                omega
              have HST := Lib.hid hst
              clear hst
              rcases Nat.lt_or_ge j zs.length with hlt | hge
              · obtain ⟨g, off, rfl, hg, hcell⟩ := HS2.out.at hlt
                have hsn := extStr_snoc (zs := zs) (i := j) hlt
                obtain ⟨z, hz⟩ : ∃ z, z = zs.getD j 0 := ⟨_, rfl⟩
                rw [← hz] at hcell hsn
                have hzr := HZR.out z (by rw [hz, List.getD_eq_getElem?_getD, List.getElem?_eq_getElem hlt]; exact List.getElem_mem _)
                have HSN := Lib.hid hsn
                clear hz hg hsn
                obtain ⟨hz0, hz1⟩ := hzr
                go_wp2_with (go_at_call 27; refine (digits_str z hz0 hz1 _).mono ?_; rintro e w1 ⟨t, rfl, ht, htl, rfl⟩)
                go_round
                case rel =>
                  refine ⟨j + 1, _, hlt, by simp, rfl, ?_⟩
                  rw [HSN.out]
                  simp [HST.out, ht.out]
                case measure => simp [intOf]; omega
              · have hje : j = zs.length := by omega
                subst hje
                go_wp2_with fail
                go_ret2
                refine ⟨?_, hbw.out⟩
                first | rw [HMK.out] | rw [show makeOf (2 : Int) zs el.data.toList = (textOf ((2 : Nat) : Int) zs el.data.toList, 0) from HMK.out]
                have e1 : st ++ el ++ ⟨#[62]⟩ = ⟨(textOf ((2 : Nat) : Int) zs el.data.toList).toArray⟩ := by
                  apply ByteArray.ext
                  apply Array.ext'
                  simp [textOf, HST.out]
                exact congrArg (fun t => Ending.returned (.tuple #[.string t, .int .i64 0])) e1
  · go_enter Tryd.func12, Tryd.ntmps12
    go_wp2_with fail
    go_loop [8] (fun i => ∃ j : Nat, j ≤ zs.length ∧ i = .int .i64 j ∧ badExt (zs.take j) = false) (fun i => zs.length - (intOf i).toNat)
    · exact ⟨0, Nat.zero_le _, rfl, rfl⟩
    · obtain ⟨j, hj, rfl, hb⟩ := hrel
      rcases Nat.lt_or_ge j zs.length with hlt | hge
      · obtain ⟨g, off, rfl, hg, hcell⟩ := HS.out.at hlt
        obtain ⟨z, hz⟩ : ∃ z, z = zs.getD j 0 := ⟨_, rfl⟩
        rw [← hz] at hcell
        have hbn : badExt (zs.take (j + 1)) = (decide (z < 0) || decide (1000 < z)) := by
          rw [List.take_add_one, List.getElem?_eq_getElem hlt]
          unfold badExt at hb ⊢
          rw [List.any_append, hb, hz]
          simp [hlt]
        have hbad : badExt (zs.take (j + 1)) = true → badExt zs = true := fun h => by
          unfold badExt at h ⊢
          rw [List.any_eq_true] at h ⊢
          obtain ⟨x, hx, h⟩ := h
          exact ⟨x, List.mem_of_mem_take hx, h⟩
        rw [hbn] at hbad
        have HBN := Lib.hid hbn
        have HBAD := Lib.hid hbad
        clear hz hb hbn hbad
        have hcs : z < 0 ∨ 1000 < z ∨ (0 ≤ z ∧ z ≤ 1000) := by omega
        rcases hcs with hz | hz | ⟨hz0, hz1⟩
        · go_wp2_with fail
          go_ret2
          exact ⟨by rw [makeOf, if_pos (.inr (.inr (HBAD.out (by simp; omega))))]; rfl, Below.refl _ _⟩
        · go_wp2_with fail
          go_ret2
          exact ⟨by rw [makeOf, if_pos (.inr (.inr (HBAD.out (by simp; omega))))]; rfl, Below.refl _ _⟩
        · go_wp2_with fail
          go_round
          case rel => exact ⟨_, _, .int .i64 ((j + 1 : Nat) : Int), ⟨j + 1, hlt, rfl, by rw [HBN.out]; simp; omega⟩, rfl, rfl, by simp⟩
          case measure => simp [intOf]; omega
      · have hjn : j = zs.length := by omega
        subst hjn
        rw [List.take_length] at hb
        have hno : ¬ (((3 : Nat) : Int) ≠ 2 ∧ ((3 : Nat) : Int) ≠ 3 ∨ 3 < zs.length ∨ badExt zs = true) := by rw [hb]; simp; omega
        have HNO := Lib.hid hno
        have HB := Lib.hid hb
        clear hno hb
        cases he : elemOf el.data.toList with
        | none =>
          have HE := Lib.hid he; clear he
          go_wp2_with (go_at_call 18; refine (risNum_any _ _).mono ?_; rintro e w1 ⟨rfl, rfl⟩; rw [HE.out, Option.isSome_none])
          go_ret2
          exact ⟨by rw [makeOf, if_neg HNO.out, if_pos HE.out]; rfl, Below.refl _ _⟩
        | some q =>
          have HE := Lib.hid he; clear he
          have hne : ¬ elemOf el.data.toList = none := by rw [HE.out]; simp
          have HNE := Lib.hid hne; clear hne
          by_cases hp : 4096 < prodW zs
          · have hmk : makeOf ((3 : Nat) : Int) zs el.data.toList = ([], 2) := by rw [makeOf, if_neg HNO.out, if_neg HNE.out, if_pos hp]
            have HMK := Lib.hid hmk; clear hmk
            go_wp2_with (first
              | (go_at_call 18; refine (risNum_any _ _).mono ?_; rintro e w1 ⟨rfl, rfl⟩; rw [HE.out, Option.isSome_some])
              | (go_at_call 39; refine (rcells_any _ _ a c zs _ _ (HS.out.below ((Below.refl _ w).alloc (Nat.le_refl _) _)) (by omega)).mono ?_; rintro e w2 ⟨rfl, hb2⟩))
            go_ret2
            exact ⟨by rw [HMK.out]; rfl, below_next ((Below.refl _ w).alloc (Nat.le_refl _) _) hb2⟩
          · have hmk : makeOf ((3 : Nat) : Int) zs el.data.toList = (textOf ((3 : Nat) : Int) zs el.data.toList, 0) := by rw [makeOf, if_neg HNO.out, if_neg HNE.out, if_neg hp]
            have HMK := Lib.hid hmk; clear hmk
            have hel := elemOf_len HE.out
            have hels : el.size ≤ 9 := by simp at hel; omega
            have hzr : ∀ z ∈ zs, 0 ≤ z ∧ z ≤ 1000 := fun z hz => by
              have := HB.out
              unfold badExt at this
              rw [List.any_eq_false] at this
              have := this z hz
              simp at this; omega
            have HZR := Lib.hid hzr
            clear hel hzr
            go_wp2_with (first
              | (go_at_call 18; refine (risNum_any _ _).mono ?_; rintro e w1 ⟨rfl, rfl⟩; rw [HE.out, Option.isSome_some])
              | (go_at_call 39; refine (rcells_any _ _ a c zs _ _ (HS.out.below ((Below.refl _ w).alloc (Nat.le_refl _) _)) (by omega)).mono ?_; rintro e w2 ⟨rfl, hb2⟩))
            have hbw := Lib.hid (below_next ((Below.refl _ w).alloc (Nat.le_refl _) _) hb2)
            have HS2 := Lib.hid (HS.out.below hbw.out)
            clear hb2
            go_loop [10, 11] (fun t i => ∃ (j : Nat) (st : ByteArray), j ≤ zs.length ∧ i = .int .i64 j ∧ t = .string st ∧ st.data.toList = kwStr ((3 : Nat) : Int) ++ extStr (zs.take j)) (fun _ i => zs.length - (intOf i).toNat)
            · exact ⟨0, _, Nat.zero_le _, rfl, rfl, rfl⟩
            · obtain ⟨j, st, hj, rfl, rfl, hst⟩ := hrel
              have hstl : st.size ≤ 19 := by
                have h1 := extStr_len (zs.take j) (fun z h => HZR.out z (List.mem_of_mem_take h))
                have h2 : (zs.take j).length ≤ 3 := by simp; omega
                have h3 := congrArg List.length hst
                have h4 : (kwStr ((3 : Nat) : Int)).length = 4 := rfl
                rw [List.length_append, h4] at h3
                have h5 : st.data.toList.length = st.size := by simp
                omega
              have HST := Lib.hid hst
              clear hst
              rcases Nat.lt_or_ge j zs.length with hlt | hge
              · obtain ⟨g, off, rfl, hg, hcell⟩ := HS2.out.at hlt
                have hsn := extStr_snoc (zs := zs) (i := j) hlt
                obtain ⟨z, hz⟩ : ∃ z, z = zs.getD j 0 := ⟨_, rfl⟩
                rw [← hz] at hcell hsn
                have hzr := HZR.out z (by rw [hz, List.getD_eq_getElem?_getD, List.getElem?_eq_getElem hlt]; exact List.getElem_mem _)
                have HSN := Lib.hid hsn
                clear hz hg hsn
                obtain ⟨hz0, hz1⟩ := hzr
                go_wp2_with (go_at_call 27; refine (digits_str z hz0 hz1 _).mono ?_; rintro e w1 ⟨t, rfl, ht, htl, rfl⟩)
                go_round
                case rel =>
                  refine ⟨j + 1, _, hlt, by simp, rfl, ?_⟩
                  rw [HSN.out]
                  simp [HST.out, ht.out]
                case measure => simp [intOf]; omega
              · have hje : j = zs.length := by omega
                subst hje
                go_wp2_with fail
                go_ret2
                refine ⟨?_, hbw.out⟩
                first | rw [HMK.out] | rw [show makeOf (3 : Int) zs el.data.toList = (textOf ((3 : Nat) : Int) zs el.data.toList, 0) from HMK.out]
                have e1 : st ++ el ++ ⟨#[62]⟩ = ⟨(textOf ((3 : Nat) : Int) zs el.data.toList).toArray⟩ := by
                  apply ByteArray.ext
                  apply Array.ext'
                  simp [textOf, HST.out]
                exact congrArg (fun t => Ending.returned (.tuple #[.string t, .int .i64 0])) e1
end Go.Proofs.YthgiianmfehcaaaDoor
