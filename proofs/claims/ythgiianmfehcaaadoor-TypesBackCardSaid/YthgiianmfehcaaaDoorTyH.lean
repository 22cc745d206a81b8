/- Package types: Make. -/
import Derived.Test.YthgiianmfehcaaaDoorTyG
import Derived.WalkMore
namespace Go.Proofs.YthgiianmfehcaaaDoor
open Go Go.RowKit Go.Sort
set_option linter.unusedVariables false
set_option linter.unusedSimpArgs false

/-- A slice of ints that is read. -/
def IntSl (w : World) (a : Option Addr) (zs : List Int) : Prop :=
  zs = [] ∨ ∃ g off, a = some ⟨g, off, none⟩ ∧ g < w.heap.size ∧ ∀ j, j < zs.length → w.cell? ⟨g, off + j, none⟩ = some (.int .i64 (zs.getD j 0))
theorem IntSl.below {w w1 : World} {a : Option Addr} {zs : List Int} (h : IntSl w a zs) (hb : Below w.heap.size w w1) : IntSl w1 a zs := by
  rcases h with h | ⟨g, off, h1, h2, h3⟩
  · exact .inl h
  · exact .inr ⟨g, off, h1, Nat.lt_of_lt_of_le h2 hb.size, fun j hj => (rdCell hb g h2 (off + j)).trans (h3 j hj)⟩
theorem IntSl.at {w : World} {a : Option Addr} {zs : List Int} (h : IntSl w a zs) {j : Nat} (hj : j < zs.length) : ∃ g off, a = some ⟨g, off, none⟩ ∧ g < w.heap.size ∧ w.cell? ⟨g, off + j, none⟩ = some (.int .i64 (zs.getD j 0)) := by
  rcases h with rfl | ⟨g, off, h1, h2, h3⟩
  · simp at hj
  · exact ⟨g, off, h1, h2, h3 j hj⟩
theorem prod_sl {w : World} {a : Option Addr} {zs : List Int} (h : IntSl w a zs) (c : Nat) (hl : zs.length ≤ 9223372036854775807) :
    Calls Tryd.prog 43 #[.slice a zs.length c] w fun e w' => e = .returned (.int .i64 (prodW zs)) ∧ w = w' := by
  rcases h with rfl | ⟨g, off, rfl, h2, h3⟩
  · exact product_nil c a w
  · refine (product_any g off zs.length c zs w (Nat.le_refl _) hl (fun j hj => by rw [h3 j hj, List.getD_eq_getElem?_getD])).mono fun e w' ⟨he, hw⟩ => ⟨by rw [he, List.take_length], hw⟩
theorem elemOf_len {l : List UInt8} {q : Pd} (h : elemOf l = some q) : l.length ≤ 9 := by
  unfold elemOf at h
  split at h
  · rename_i h1; rw [h1]; decide
  · split at h
    · split at h
      · rename_i n hn
        unfold numOf at hn
        split at hn
        · cases hn
        · rename_i h2
          have : l.tail.length ≤ 8 := by omega
          simp at this; omega
      · cases h
    · cases h
def badExt (zs : List Int) : Bool := zs.any fun z => decide (z < 0) || decide (1000 < z)
/-- `types.Make`. -/
def makeOf (k : Int) (zs : List Int) (el : List UInt8) : List UInt8 × Nat :=
  if (k ≠ 2 ∧ k ≠ 3) ∨ 3 < zs.length ∨ badExt zs = true then ([], 1)
  else if elemOf el = none then ([], 10)
  else if 4096 < prodW zs then ([], 2)
  else (textOf k zs el, 0)
section
set_option maxRecDepth 100000 in
set_option maxHeartbeats 2000000 in
theorem make_kind (k : Int) (a : Option Addr) (n c : Nat) (el : ByteArray) (w : World) (h : (k ≠ 2 ∧ k ≠ 3) ∨ 3 < (n : Int)) :
    Calls Tryd.prog 11 #[.int .i64 k, .slice a n c, .string el] w fun e w' => e = .returned (.tuple #[.string ⟨#[]⟩, .int .i64 1]) ∧ w = w' := by
  by_cases h1 : k ≠ 2 ∧ k ≠ 3
  · obtain ⟨h1, h2⟩ := h1
    clear h
    go_enter Tryd.func11, Tryd.ntmps11
    go_wp2_with fail
    go_step3
    go_wp2_with fail
    try rw [Exit.noGoto_ret]
    go_ret2
    exact ⟨rfl, rfl⟩
  · have h3 : 3 < (n : Int) := by omega
    have hk : k = 2 ∨ k = 3 := by omega
    clear h h1
    rcases hk with rfl | rfl
    all_goals
      go_enter Tryd.func11, Tryd.ntmps11
      go_wp2_with fail
      go_step3
      go_wp2_with fail
      try rw [Exit.noGoto_ret]
      go_ret2
      exact ⟨rfl, rfl⟩
set_option maxRecDepth 100000 in
set_option maxHeartbeats 2000000 in
theorem make_rest (k : Nat) (hk : k = 2 ∨ k = 3) (a : Option Addr) (c : Nat) (zs : List Int) (el : ByteArray) (w : World) (hp : Pow w) (hs : IntSl w a zs) (hn : zs.length ≤ 3) :
    Calls Tryd.prog 11 #[.int .i64 k, .slice a zs.length c, .string el] w fun e w' => e = .returned (.tuple #[.string ⟨(makeOf k zs el.data.toList).1.toArray⟩, .int .i64 (makeOf k zs el.data.toList).2]) ∧ Below w.heap.size w w' := by
  have HS := Lib.hid hs
  have HP := Lib.hid hp
  have hn3 : ((zs.length : Nat) : Int) ≤ 3 := by omega
  clear hs hp
  rcases hk with rfl | rfl
  · go_enter Tryd.func11, Tryd.ntmps11
    go_wp2_with fail
    go_step3
    go_wp2_with fail
    go_step3
    go_wp2_with fail
    go_loop [25] (fun i => ∃ j : Nat, j ≤ zs.length ∧ i = .int .i64 j ∧ badExt (zs.take j) = false) (fun i => zs.length - (intOf i).toNat)
    · exact ⟨0, Nat.zero_le _, rfl, rfl⟩
    · obtain ⟨j, hj, rfl, hb⟩ := hrel
      rcases Nat.lt_or_ge j zs.length with hlt | hge
      · obtain ⟨g, off, rfl, hg, hcell⟩ := HS.out.at hlt
        obtain ⟨z, hz⟩ : ∃ z, z = zs.getD j 0 := ⟨_, rfl⟩
        rw [← hz] at hcell
        have hbn : badExt (zs.take (j + 1)) = (decide (z < 0) || decide (1000 < z)) := by
          rw [List.take_add_one, List.getElem?_eq_getElem hlt]
          unfold badExt at hb ⊢
          rw [List.any_append, hb, hz]
          simp [hlt]
        have hbad : badExt (zs.take (j + 1)) = true → badExt zs = true := fun h => by
          unfold badExt at h ⊢
          rw [List.any_eq_true] at h ⊢
          obtain ⟨x, hx, h⟩ := h
          exact ⟨x, List.mem_of_mem_take hx, h⟩
        rw [hbn] at hbad
        have HBN := Lib.hid hbn
        have HBAD := Lib.hid hbad
        clear hz hb hbn hbad
        have hcs : z < 0 ∨ 1000 < z ∨ (0 ≤ z ∧ z ≤ 1000) := by omega
        rcases hcs with hz | hz | ⟨hz0, hz1⟩
        · go_wp2_with fail
          try rw [Exit.noGoto_ret]
          go_ret2
          exact ⟨by rw [makeOf, if_pos (.inr (.inr (HBAD.out (by simp; omega))))]; rfl, Below.refl _ _⟩
        · go_wp2_with fail
          try rw [Exit.noGoto_ret]
          go_ret2
          exact ⟨by rw [makeOf, if_pos (.inr (.inr (HBAD.out (by simp; omega))))]; rfl, Below.refl _ _⟩
        · go_wp2_with fail
          go_round
          · exact ⟨j + 1, hlt, by simp, by rw [HBN.out]; simp; omega⟩
          · simp [intOf]; omega
      · have hjn : j = zs.length := by omega
        subst hjn
        rw [List.take_length] at hb
        have hno : ¬ (((2 : Nat) : Int) ≠ 2 ∧ ((2 : Nat) : Int) ≠ 3 ∨ 3 < zs.length ∨ badExt zs = true) := by rw [hb]; simp; omega
        have HNO := Lib.hid hno
        have HB := Lib.hid hb
        clear hno hb
        cases he : elemOf el.data.toList with
        | none =>
          have HE := Lib.hid he; clear he
          go_wp2_with (go_at_call 42; refine (element_no _ _ HE.out).mono ?_; rintro e w1 ⟨ga, gb, rfl, hb1⟩)
          try rw [Exit.noGoto_ret]
          go_ret2
          exact ⟨by rw [makeOf, if_neg HNO.out, if_pos HE.out]; rfl, hb1.alloc hb1.size _⟩
        | some q =>
          have HE := Lib.hid he; clear he
          have hne : ¬ elemOf el.data.toList = none := by rw [HE.out]; simp
          have HNE := Lib.hid hne; clear hne
          by_cases hp : 4096 < prodW zs
          · have hmk : makeOf ((2 : Nat) : Int) zs el.data.toList = ([], 2) := by rw [makeOf, if_neg HNO.out, if_neg HNE.out, if_pos hp]
            have HMK := Lib.hid hmk; clear hmk
            go_wp2_with (first
              | (go_at_call 42; refine (element_yes _ _ _ HE.out).mono ?_; rintro e w1 ⟨rfl, hb1⟩)
              | (go_at_call 43; refine (prod_sl ((HS.out.below hb1).below ((Below.refl _ w1).alloc (Nat.le_refl _) _)) c (by omega)).mono ?_; rintro e w2 ⟨rfl, rfl⟩))
            try rw [Exit.noGoto_ret]
            go_ret2
            exact ⟨by rw [HMK.out]; rfl, hb1.alloc hb1.size _⟩
          · have hmk : makeOf ((2 : Nat) : Int) zs el.data.toList = (textOf ((2 : Nat) : Int) zs el.data.toList, 0) := by rw [makeOf, if_neg HNO.out, if_neg HNE.out, if_neg hp]
            have HMK := Lib.hid hmk; clear hmk
            have hel := elemOf_len HE.out
            have hels : el.size ≤ 1000 := by simp at hel; omega
            have hzr : ∀ z ∈ zs, 0 ≤ z ∧ z ≤ 1000 := fun z hz => by
              have := HB.out
              unfold badExt at this
              rw [List.any_eq_false] at this
              have := this z hz
              simp at this; omega
            have HZR := Lib.hid hzr
            clear hel hzr
            go_wp2_with (first
              | (go_at_call 42; refine (element_yes _ _ _ HE.out).mono ?_; rintro e w1 ⟨rfl, hb1⟩)
              | (go_at_call 43; refine (prod_sl ((HS.out.below hb1).below ((Below.refl _ w1).alloc (Nat.le_refl _) _)) c (by omega)).mono ?_; rintro e w2 ⟨rfl, rfl⟩)
              | (go_at_call 44; refine (text_any 2 (by decide) a zs.length c zs el _ ?_ rfl HZR.out hn hels ?_).mono ?_; (exact pow_below HP.out (hb1.alloc hb1.size _)); (exact fun j hj => ((HS.out.below hb1).below ((Below.refl _ w1).alloc (Nat.le_refl _) _)).at hj); rintro e w3 ⟨rfl, hb3⟩))
            try rw [Exit.noGoto_ret]
            go_ret2
            exact ⟨by rw [HMK.out]; rfl, below_next (hb1.alloc hb1.size _) hb3⟩
  · go_enter Tryd.func11, Tryd.ntmps11
    go_wp2_with fail
    go_step3
    go_wp2_with fail
    go_step3
    go_wp2_with fail
    go_loop [25] (fun i => ∃ j : Nat, j ≤ zs.length ∧ i = .int .i64 j ∧ badExt (zs.take j) = false) (fun i => zs.length - (intOf i).toNat)
    · exact ⟨0, Nat.zero_le _, rfl, rfl⟩
    · obtain ⟨j, hj, rfl, hb⟩ := hrel
      rcases Nat.lt_or_ge j zs.length with hlt | hge
      · obtain ⟨g, off, rfl, hg, hcell⟩ := HS.out.at hlt
        obtain ⟨z, hz⟩ : ∃ z, z = zs.getD j 0 := ⟨_, rfl⟩
        rw [← hz] at hcell
        have hbn : badExt (zs.take (j + 1)) = (decide (z < 0) || decide (1000 < z)) := by
          rw [List.take_add_one, List.getElem?_eq_getElem hlt]
          unfold badExt at hb ⊢
          rw [List.any_append, hb, hz]
          simp [hlt]
        have hbad : badExt (zs.take (j + 1)) = true → badExt zs = true := fun h => by
          unfold badExt at h ⊢
          rw [List.any_eq_true] at h ⊢
          obtain ⟨x, hx, h⟩ := h
          exact ⟨x, List.mem_of_mem_take hx, h⟩
        rw [hbn] at hbad
        have HBN := Lib.hid hbn
        have HBAD := Lib.hid hbad
        clear hz hb hbn hbad
        have hcs : z < 0 ∨ 1000 < z ∨ (0 ≤ z ∧ z ≤ 1000) := by omega
        rcases hcs with hz | hz | ⟨hz0, hz1⟩
        · go_wp2_with fail
          try rw [Exit.noGoto_ret]
          go_ret2
          exact ⟨by rw [makeOf, if_pos (.inr (.inr (HBAD.out (by simp; omega))))]; rfl, Below.refl _ _⟩
        · go_wp2_with fail
          try rw [Exit.noGoto_ret]
          go_ret2
          exact ⟨by rw [makeOf, if_pos (.inr (.inr (HBAD.out (by simp; omega))))]; rfl, Below.refl _ _⟩
        · go_wp2_with fail
          go_round
          · exact ⟨j + 1, hlt, by simp, by rw [HBN.out]; simp; omega⟩
          · simp [intOf]; omega
      · have hjn : j = zs.length := by omega
        subst hjn
        rw [List.take_length] at hb
        have hno : ¬ (((3 : Nat) : Int) ≠ 2 ∧ ((3 : Nat) : Int) ≠ 3 ∨ 3 < zs.length ∨ badExt zs = true) := by rw [hb]; simp; omega
        have HNO := Lib.hid hno
        have HB := Lib.hid hb
        clear hno hb
        cases he : elemOf el.data.toList with
        | none =>
          have HE := Lib.hid he; clear he
          go_wp2_with (go_at_call 42; refine (element_no _ _ HE.out).mono ?_; rintro e w1 ⟨ga, gb, rfl, hb1⟩)
          try rw [Exit.noGoto_ret]
          go_ret2
          exact ⟨by rw [makeOf, if_neg HNO.out, if_pos HE.out]; rfl, hb1.alloc hb1.size _⟩
        | some q =>
          have HE := Lib.hid he; clear he
          have hne : ¬ elemOf el.data.toList = none := by rw [HE.out]; simp
          have HNE := Lib.hid hne; clear hne
          by_cases hp : 4096 < prodW zs
          · have hmk : makeOf ((3 : Nat) : Int) zs el.data.toList = ([], 2) := by rw [makeOf, if_neg HNO.out, if_neg HNE.out, if_pos hp]
            have HMK := Lib.hid hmk; clear hmk
            go_wp2_with (first
              | (go_at_call 42; refine (element_yes _ _ _ HE.out).mono ?_; rintro e w1 ⟨rfl, hb1⟩)
              | (go_at_call 43; refine (prod_sl ((HS.out.below hb1).below ((Below.refl _ w1).alloc (Nat.le_refl _) _)) c (by omega)).mono ?_; rintro e w2 ⟨rfl, rfl⟩))
            try rw [Exit.noGoto_ret]
            go_ret2
            exact ⟨by rw [HMK.out]; rfl, hb1.alloc hb1.size _⟩
          · have hmk : makeOf ((3 : Nat) : Int) zs el.data.toList = (textOf ((3 : Nat) : Int) zs el.data.toList, 0) := by rw [makeOf, if_neg HNO.out, if_neg HNE.out, if_neg hp]
            have HMK := Lib.hid hmk; clear hmk
            have hel := elemOf_len HE.out
            have hels : el.size ≤ 1000 := by simp at hel; omega
            have hzr : ∀ z ∈ zs, 0 ≤ z ∧ z ≤ 1000 := fun z hz => by
              have := HB.out
              unfold badExt at this
              rw [List.any_eq_false] at this
              have := this z hz
              simp at this; omega
            have HZR := Lib.hid hzr
            clear hel hzr
            go_wp2_with (first
              | (go_at_call 42; refine (element_yes _ _ _ HE.out).mono ?_; rintro e w1 ⟨rfl, hb1⟩)
              | (go_at_call 43; refine (prod_sl ((HS.out.below hb1).below ((Below.refl _ w1).alloc (Nat.le_refl _) _)) c (by omega)).mono ?_; rintro e w2 ⟨rfl, rfl⟩)
              | (go_at_call 44; refine (text_any 3 (by decide) a zs.length c zs el _ ?_ rfl HZR.out hn hels ?_).mono ?_; (exact pow_below HP.out (hb1.alloc hb1.size _)); (exact fun j hj => ((HS.out.below hb1).below ((Below.refl _ w1).alloc (Nat.le_refl _) _)).at hj); rintro e w3 ⟨rfl, hb3⟩))
            try rw [Exit.noGoto_ret]
            go_ret2
            exact ⟨by rw [HMK.out]; rfl, below_next (hb1.alloc hb1.size _) hb3⟩
end
end Go.Proofs.YthgiianmfehcaaaDoor
