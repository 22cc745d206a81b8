/- The reference of types: number types, digits. -/
import Derived.Test.YthgiianmfehcaaaDoorRf0
namespace Go.Proofs.YthgiianmfehcaaaDoor
open Go Go.RowKit Go.Sort
set_option linter.unusedVariables false
set_option linter.unusedSimpArgs false

theorem elemOf_index : elemOf [105, 110, 100, 101, 120] = some ⟨1, 64, []⟩ := by rfl
theorem elemOf_i {l : List UInt8} (h : 105 :: l ≠ [105, 110, 100, 101, 120]) : elemOf (105 :: l) = match numOf l with | some n => if 0 < n ∧ n ≤ 64 then some ⟨0, n, []⟩ else none | none => none := by
  unfold elemOf; rw [if_neg h]; rfl
theorem elemOf_other {c : UInt8} {l : List UInt8} (h : c ≠ 105) : elemOf (c :: l) = none := by
  unfold elemOf
  rw [if_neg (by intro he; cases he; exact h rfl), if_neg]
  simp [Lib.hasPrefix, List.isPrefixOf, Ne.symm h]
/-- `number`: bits, whether it is the index type, whether it is a number type. -/
def NumTPost (l : List UInt8) (w : World) (e : Ending) (w' : World) : Prop :=
  w = w' ∧ match elemOf l with
  | some q => e = .returned (.tuple #[.int .i64 q.bits, .bool (q.kind == 1), .bool true])
  | none => ∃ v : Int, e = .returned (.tuple #[.int .i64 v, .bool false, .bool false])
theorem numT_yes {l : List UInt8} {w w' : World} {e : Ending} {q : Pd} (hw : w = w') (h : elemOf l = some q) (he : e = .returned (.tuple #[.int .i64 q.bits, .bool (q.kind == 1), .bool true])) : NumTPost l w e w' := ⟨hw, by rw [h]; exact he⟩
theorem numT_no {l : List UInt8} {w w' : World} {e : Ending} (v : Int) (hw : w = w') (h : elemOf l = none) (he : e = .returned (.tuple #[.int .i64 v, .bool false, .bool false])) : NumTPost l w e w' := ⟨hw, by rw [h]; exact ⟨v, he⟩⟩

set_option maxRecDepth 100000 in
set_option maxHeartbeats 1000000 in
theorem numT_any (s : ByteArray) (w : World) : Calls Tryd.prog 50 #[.string s] w (NumTPost s.data.toList w) := by
  have hl : s.data.toList.length = s.size := by simp
  by_cases hi : s.data.toList = [105, 110, 100, 101, 120]
  · have hs : s = ⟨#[105, 110, 100, 101, 120]⟩ := ByteArray.ext (by rw [← Array.toList_inj, hi])
    subst hs
    clear hl hi
    go_enter Tryd.func50, Tryd.ntmps50
    go_wp2_with fail
    go_ret3
    exact numT_yes rfl elemOf_index rfl
  · have hne : (s.toList == [105, 110, 100, 101, 120]) = false := by
      rw [beq_eq_false_iff_ne, ByteArray.toList_eq]; exact hi
    by_cases h0 : s.toList = []
    · have he : s.toList.isEmpty = true := by rw [h0]; rfl
      have hn : elemOf s.data.toList = none := by rw [(toList_nil_iff s).1 h0]; rfl
      have HN := Lib.hid hn
      clear hl hi hn h0
      go_enter Tryd.func50, Tryd.ntmps50
      go_wp2_with fail
      go_ret3
      exact numT_no 0 rfl HN.out rfl
    · have he : s.toList.isEmpty = false := by rw [List.isEmpty_eq_false_iff]; exact h0
      have h1 : 0 < s.size := by
        rcases Nat.eq_zero_or_pos s.size with h | h
        · exact absurd ((toList_nil_iff s).2 (List.length_eq_zero_iff.1 (by omega))) h0
        · exact h
      have hd := data_get s 0 h1
      rw [List.drop_zero] at hd
      by_cases hc : s[0]'h1 = 105
      · have hcn : ((s[0]'h1).toNat : Int) = 105 := by rw [hc]; rfl
        have hd1 : s.data.toList = 105 :: s.data.toList.drop 1 := by rw [hd, hc]; rfl
        have hel := elemOf_i (l := s.data.toList.drop 1) (by rw [← hd1]; exact hi)
        rw [← hd1] at hel
        have hex : (s.extract 1 s.size).data.toList = s.data.toList.drop 1 := by
          simp [ByteArray.data_extract]
          exact List.take_of_length_le (by simp)
        have HEX := Lib.hid hex
        have HEL := Lib.hid hel
        have hq1 : (1 : Int) ≤ (s.size : Int) := by omega
        clear hl hi hd hc hd1 hel hex h0
        cases hr : rnumOf (s.data.toList.drop 1) with
        | none =>
          have hno : elemOf s.data.toList = none := by
            rw [HEL.out]
            cases hn : numOf (s.data.toList.drop 1) with
            | none => rfl
            | some n =>
              dsimp only
              rw [if_neg]
              intro ⟨h1, h2⟩
              have := (rnum_small (l := s.data.toList.drop 1) (n := n) (by omega)).2 hn
              rw [hr] at this; cases this
          have HR := Lib.hid hr
          have HNO := Lib.hid hno
          clear hr hno
          go_enter Tryd.func50, Tryd.ntmps50
          go_wp2_with (go_at_call 58; refine (rnum_any _ _ _).mono ?_; rintro e w' ⟨rfl, rfl⟩; rw [HEX.out, HR.out]; (simp only [numRes]))
          go_ret3
          exact numT_no 0 rfl HNO.out rfl
        | some n =>
          by_cases hn : 0 < n ∧ n ≤ 64
          · have hyes : elemOf s.data.toList = some ⟨0, n, []⟩ := by
              rw [HEL.out, (rnum_small (by omega)).1 hr]
              dsimp only
              rw [if_pos hn]
            have HR := Lib.hid hr
            have HY := Lib.hid hyes
            have hn1 : (1 : Int) ≤ (n : Int) := by omega
            have hn2 : (n : Int) ≤ 64 := by omega
            clear hr hyes
            go_enter Tryd.func50, Tryd.ntmps50
            go_wp2_with (go_at_call 58; refine (rnum_any _ _ _).mono ?_; rintro e w' ⟨rfl, rfl⟩; rw [HEX.out, HR.out]; (simp only [numRes]))
            go_ret3
            exact numT_yes rfl HY.out (by simp [hn1, hn2])
          · have hno : elemOf s.data.toList = none := by
              rw [HEL.out]
              cases hm : numOf (s.data.toList.drop 1) with
              | none => rfl
              | some m =>
                dsimp only
                rw [if_neg]
                intro ⟨h1, h2⟩
                have := (rnum_small (l := s.data.toList.drop 1) (n := m) (by omega)).2 hm
                rw [hr] at this; cases this
                exact hn ⟨h1, h2⟩
            have HR := Lib.hid hr
            have HNO := Lib.hid hno
            have hn12 : ((n : Int) < 1 ∧ (n : Int) ≤ 64) ∨ (1 ≤ (n : Int) ∧ 64 < (n : Int)) := by omega
            clear hr hno
            rcases hn12 with ⟨h3, h4⟩ | ⟨h3, h4⟩
            all_goals
              go_enter Tryd.func50, Tryd.ntmps50
              go_wp2_with (go_at_call 58; refine (rnum_any _ _ _).mono ?_; rintro e w' ⟨rfl, rfl⟩; rw [HEX.out, HR.out]; (simp only [numRes]))
              go_ret3
              exact numT_no n rfl HNO.out (by simp [h3, h4]; try omega)
      · have hcn : ¬ ((s[0]'h1).toNat : Int) = 105 := by
          intro h; exact hc (UInt8.toNat_inj.1 (by simp; omega))
        have hno : elemOf s.data.toList = none := by rw [hd]; exact elemOf_other hc
        have HNO := Lib.hid hno
        clear hl hi hd hc h0 hno
        go_enter Tryd.func50, Tryd.ntmps50
        go_wp2_with fail
        go_ret3
        exact numT_no 0 rfl HNO.out rfl

/-- `IsNumber`, `Bits`. -/
theorem risNum_any (s : ByteArray) (w : World) : Calls Tryd.prog 18 #[.string s] w fun e w' => e = .returned (.bool (elemOf s.data.toList).isSome) ∧ w = w' := by
  cases h : elemOf s.data.toList with
  | some q =>
    have H := Lib.hid h; clear h
    go_enter Tryd.func18, Tryd.ntmps18
    go_wp2_with (go_at_call 50; refine (numT_any _ _).mono ?_; rintro e w' ⟨rfl, he⟩; rw [H.out] at he; (obtain rfl := he))
    go_ret
    exact ⟨rfl, rfl⟩
  | none =>
    have H := Lib.hid h; clear h
    go_enter Tryd.func18, Tryd.ntmps18
    go_wp2_with (go_at_call 50; refine (numT_any _ _).mono ?_; rintro e w' ⟨rfl, he⟩; rw [H.out] at he; obtain ⟨v, rfl⟩ := he)
    go_ret
    exact ⟨rfl, rfl⟩
theorem rbits_some (s : ByteArray) (w : World) (q : Pd) (h : elemOf s.data.toList = some q) : Calls Tryd.prog 19 #[.string s] w fun e w' => e = .returned (.int .i64 q.bits) ∧ w = w' := by
  have H := Lib.hid h; clear h
  go_enter Tryd.func19, Tryd.ntmps19
  go_wp2_with (go_at_call 50; refine (numT_any _ _).mono ?_; rintro e w' ⟨rfl, he⟩; rw [H.out] at he; (obtain rfl := he))
  go_ret
  exact ⟨rfl, rfl⟩
theorem rlow_any (b : Nat) (h1 : 1 ≤ b) (h2 : b ≤ 64) (w : World) : Calls Tryd.prog 20 #[.int .i64 b] w fun e w' => e = .returned (.int .i64 (-2 ^ (b - 1))) ∧ w = w' := by
  have hw := Lib.hid (wrap_low ⟨b, by omega⟩ (by simp; omega))
  have hb1 : (1 : Int) ≤ (b : Int) := by omega
  have hb2 : (b : Int) ≤ 64 := by omega
  go_enter Tryd.func20, Tryd.ntmps20
  go_wp2_with fail
  go_ret
  exact ⟨by simpa using hw.out, rfl⟩
theorem low_high : ∀ b : Fin 65, 1 ≤ b.val → wrap64 (-wrap64 (-2 ^ (b.val - 1) + 1)) = 2 ^ (b.val - 1) - 1 := by decide +kernel
theorem rhigh_any (b : Nat) (h1 : 1 ≤ b) (h2 : b ≤ 64) (w : World) : Calls Tryd.prog 21 #[.int .i64 b] w fun e w' => e = .returned (.int .i64 (2 ^ (b - 1) - 1)) ∧ w = w' := by
  have hw := Lib.hid (low_high ⟨b, by omega⟩ (by simp; omega))
  go_enter Tryd.func21, Tryd.ntmps21
  go_wp2_with (go_at_call 20; refine (rlow_any b h1 h2 _).mono ?_; rintro e w' ⟨rfl, rfl⟩)
  go_ret
  exact ⟨by simpa using hw.out, rfl⟩
set_option maxRecDepth 100000 in
theorem rwrap_any (b : Nat) (h1 : 1 ≤ b) (h2 : b ≤ 64) (n : Int) (hn0 : -9223372036854775808 ≤ n) (hn1 : n ≤ 9223372036854775807) (w : World) : Calls Tryd.prog 22 #[.int .i64 b, .int .i64 n] w fun e w' => e = .returned (.int .i64 (IntKind.i64.wrap (n * 2 ^ (64 - b)) / 2 ^ (64 - b))) ∧ w = w' := by
  have hb1 : (1 : Int) ≤ (b : Int) := by omega
  have hb2 : (b : Int) ≤ 64 := by omega
  have hsub : ((64 : Int) - (b : Int)).toNat = 64 - b := by omega
  go_enter Tryd.func22, Tryd.ntmps22
  go_wp2_with fail
  go_ret
  exact ⟨by simp [hsub, IntKind.wrap_i64, wrap64], rfl⟩
set_option maxRecDepth 100000 in
theorem runsigned_any (b : Nat) (h1 : 1 ≤ b) (h2 : b ≤ 64) (n : Int) (hn0 : -9223372036854775808 ≤ n) (hn1 : n ≤ 9223372036854775807) (w : World) : Calls Tryd.prog 23 #[.int .i64 b, .int .i64 n] w fun e w' => e = .returned (.int .u64 (IntKind.u64.wrap (IntKind.u64.wrap n * 2 ^ (64 - b)) / 2 ^ (64 - b))) ∧ w = w' := by
  have hb1 : (1 : Int) ≤ (b : Int) := by omega
  have hb2 : (b : Int) ≤ 64 := by omega
  have hsub : ((64 : Int) - (b : Int)).toNat = 64 - b := by omega
  go_enter Tryd.func23, Tryd.ntmps23
  go_wp2_with fail
  go_ret
  exact ⟨by simp [hsub], rfl⟩
end Go.Proofs.YthgiianmfehcaaaDoor
