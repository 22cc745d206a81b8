/- The number with which bytes begin: program and reference. -/
import Derived.Test.YtligbbhdbpjdjaaGreatDoorBn2
namespace Go.Proofs.YtligbbhdbpjdjaaGreatDoor
open Go Go.RowKit Go.Sort
set_option linter.unusedVariables false
set_option linter.unusedSimpArgs false

theorem bitLen_le : ∀ p : Fin 128, Lib.bitLen p.val ≤ 7 := by decide +kernel
theorem bitLen_two : ∀ p : Fin 128, 1 < p.val → 2 ≤ Lib.bitLen p.val := by decide +kernel
theorem bitLen_one : ∀ p : Fin 128, p.val ≤ 1 → Lib.bitLen p.val ≤ 1 := by decide +kernel
theorem pow7 (j : Nat) : (2 : Nat) ^ (7 * (j + 1)) = 128 * 2 ^ (7 * j) := by rw [Nat.mul_add, Nat.pow_add, Nat.mul_comm]
theorem pow_le8 : ∀ j : Fin 9, (2 : Nat) ^ (7 * j.val) ≤ 72057594037927936 := by decide +kernel
theorem wrap_small {q : Nat} (h : q < 18446744073709551616) : IntKind.u64.wrap (q : Int) = q := wraps_u64 _ (by omega) (by omega)
def readRes (o : Option (Nat × Nat)) : Value :=
  match o with
  | some (n, k) => .tuple #[.int .u64 n, .int .i64 k, .int .i64 0]
  | none => .tuple #[.int .u64 0, .int .i64 0, .int .i64 80]
def ReadPostB (o : Option (Nat × Nat)) (w : World) (e : Ending) (w' : World) : Prop := e = .returned (readRes o) ∧ w = w'
theorem readB_cons (x : UInt8) (r : List UInt8) (j acc : Nat) : readB (x :: r) j acc = if 10 ≤ j then none
    else if j = 9 ∧ 1 < x.toNat % 128 then none
    else if 128 ≤ x.toNat then readB r (j + 1) (acc + x.toNat % 128 * 2 ^ (7 * j))
    else if x = 0 ∧ 0 < j then none
    else some (acc + x.toNat % 128 * 2 ^ (7 * j), j + 1) := rfl
/-- One byte more. -/
theorem read_step {j acc p acc2 : Nat} (hj : j ≤ 9) (hp : p < 128) (h9 : j = 9 → p ≤ 1) (ha : acc < 2 ^ (7 * j)) (h2 : acc2 = acc + p * 2 ^ (7 * j)) :
    acc2 < 2 ^ (7 * (j + 1)) ∧ acc2 < 18446744073709551616 ∧ p * 2 ^ (7 * j) < 18446744073709551616 := by
  have hm : p * 2 ^ (7 * j) ≤ 127 * 2 ^ (7 * j) := Nat.mul_le_mul_right _ (by omega)
  refine ⟨by rw [pow7]; omega, ?_⟩
  rcases Nat.lt_or_ge j 9 with h | h
  · have := pow_le8 ⟨j, h⟩
    dsimp only at this
    omega
  · obtain rfl : j = 9 := by omega
    have h1 := h9 rfl
    have h3 : (2 : Nat) ^ (7 * 9) = 9223372036854775808 := by decide
    rw [h3] at *
    omega

set_option maxRecDepth 100000 in
set_option maxHeartbeats 4000000 in
theorem readNumber_b (a : Option Addr) (c : Nat) (bs : List UInt8) (w : World) (hs : ByteSl w a bs) (hl : bs.length ≤ 9223372036854775807) :
    Calls Tryz.prog 7 #[.slice a bs.length c] w (ReadPostB (readB bs 0 0) w) := by
  have HS := Lib.hid hs
  clear hs
  go_enter Tryz.func7, Tryz.ntmps7
  go_wp2_with fail
  go_loop [2, 11] (fun nv iv => ∃ (j acc : Nat), j ≤ bs.length ∧ j ≤ 10 ∧ iv = .int .i64 j ∧ nv = .int .u64 acc ∧ acc < 18446744073709551616 ∧ acc < 2 ^ (7 * j) ∧ readB (bs.drop j) j acc = readB bs 0 0) (fun _ iv => bs.length - (intOf iv).toNat)
  case atStart => exact ⟨0, 0, Nat.zero_le _, by omega, rfl, rfl, by omega, by decide, rfl⟩
  case round =>
    obtain ⟨j, acc, hj, hj10, rfl, rfl, hacc, hacc2, hread⟩ := hrel
    have HREAD := Lib.hid hread
    have HACC := Lib.hid hacc2
    clear hread hacc2
    rcases Nat.lt_or_ge j bs.length with hlt | hge
    · obtain ⟨g, off, rfl, hg, hcell⟩ := HS.out.at hlt
      obtain ⟨x, hx⟩ : ∃ x, x = bs[j] := ⟨_, rfl⟩
      rw [← hx] at hcell
      have hd : bs.drop j = x :: bs.drop (j + 1) := by rw [hx]; exact List.drop_eq_getElem_cons hlt
      have hr := HREAD.out
      rw [hd, readB_cons] at hr
      have hx256 : (x.toNat : Int) < 256 := by have := x.toNat_lt; omega
      obtain ⟨p, hp⟩ : ∃ p : Nat, p = x.toNat % 128 := ⟨_, rfl⟩
      rw [← hp] at hr
      have hnot : bits .andNot .u8 (x.toNat : Int) 128 = (p : Int) := by rw [not128_of (by omega) hx256, hp]; omega
      have hp128 : p < 128 := by omega
      have hlt' : (j : Int) < (bs.length : Int) := by omega
      have HP := Lib.hid hp
      clear hx hp hg hd
      rcases Nat.lt_or_ge j 10 with hj9 | hj9
      · have hj63 : 7 * (j : Int) ≤ 63 := by omega
        rw [if_neg (by omega)] at hr
        by_cases hbig : j = 9 ∧ 1 < p
        · rw [if_pos hbig] at hr
          have hbl := bitLen_two ⟨p, hp128⟩ hbig.2
          have hbl7 := bitLen_le ⟨p, hp128⟩
          dsimp only at hbl hbl7
          have hw : (64 : Int) < (Lib.bitLen p : Int) + 7 * (j : Int) := by omega
          have HR := Lib.hid hr
          clear hr hbig
          go_wp2_with (go_at_call 16; refine (Tryz.bits_Len64 _ _ (by omega) (by omega)).mono ?_; rintro e w1 ⟨rfl, rfl⟩)
          go_ret3
          exact ⟨by rw [← HR.out]; rfl, rfl⟩
        · rw [if_neg hbig] at hr
          have hbl7 := bitLen_le ⟨p, hp128⟩
          have hbl1 := bitLen_one ⟨p, hp128⟩
          dsimp only at hbl1 hbl7
          have hw : (Lib.bitLen p : Int) + 7 * (j : Int) ≤ 64 := by
            by_cases h9 : j = 9
            · have := hbl1 (by omega); omega
            · omega
          obtain ⟨acc2, h2⟩ : ∃ acc2, acc2 = acc + p * 2 ^ (7 * j) := ⟨_, rfl⟩
          obtain ⟨hs1, hs2, hs3⟩ := read_step (j := j) (by omega) hp128 (by omega) HACC.out h2
          rw [← h2] at hr
          have hor : bits .or .u64 (acc : Int) (IntKind.u64.wrap ((p : Int) * 2 ^ (7 * j))) = (acc2 : Int) := by
            have h3 : (p : Int) * 2 ^ (7 * j) = ((p * 2 ^ (7 * j) : Nat) : Int) := by rw [Int.natCast_mul, Int.natCast_pow]; rfl
            rw [h3, wrap_small hs3, or_shift HACC.out hacc hs3, ← h2]
          have HR := Lib.hid hr
          have HS1 := Lib.hid hs1
          have hx0 : x.toNat = 0 → x = 0 := fun h => UInt8.toNat_inj.1 (by simpa using h)
          have HX0 := Lib.hid hx0
          clear hr hbig hbl1 h2 hs1 hs3 hx0
          by_cases h128 : (128 : Int) ≤ (x.toNat : Int)
          · go_wp2_with (go_at_call 16; refine (Tryz.bits_Len64 _ _ (by omega) (by omega)).mono ?_; rintro e w1 ⟨rfl, rfl⟩)
            go_round
            case rel => exact ⟨j + 1, acc2, hlt, by omega, by simp, rfl, hs2, HS1.out, by rw [← HR.out, if_pos (by omega)]⟩
            case measure => simp [intOf]; omega
          · have hr2 := HR.out
            rw [if_neg (by omega)] at hr2
            have HR2 := Lib.hid hr2
            have hx128 : (x.toNat : Int) < 128 := by omega
            clear hr2 HR h128
            go_wp2_with (go_at_call 16; refine (Tryz.bits_Len64 _ _ (by omega) (by omega)).mono ?_; rintro e w1 ⟨rfl, rfl⟩)
            · have h0 : x.toNat = 0 := by assumption
              have h1 : 0 < j := by assumption
              go_ret3
              exact ⟨by rw [← HR2.out, if_pos ⟨HX0.out h0, h1⟩]; rfl, rfl⟩
            · have h1 : ¬ 0 < j := by assumption
              go_ret3
              exact ⟨by rw [← HR2.out, if_neg (fun h => h1 h.2)]; rfl, rfl⟩
            · have h0 : ¬ x.toNat = 0 := by assumption
              go_ret3
              exact ⟨by rw [← HR2.out, if_neg (fun h => h0 (by rw [h.1]; rfl))]; rfl, rfl⟩
      · have hj63 : (63 : Int) < 7 * (j : Int) := by omega
        rw [if_pos hj9] at hr
        have HR := Lib.hid hr
        clear hr
        go_wp2_with fail
        go_ret3
        exact ⟨by rw [← HR.out]; rfl, rfl⟩
    · have hje : j = bs.length := by omega
      subst hje
      have hr := HREAD.out
      rw [List.drop_length, readB] at hr
      have HR := Lib.hid hr
      clear hr
      go_wp2_with fail
      go_ret3
      exact ⟨by rw [← HR.out]; rfl, rfl⟩
def rreadRes (o : Option (Nat × Nat)) : Value :=
  match o with
  | some (n, k) => .tuple #[.int .u64 n, .int .i64 k]
  | none => .tuple #[.int .u64 0, .int .i64 0]
def RReadPostB (o : Option (Nat × Nat)) (w : World) (e : Ending) (w' : World) : Prop := e = .returned (rreadRes o) ∧ w = w'
set_option maxRecDepth 100000 in
set_option maxHeartbeats 4000000 in
theorem rreadNumber_b (a : Option Addr) (c : Nat) (bs : List UInt8) (w : World) (hs : ByteSl w a bs) (hl : bs.length ≤ 9223372036854775807) :
    Calls Tryz.prog 12 #[.slice a bs.length c] w (RReadPostB (readB bs 0 0) w) := by
  have HS := Lib.hid hs
  clear hs
  go_enter Tryz.func12, Tryz.ntmps12
  go_wp2_with fail
  go_loop [4, 5] (fun nv iv => ∃ (j acc : Nat), j ≤ bs.length ∧ j ≤ 10 ∧ iv = .int .i64 j ∧ nv = .int .u64 acc ∧ acc < 18446744073709551616 ∧ acc < 2 ^ (7 * j) ∧ readB (bs.drop j) j acc = readB bs 0 0) (fun _ iv => bs.length - (intOf iv).toNat)
  case atStart => exact ⟨0, 0, Nat.zero_le _, by omega, rfl, rfl, by omega, by decide, rfl⟩
  case round =>
    obtain ⟨j, acc, hj, hj10, rfl, rfl, hacc, hacc2, hread⟩ := hrel
    have HREAD := Lib.hid hread
    have HACC := Lib.hid hacc2
    clear hread hacc2
    rcases Nat.lt_or_ge j bs.length with hlt | hge
    · obtain ⟨g, off, rfl, hg, hcell⟩ := HS.out.at hlt
      obtain ⟨x, hx⟩ : ∃ x, x = bs[j] := ⟨_, rfl⟩
      rw [← hx] at hcell
      have hd : bs.drop j = x :: bs.drop (j + 1) := by rw [hx]; exact List.drop_eq_getElem_cons hlt
      have hr := HREAD.out
      rw [hd, readB_cons] at hr
      have hx256 : (x.toNat : Int) < 256 := by have := x.toNat_lt; omega
      obtain ⟨p, hp⟩ : ∃ p : Nat, p = x.toNat % 128 := ⟨_, rfl⟩
      rw [← hp] at hr
      have hmod : (x.toNat : Int) % 128 = (p : Int) := by omega
      have hp128 : p < 128 := by omega
      have hlt' : (j : Int) < (bs.length : Int) := by omega
      have HP := Lib.hid hp
      clear hx hp hg hd
      rcases Nat.lt_or_ge j 10 with hj9 | hj9
      · have hj10b : decide ((j : Int) < 10) = true := by simp; omega
        rw [if_neg (by omega)] at hr
        by_cases hbig : j = 9 ∧ 1 < p
        · rw [if_pos hbig] at hr
          have hb1 : ((j : Int) == 9) = true := by rw [beq_iff_eq]; omega
          have hb2 : decide ((1 : Int) < (p : Int)) = true := by simp; omega
          have hb3 : (1 : Int) < (p : Int) := by omega
          have HR := Lib.hid hr
          clear hr hbig
          go_wp2_with fail
          go_ret2
          exact ⟨by rw [← HR.out]; rfl, rfl⟩
        · rw [if_neg hbig] at hr
          have hb : ((j : Int) == 9) = false ∨ (((j : Int) == 9) = true ∧ (p : Int) ≤ 1) := by
            by_cases h9 : j = 9
            · exact .inr ⟨by rw [beq_iff_eq]; omega, by omega⟩
            · exact .inl (by rw [beq_eq_false_iff_ne]; omega)
          obtain ⟨q, hq⟩ : ∃ q, q = p * 2 ^ (7 * j) := ⟨_, rfl⟩
          obtain ⟨hs1, hs2, hs3⟩ := read_step (j := j) (acc2 := acc + q) (by omega) hp128 (by omega) HACC.out (by rw [hq])
          rw [← hq] at hr
          have hwq : IntKind.u64.wrap ((p : Int) * 2 ^ (7 * j)) = (q : Int) := by
            have h3 : (p : Int) * 2 ^ (7 * j) = ((p * 2 ^ (7 * j) : Nat) : Int) := by rw [Int.natCast_mul, Int.natCast_pow]; rfl
            rw [h3, wrap_small hs3, ← hq]
          have HR := Lib.hid hr
          have HS1 := Lib.hid hs1
          have hx0 : x.toNat = 0 → x = 0 := fun h => UInt8.toNat_inj.1 (by simpa using h)
          have HX0 := Lib.hid hx0
          clear hr hbig hq hs1 hs3 hx0
          by_cases h128 : (128 : Int) ≤ (x.toNat : Int)
          · rcases hb with hb | ⟨hb, hb2⟩
            all_goals
              go_wp2_with fail
              go_round
              case rel => exact ⟨j + 1, acc + q, hlt, by omega, by simp, by simp, hs2, HS1.out, by rw [← HR.out, if_pos (by omega)]⟩
              case measure => simp [intOf]; omega
          · have hr2 := HR.out
            rw [if_neg (by omega)] at hr2
            have HR2 := Lib.hid hr2
            have hx128 : (x.toNat : Int) < 128 := by omega
            clear hr2 HR h128
            rcases hb with hb | ⟨hb, hb2⟩
            all_goals
              go_wp2_with fail
              · have h0 : ((x.toNat : Int) == 0) = true := by assumption
                have h1 : 0 < j := by assumption
                go_ret2
                exact ⟨by rw [← HR2.out, if_pos ⟨HX0.out (by rw [beq_iff_eq] at h0; omega), h1⟩]; rfl, rfl⟩
              · have h0 : ((x.toNat : Int) == 0) = false := by assumption
                go_ret2
                exact ⟨by rw [← HR2.out, if_neg (fun h => by rw [h.1] at h0; exact absurd h0 (by decide))]; simp [rreadRes], rfl⟩
              · have h1 : ¬ 0 < j := by assumption
                go_ret2
                exact ⟨by rw [← HR2.out, if_neg (fun h => h1 h.2)]; simp [rreadRes], rfl⟩
      · have hj10b : decide ((j : Int) < 10) = false := by simp; omega
        rw [if_pos hj9] at hr
        have HR := Lib.hid hr
        clear hr
        go_wp2_with fail
        go_ret2
        exact ⟨by rw [← HR.out]; rfl, rfl⟩
    · have hje : j = bs.length := by omega
      subst hje
      have hr := HREAD.out
      rw [List.drop_length, readB] at hr
      have HR := Lib.hid hr
      clear hr
      go_wp2_with fail
      go_ret2
      exact ⟨by rw [← HR.out]; rfl, rfl⟩
end Go.Proofs.YtligbbhdbpjdjaaGreatDoor
