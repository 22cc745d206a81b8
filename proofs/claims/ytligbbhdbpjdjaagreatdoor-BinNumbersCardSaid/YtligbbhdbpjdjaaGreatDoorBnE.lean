/- The law's walk: BinReads. -/
import Derived.Test.YtligbbhdbpjdjaaGreatDoorBnD
namespace Go.Proofs.YtligbbhdbpjdjaaGreatDoor
open Go Go.RowKit Go.Sort
set_option linter.unusedVariables false
set_option linter.unusedSimpArgs false

theorem readB_size : ∀ (bs : List UInt8) (j acc n k : Nat), readB bs j acc = some (n, k) → j < k
  | [], j, acc, n, k, h => by simp [readB] at h
  | x :: r, j, acc, n, k, h => by
    rw [readB_cons] at h
    by_cases h1 : 10 ≤ j
    · rw [if_pos h1] at h; cases h
    · rw [if_neg h1] at h
      by_cases h2 : j = 9 ∧ 1 < x.toNat % 128
      · rw [if_pos h2] at h; cases h
      · rw [if_neg h2] at h
        by_cases h3 : 128 ≤ x.toNat
        · rw [if_pos h3] at h
          have := readB_size _ _ _ _ _ h
          omega
        · rw [if_neg h3] at h
          by_cases h4 : x = 0 ∧ 0 < j
          · rw [if_pos h4] at h; cases h
          · rw [if_neg h4] at h
            simp only [Option.some.injEq, Prod.mk.injEq] at h
            omega

set_option maxRecDepth 100000 in
set_option maxHeartbeats 4000000 in
theorem reads_law (a : Option Addr) (c : Nat) (bs : List UInt8) (w : World) (hs : ByteSl w a bs) (hl : bs.length ≤ 9223372036854775807) (hh : HeadAt w) :
    Calls Tryz.prog 4 #[.slice a bs.length c] w fun e w' => e = .returned (.bool true) ∧ Below w.heap.size w w' := by
  have HH := Lib.hid hh
  have HS := Lib.hid hs
  clear hh hs
  obtain ⟨o, ho⟩ : ∃ o, readB bs 0 0 = o := ⟨_, rfl⟩
  have hrd := readNumber_b a c bs w HS.out hl
  have hrr := rreadNumber_b a c bs w HS.out hl
  rw [ho] at hrd hrr
  cases o with
  | none =>
    clear ho
    go_enter Tryz.func4, Tryz.ntmps4
    go_wp2_with (first
      | (go_at_call 7; refine hrd.mono ?_; rintro e w1 ⟨rfl, rfl⟩; simp only [readRes]; go_ways)
      | (go_at_call 12; refine hrr.mono ?_; rintro e w1 ⟨rfl, rfl⟩; simp only [rreadRes]; go_ways)
      | (go_at_call 13; refine (sum_any a c bs w HS.out hl).mono ?_; rintro e w1 ⟨rfl, rfl⟩; go_ways)
      | (go_at_call 14; refine (rsum_any a c bs w HS.out hl).mono ?_; rintro e w1 ⟨rfl, rfl⟩; go_ways)
      | (go_at_call 11; refine (awake_b w HH.out).mono ?_; rintro e w1 ⟨rfl, hb⟩; have HB := Lib.hid hb; clear hb; go_ways))
    go_ret
    exact ⟨rfl, HB.out⟩
  | some p =>
    obtain ⟨n, k⟩ := p
    have hk := readB_size _ _ _ _ _ ho
    clear ho
    have hk' : (k : Int) ≠ 0 := by omega
    go_enter Tryz.func4, Tryz.ntmps4
    go_wp2_with (first
      | (go_at_call 7; refine hrd.mono ?_; rintro e w1 ⟨rfl, rfl⟩; simp only [readRes]; go_ways)
      | (go_at_call 12; refine hrr.mono ?_; rintro e w1 ⟨rfl, rfl⟩; simp only [rreadRes]; go_ways)
      | (go_at_call 13; refine (sum_any a c bs w HS.out hl).mono ?_; rintro e w1 ⟨rfl, rfl⟩; go_ways)
      | (go_at_call 14; refine (rsum_any a c bs w HS.out hl).mono ?_; rintro e w1 ⟨rfl, rfl⟩; go_ways)
      | (go_at_call 11; refine (awake_b w HH.out).mono ?_; rintro e w1 ⟨rfl, hb⟩; have HB := Lib.hid hb; clear hb; go_ways))
    go_ret
    exact ⟨rfl, HB.out⟩
end Go.Proofs.YtligbbhdbpjdjaaGreatDoor
