/- The walk of the statement TypesWraps. -/
import Derived.Test.YthgiianmfehcaaaDoorLw1
import Derived.Test.YthgiianmfehcaaaDoorWr0
namespace Go.Proofs.YthgiianmfehcaaaDoor
open Go Go.RowKit Go.Sort
set_option linter.unusedVariables false
set_option linter.unusedSimpArgs false

theorem half_bits : ∀ b : Fin 65, 1 ≤ b.val → (-9223372036854775808 : Int) ≤ -2 ^ (b.val - 1) ∧ (2 : Int) ^ (b.val - 1) - 1 ≤ 9223372036854775807 := by decide +kernel
theorem wrapS_64 {b : Nat} (h1 : 1 ≤ b) (h2 : b ≤ 64) (n : Int) : -9223372036854775808 ≤ wrapS b n ∧ wrapS b n ≤ 9223372036854775807 := by
  have := wrapS_range h1 h2 n
  have h := half_bits ⟨b, by omega⟩ h1
  dsimp only at h
  omega
/-- What a law knows of a number type: its string, its bits, and one number wrapped. -/
structure WrI (s : ByteArray) (b : Nat) (n lo hi ws wu : Int) : Prop where
  el : ∃ k, elemOf s.data.toList = some ⟨k, b, []⟩
  one : 1 ≤ b
  le : b ≤ 64
  lo : lo = -2 ^ (b - 1)
  hi : hi = 2 ^ (b - 1) - 1
  ws : ws = wrapS b n
  wu : wu = wrapU b n
section
variable {s : ByteArray} {b : Nat} {n lo hi ws wu : Int} (h : WrI s b n lo hi ws wu) (hs : s.size ≤ 1000) (hn0 : -9223372036854775808 ≤ n) (hn1 : n ≤ 9223372036854775807) (w : World)
include h hs
theorem wr_range : Calls Tryd.prog 14 #[.string s] w fun e w' => e = .returned (.tuple #[.int .i64 lo, .int .i64 hi, .int .i64 0]) ∧ Below w.heap.size w w' := by
  obtain ⟨k, hk⟩ := h.el
  exact (range_num s w (by omega) hk).mono fun e w' ⟨he, hb⟩ => ⟨by rw [he, h.lo, h.hi], hb⟩
include hn0 hn1
theorem wr_wrap : Calls Tryd.prog 15 #[.string s, .int .i64 n] w fun e w' => e = .returned (.tuple #[.int .i64 ws, .int .i64 0]) ∧ Below w.heap.size w w' := by
  obtain ⟨k, hk⟩ := h.el
  exact (wrap_num s w (by omega) n hn0 hn1 hk).mono fun e w' ⟨he, hb⟩ => ⟨by rw [he, h.ws], hb⟩
theorem wr_unsigned : Calls Tryd.prog 16 #[.string s, .int .i64 n] w fun e w' => e = .returned (.tuple #[.int .u64 wu, .int .i64 0]) ∧ Below w.heap.size w w' := by
  obtain ⟨k, hk⟩ := h.el
  exact (unsigned_num s w (by omega) n hn0 hn1 hk).mono fun e w' ⟨he, hb⟩ => ⟨by rw [he, h.wu], hb⟩
omit hn0 hn1
theorem wr_wrap2 : Calls Tryd.prog 15 #[.string s, .int .i64 ws] w fun e w' => e = .returned (.tuple #[.int .i64 ws, .int .i64 0]) ∧ Below w.heap.size w w' := by
  obtain ⟨k, hk⟩ := h.el
  have hr := wrapS_64 h.one h.le n
  rw [← h.ws] at hr
  exact (wrap_num s w (by omega) ws hr.1 hr.2 hk).mono fun e w' ⟨he, hb⟩ => ⟨by rw [he]; dsimp only; rw [h.ws, wrapS_self h.one h.le], hb⟩
theorem wr_unsigned2 : Calls Tryd.prog 16 #[.string s, .int .i64 ws] w fun e w' => e = .returned (.tuple #[.int .u64 wu, .int .i64 0]) ∧ Below w.heap.size w w' := by
  obtain ⟨k, hk⟩ := h.el
  have hr := wrapS_64 h.one h.le n
  rw [← h.ws] at hr
  exact (unsigned_num s w (by omega) ws hr.1 hr.2 hk).mono fun e w' ⟨he, hb⟩ => ⟨by rw [he]; dsimp only; rw [h.wu, h.ws, wrapU_S h.one h.le], hb⟩
theorem wr_wrap3 (k : Int) : Calls Tryd.prog 15 #[.string s, .int .i64 (wrap64 (n + wrap64 (k * 2 ^ b)))] w fun e w' => e = .returned (.tuple #[.int .i64 ws, .int .i64 0]) ∧ Below w.heap.size w w' := by
  obtain ⟨j, hk⟩ := h.el
  have hw : ∀ x, wrap64 x = IntKind.i64.wrap x := fun x => by rw [IntKind.wrap_i64]; unfold wrap64; rfl
  have hr : ∀ x : Int, -9223372036854775808 ≤ wrap64 x ∧ wrap64 x ≤ 9223372036854775807 := fun x => by unfold wrap64; omega
  exact (wrap_num s w (by omega) _ (hr _).1 (hr _).2 hk).mono fun e w' ⟨he, hb⟩ => ⟨by rw [he]; dsimp only; rw [hw, hw, h.ws, wrapS_add h.one h.le], hb⟩
omit hs
theorem wr_facts : lo ≤ ws ∧ ws ≤ hi ∧ (n < lo ∨ hi < n ∨ ws = n) := by
  have hr := wrapS_range h.one h.le n
  rw [h.lo, h.hi, h.ws]
  refine ⟨hr.1, hr.2, ?_⟩
  by_cases h1 : n < -2 ^ (b - 1)
  · exact .inl h1
  · by_cases h2 : 2 ^ (b - 1) - 1 < n
    · exact .inr (.inl h2)
    · exact .inr (.inr (wrapS_in h.one h.le (by omega) (by omega)))
end
theorem wr_of {s : ByteArray} {b k : Nat} (he : elemOf s.data.toList = some ⟨k, b, []⟩) (n : Int) : ∃ lo hi ws wu, WrI s b n lo hi ws wu := by
  have h := elemOf_ok he
  exact ⟨_, _, _, _, ⟨k, he⟩, (h.1.num h.2).1, h.1.bits, rfl, rfl, rfl, rfl⟩

set_option maxRecDepth 100000 in
set_option maxHeartbeats 8000000 in
theorem wraps_neg (k : Int) (hk0 : -9223372036854775808 ≤ k) (hk : k < 0) (n : Int) (hn0 : -9223372036854775808 ≤ n) (hn1 : n ≤ 9223372036854775807) (kk : Int) (w : World) (hg : Glob w) :
    Calls Tryd.prog 6 #[.int .i64 k, .int .i64 n, .int .i64 kk] w fun e w' => e = .returned (.bool true) ∧ Below w.heap.size w w' := by
  have HG := Lib.hid hg
  obtain ⟨lo, hi, ws, wu, hw⟩ := wr_of (s := ⟨#[105, 110, 100, 101, 120]⟩) elemOf_index n
  have hf := wr_facts hw
  have hwu : IntKind.u64.wrap n = wu := by rw [hw.wu, wrapU_64]
  have HW := Lib.hid hw
  have HU := Lib.hid hwu
  have hsz : (⟨#[105, 110, 100, 101, 120]⟩ : ByteArray).size ≤ 1000 := by decide
  obtain ⟨hf1, hf2, hf3⟩ := hf
  clear hg hw hwu
  obtain ⟨u, hu⟩ : ∃ u, IntKind.u64.wrap k = u := ⟨_, rfl⟩
  have hu0 : 0 ≤ u := by rw [← hu, IntKind.wrap_u64]; omega
  obtain ⟨m, hm⟩ : ∃ m, u.tmod 64 = m := ⟨_, rfl⟩
  have hm0 : 0 ≤ m ∧ m ≤ 63 := by rw [← hm, Int.tmod_eq_emod_of_nonneg hu0]; omega
  obtain ⟨hm1, hm2⟩ := hm0
  have hwm : wrap64 m = m := by unfold wrap64; omega
  have hwm2 : wrap64 (1 + m) = 1 + m := by unfold wrap64; omega
  clear hu0
  rcases hf3 with hf3 | hf3 | rfl
  all_goals
    go_enter Tryd.func6, Tryd.ntmps6
    go_wp2_with fail
    refine (digits_str (1 + m) (by omega) (by omega) _).mono ?_
    rintro e w0 ⟨t, rfl, ht, htl, rfl⟩
    go_wp2_with fail
    refine (wr_range HW.out hsz _).mono ?_
    rintro e w1 ⟨rfl, hb1⟩
    go_wp2_with fail
    refine (wr_wrap HW.out hsz hn0 hn1 _).mono ?_
    rintro e w2 ⟨rfl, hb2⟩
    go_wp2_with fail
    refine (wr_wrap2 HW.out hsz _).mono ?_
    rintro e w3 ⟨rfl, hb3⟩
    go_wp2_with fail
    refine (wr_unsigned HW.out hsz hn0 hn1 _).mono ?_
    rintro e w4 ⟨rfl, hb4⟩
    go_wp2_with fail
    refine (wr_unsigned2 HW.out hsz _).mono ?_
    rintro e w5 ⟨rfl, hb5⟩
    have hq := below_next (below_next (below_next (below_next hb1 hb2) hb3) hb4) hb5
    have HQ := Lib.hid hq
    clear hb1 hb2 hb3 hb4 hb5 hq
    have hwu := HU.out
    go_wp2_with fail
    refine (awake_any _ (HG.out.below HQ.out)).mono ?_
    rintro e w6 ⟨rfl, hb6⟩
    go_wp2_with fail
    go_ret
    exact ⟨rfl, below_next HQ.out hb6⟩

set_option maxRecDepth 100000 in
set_option maxHeartbeats 8000000 in
theorem wraps_pos (k : Int) (hk : 0 ≤ k) (hk1 : k ≤ 9223372036854775807) (n : Int) (hn0 : -9223372036854775808 ≤ n) (hn1 : n ≤ 9223372036854775807) (kk : Int) (w : World) (hg : Glob w) :
    Calls Tryd.prog 6 #[.int .i64 k, .int .i64 n, .int .i64 kk] w fun e w' => e = .returned (.bool true) ∧ Below w.heap.size w w' := by
  have HG := Lib.hid hg
  obtain ⟨b, hkb⟩ : ∃ b : Nat, 1 + k % 64 = (b : Int) := ⟨(1 + k % 64).toNat, by omega⟩
  have hb1 : 1 ≤ b := by omega
  have hb2 : b ≤ 64 := by omega
  obtain ⟨t, ht⟩ : ∃ t : ByteArray, t.data.toList = Lib.itoa (b : Int) := ⟨⟨(Lib.itoa (b : Int)).toArray⟩, rfl⟩
  have hel : elemOf (⟨#[105]⟩ ++ t : ByteArray).data.toList = some ⟨0, b, []⟩ := by
    rw [show (⟨#[105]⟩ ++ t : ByteArray).data.toList = 105 :: Lib.itoa (b : Int) by simp [ht]]
    exact elemOf_bits hb1 hb2
  obtain ⟨lo, hi, ws, wu, hw⟩ := wr_of hel n
  have hf := wr_facts hw
  have HW := Lib.hid hw
  have hsz : (⟨#[105]⟩ ++ t : ByteArray).size ≤ 1000 := by
    have h1 := itoa_len (n := (b : Int)) (by omega) (by omega)
    rw [← ht] at h1
    have h2 : t.data.toList.length = t.size := by simp
    have h3 : (⟨#[105]⟩ : ByteArray).size = 1 := rfl
    rw [ByteArray.size_append]
    omega
  have hkb64 : (b : Int) ≤ 64 := by omega
  have HT := Lib.hid ht
  obtain ⟨hf1, hf2, hf3⟩ := hf
  have hu : b = 64 → IntKind.u64.wrap n = wu := fun h => by subst h; rw [hw.wu, wrapU_64]
  have hlt : wu < 2 ^ b := by rw [hw.wu]; exact (wrapU_lt hb1 hb2 n).2
  have hd0 := wrapU_diff hb1 hb2 n
  rw [← hw.wu] at hd0
  have hP : b < 64 → IntKind.u64.wrap (2 ^ b) = 2 ^ b := fun h => by
    have h1 : (2 : Int) ^ b < 2 ^ 64 := by
      have := Nat.pow_lt_pow_right (a := 2) (by decide) h
      exact_mod_cast this
    rw [IntKind.wrap_u64]
    exact Int.emod_eq_of_lt (Int.le_of_lt (pow_pos' b)) (by simpa using h1)
  have hppos := pow_pos' b
  clear hg hw hel
  have ht5 : t.size ≤ 5 := by
    have h1 := itoa_len (n := (b : Int)) (by omega) (by omega)
    rw [← ht] at h1
    have h2 : t.data.toList.length = t.size := by simp
    omega
  have hdig : ∀ w : World, Calls Tryd.prog 27 #[.int .i64 b] w fun e w' => e = .returned (.string t) ∧ w = w' := fun w =>
    (digits_any (b : Int) (by omega) (by omega) w).mono fun e w' ⟨he, hw⟩ => ⟨by rw [he, ← HT.out, Lib.mk_data], hw⟩
  have HD := Lib.hid hdig
  clear ht hdig
  rcases Nat.lt_or_ge b 64 with h64 | h64
  · have hP := hP h64
    have hP0 : ¬ (2 : Int) ^ b = 0 := by omega
    obtain ⟨dd, hdd⟩ : ∃ dd, IntKind.u64.wrap (wu - IntKind.u64.wrap n) = dd := ⟨_, rfl⟩
    have hd1 : 0 ≤ dd := by rw [← hdd, IntKind.wrap_u64]; omega
    rw [hdd] at hd0
    have hd3 : (dd % 2 ^ b != 0) = false := by rw [hd0]; rfl
    have hb64 : ((b : Int) == 64) = false := by rw [beq_eq_false_iff_ne]; omega
    clear hu hd0
    rcases hf3 with hf3 | hf3 | rfl
    all_goals
      go_enter Tryd.func6, Tryd.ntmps6
      go_wp2_with fail
      refine (HD.out _).mono ?_
      rintro e w0 ⟨rfl, rfl⟩
      go_wp2_with fail
      refine (wr_range HW.out hsz _).mono ?_
      rintro e w1 ⟨rfl, hb1⟩
      go_wp2_with fail
      refine (wr_wrap HW.out hsz hn0 hn1 _).mono ?_
      rintro e w2 ⟨rfl, hb2⟩
      go_wp2_with fail
      refine (wr_wrap2 HW.out hsz _).mono ?_
      rintro e w3 ⟨rfl, hb3⟩
      go_wp2_with fail
      refine (wr_unsigned HW.out hsz hn0 hn1 _).mono ?_
      rintro e w4 ⟨rfl, hb4⟩
      go_wp2_with fail
      refine (wr_unsigned2 HW.out hsz _).mono ?_
      rintro e w5 ⟨rfl, hb5⟩
      have hq := below_next (below_next (below_next (below_next hb1 hb2) hb3) hb4) hb5
      have HQ := Lib.hid hq
      clear hb1 hb2 hb3 hb4 hb5 hq
      go_wp2_with fail
      refine (wr_wrap3 HW.out hsz _ kk).mono ?_
      rintro e w6 ⟨rfl, hb6⟩
      have hq := below_next HQ.out hb6
      have HQ6 := Lib.hid hq
      clear hb6 hq
      go_wp2_with fail
      refine (awake_any _ (HG.out.below HQ6.out)).mono ?_
      rintro e w7 ⟨rfl, hb7⟩
      go_wp2_with fail
      go_ret
      exact ⟨rfl, below_next HQ6.out hb7⟩
  · have hb64 : b = 64 := by omega
    subst hb64
    have hwu := hu rfl
    have hk64 : ((64 : Nat) : Int) = 64 := rfl
    have HWU := Lib.hid hwu
    clear hu hP hlt hd0 hppos hwu
    rcases hf3 with hf3 | hf3 | rfl
    all_goals
      go_enter Tryd.func6, Tryd.ntmps6
      go_wp2_with fail
      refine (HD.out _).mono ?_
      rintro e w0 ⟨rfl, rfl⟩
      go_wp2_with fail
      refine (wr_range HW.out hsz _).mono ?_
      rintro e w1 ⟨rfl, hb1⟩
      go_wp2_with fail
      refine (wr_wrap HW.out hsz hn0 hn1 _).mono ?_
      rintro e w2 ⟨rfl, hb2⟩
      go_wp2_with fail
      refine (wr_wrap2 HW.out hsz _).mono ?_
      rintro e w3 ⟨rfl, hb3⟩
      go_wp2_with fail
      refine (wr_unsigned HW.out hsz hn0 hn1 _).mono ?_
      rintro e w4 ⟨rfl, hb4⟩
      go_wp2_with fail
      refine (wr_unsigned2 HW.out hsz _).mono ?_
      rintro e w5 ⟨rfl, hb5⟩
      have hq := below_next (below_next (below_next (below_next hb1 hb2) hb3) hb4) hb5
      have HQ := Lib.hid hq
      clear hb1 hb2 hb3 hb4 hb5 hq
      have hwu := HWU.out
      go_wp2_with fail
      refine (awake_any _ (HG.out.below HQ.out)).mono ?_
      rintro e w6 ⟨rfl, hb6⟩
      go_wp2_with fail
      go_ret
      exact ⟨rfl, below_next HQ.out hb6⟩
theorem wraps_law (k : Int) (hk0 : -9223372036854775808 ≤ k) (hk1 : k ≤ 9223372036854775807) (n : Int) (hn0 : -9223372036854775808 ≤ n) (hn1 : n ≤ 9223372036854775807) (kk : Int) (hkk0 : -9223372036854775808 ≤ kk) (hkk1 : kk ≤ 9223372036854775807) (w : World) (hg : Glob w) :
    Calls Tryd.prog 6 #[.int .i64 k, .int .i64 n, .int .i64 kk] w fun e w' => e = .returned (.bool true) ∧ Below w.heap.size w w' := by
  by_cases h : k < 0
  · exact wraps_neg k hk0 h n hn0 hn1 kk w hg
  · exact wraps_pos k (by omega) hk1 n hn0 hn1 kk w hg
end Go.Proofs.YthgiianmfehcaaaDoor
