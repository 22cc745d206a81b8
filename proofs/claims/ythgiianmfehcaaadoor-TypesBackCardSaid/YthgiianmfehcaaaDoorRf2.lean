/- The reference of types: digits, Cells, Make. -/
import Derived.Test.YthgiianmfehcaaaDoorRf1
import Derived.Test.YthgiianmfehcaaaDoorTyH
namespace Go.Proofs.YthgiianmfehcaaaDoor
open Go Go.RowKit Go.Sort
set_option linter.unusedVariables false
set_option linter.unusedSimpArgs false

theorem enc_dig : ∀ d : Fin 10, (Utf8.encode (48 + (d.val : Int))).data = #[UInt8.ofNat (48 + d.val)] := by decide +kernel
theorem enc_digit {n : Nat} (h : n < 10) : Utf8.encode (48 + (n : Int)) = ⟨[UInt8.ofNat (48 + n)].toArray⟩ := ByteArray.ext (enc_dig ⟨n, h⟩)
theorem dig_len {m : Nat} (h : m < 18446744073709551616) : (Lib.decDigits m).length ≤ 20 := by
  rw [Lib.decDigits_length]; exact digs_le 19 m (by omega)
set_option maxRecDepth 100000 in
theorem natural_small (n : Nat) (h : n < 10) (w : World) : Calls Tryd.prog 56 #[.int .u64 n] w fun e w' => e = .returned (.string ⟨(Lib.decDigits n).toArray⟩) ∧ w = w' := by
  have h10 : (n : Int) < 10 := by omega
  go_enter Tryd.func56, Tryd.ntmps56
  go_wp2_with fail
  go_ret
  refine ⟨?_, rfl⟩
  rw [Lib.decDigits_one h, ← enc_digit h]
  rfl
set_option maxRecDepth 100000 in
theorem natural_any : ∀ (m n : Nat), n ≤ m → n < 18446744073709551616 → ∀ (w : World), Calls Tryd.prog 56 #[.int .u64 n] w fun e w' => e = .returned (.string ⟨(Lib.decDigits n).toArray⟩) ∧ w = w' := by
  intro m
  induction m with
  | zero => intro n hn hb w; exact natural_small n (by omega) w
  | succ m ih =>
    intro n hn hb w
    by_cases h : n < 10
    · exact natural_small n h w
    · have h10 : ((n : Int) < 10) = False := by simp; omega
      have hih : Calls Tryd.prog 56 #[.int .u64 ((n : Int) / 10)] w fun e w' => ∃ t : ByteArray, e = .returned (.string t) ∧ Hid (t.data.toList = Lib.decDigits (n / 10)) ∧ t.size ≤ 20 ∧ w = w' := by
        have := ih (n / 10) (by omega) (by omega) w
        rw [show ((n / 10 : Nat) : Int) = (n : Int) / 10 by simp] at this
        refine this.mono fun e w' ⟨he, hw⟩ => ⟨_, he, rfl, ?_, hw⟩
        simpa [ByteArray.size] using dig_len (m := n / 10) (by omega)
      obtain ⟨d, hd⟩ : ∃ d, d = n % 10 := ⟨_, rfl⟩
      have hd10 : d < 10 := by omega
      have hmod : (n : Int) % 10 = (d : Int) := by omega
      have hdd : Lib.decDigits n = Lib.decDigits (n / 10) ++ [UInt8.ofNat (48 + d)] := by rw [Lib.decDigits, dif_neg h, hd]
      have hen := enc_digit hd10
      have hensz : (Utf8.encode (48 + (d : Int))).size = 1 := by rw [hen]; rfl
      have HIH := Lib.hid hih
      have HEN := Lib.hid hen
      have HDD := Lib.hid hdd
      have hbi : (n : Int) < 18446744073709551616 := by omega
      clear hih ih hen hb hn h hd hdd
      go_enter Tryd.func56, Tryd.ntmps56
      go_wp2_with (go_at_call 56; refine HIH.out.mono ?_; rintro e w' ⟨t, rfl, ht, htl, rfl⟩)
      go_ret
      refine ⟨?_, rfl⟩
      have e1 : t ++ Utf8.encode (48 + (d : Int)) = ⟨(Lib.decDigits n).toArray⟩ := by
        rw [HDD.out, ← ht.out, HEN.out]
        apply ByteArray.ext
        apply Array.ext'
        simp
      exact congrArg (fun t => Ending.returned (.string t)) e1
theorem natural_str (n : Int) (h0 : 0 ≤ n) (h1 : n ≤ 9223372036854775807) (w : World) : Calls Tryd.prog 56 #[.int .u64 n] w fun e w' => e = .returned (.string ⟨(Lib.itoa n).toArray⟩) ∧ w = w' := by
  obtain ⟨k, rfl⟩ := Int.eq_ofNat_of_zero_le h0
  have : Lib.itoa (k : Int) = Lib.decDigits k := by unfold Lib.itoa; rw [if_neg (by omega)]; rfl
  rw [this]
  exact natural_any k k (Nat.le_refl _) (by omega) w
set_option maxRecDepth 100000 in
theorem digits_any (n : Int) (h0 : 0 ≤ n) (h1 : n ≤ 9223372036854775807) (w : World) : Calls Tryd.prog 27 #[.int .i64 n] w fun e w' => e = .returned (.string ⟨(Lib.itoa n).toArray⟩) ∧ w = w' := by
  have HN := Lib.hid (natural_str n h0 h1 w)
  have hw : IntKind.u64.wrap n = n := by rw [IntKind.wrap_u64]; omega
  go_enter Tryd.func27, Tryd.ntmps27
  go_wp2_with (go_at_call 56; refine HN.out.mono ?_; rintro e w' ⟨rfl, rfl⟩)
  go_ret
  exact ⟨rfl, rfl⟩
/-- `T.Cells` of a value with these extents. -/
theorem rcells_any (k b : Int) (a : Option Addr) (c : Nat) (zs : List Int) (el : ByteArray) (w : World) (hs : IntSl w a zs) (hl : zs.length ≤ 1000) :
    Calls Tryd.prog 39 #[.agg #[.int .i64 k, .int .i64 b, .slice a zs.length c, .string el]] w fun e w' => e = .returned (.int .i64 (prodW zs)) ∧ Below w.heap.size w w' := by
  have HS := Lib.hid (hs.below ((Below.refl _ w).alloc (Nat.le_refl _) (.cells #[.int .i64 k, .int .i64 b, .slice a zs.length c, .string el] 54)))
  go_enter Tryd.func39, Tryd.ntmps39
  go_wp2_with fail
  have hl' : (zs.length : Int) ≤ 1000 := by omega
  go_loop [3, 4] (fun p i => ∃ k : Nat, k ≤ zs.length ∧ i = .int .i64 k ∧ p = .int .i64 (prodW (zs.take k))) (fun _ i => zs.length - (intOf i).toNat)
  case atStart => exact ⟨0, Nat.zero_le _, rfl, rfl⟩
  case round =>
    obtain ⟨j, hj, rfl, rfl⟩ := hrel
    rcases Nat.lt_or_ge j zs.length with hlt | hge
    · obtain ⟨g, off, rfl, hg, hcell⟩ := HS.out.at hlt
      have hsn := prodW_snoc hlt
      obtain ⟨z, hz⟩ : ∃ z, z = zs.getD j 0 := ⟨_, rfl⟩
      rw [← hz] at hcell
      rw [List.getD_eq_getElem?_getD] at hz
      rw [← hz] at hsn
      have HSN := Lib.hid hsn
      clear hsn hz hg
      go_wp2_with fail
      go_round
      case rel => exact ⟨j + 1, hlt, by simp, by rw [HSN.out]⟩
      case measure => simp [intOf]; omega
    · have hje : j = zs.length := by omega
      subst hje
      go_wp2_with fail
      go_ret
      exact ⟨rfl, (Below.refl _ w).alloc (Nat.le_refl _) _⟩
end Go.Proofs.YthgiianmfehcaaaDoor
