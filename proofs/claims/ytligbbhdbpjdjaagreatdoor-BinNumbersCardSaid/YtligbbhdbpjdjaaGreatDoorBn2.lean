/- Integers as bytes; the reference's bytes of numbers; equal bytes. -/
import Derived.Test.YtligbbhdbpjdjaaGreatDoorBn1
import Derived.Laws.IdiomStrings
namespace Go.Proofs.YtligbbhdbpjdjaaGreatDoor
open Go Go.RowKit Go.Sort
set_option linter.unusedVariables false
set_option linter.unusedSimpArgs false

theorem foldN_lt {n : Int} (h0 : -9223372036854775808 ≤ n) (h1 : n ≤ 9223372036854775807) : foldN n < 18446744073709551616 := by unfold foldN; split <;> omega
theorem folded_any (n : Int) (h0 : -9223372036854775808 ≤ n) (h1 : n ≤ 9223372036854775807) (w : World) :
    Calls Tryz.prog 15 #[.int .i64 n] w fun e w' => e = .returned (.int .u64 (foldN n)) ∧ w = w' := by
  by_cases h : 0 ≤ n
  · have hz : n / 9223372036854775808 = 0 := by omega
    have hx := xor_zero (x := n * 2) (by omega) (by omega)
    have hf : ((foldN n : Nat) : Int) = n * 2 := by unfold foldN; rw [if_pos h]; omega
    have HF := Lib.hid hf
    clear hf
    go_enter Tryz.func15, Tryz.ntmps15
    go_wp2_with fail
    go_ret
    refine ⟨?_, rfl⟩
    rw [HF.out]; rfl
  · have hn : n < 0 := by omega
    have hz : n / 9223372036854775808 = -1 := by omega
    have hw : IntKind.u64.wrap (IntKind.u64.wrap n * 2) = 2 * n + 18446744073709551616 := by rw [IntKind.wrap_u64, IntKind.wrap_u64]; omega
    have hw2 : IntKind.u64.wrap (-1) = 18446744073709551615 := by rw [IntKind.wrap_u64]; rfl
    have hx := xor_ones (x := 2 * n + 18446744073709551616) (by omega) (by omega)
    have hf : ((foldN n : Nat) : Int) = bits .xor .u64 (IntKind.u64.wrap (IntKind.u64.wrap n * 2)) (IntKind.u64.wrap (n / 9223372036854775808)) := by
      rw [hz, hw, hw2, hx]; unfold foldN; rw [if_neg h]; omega
    have HF := Lib.hid hf
    clear hf hz hw hw2 hx
    go_enter Tryz.func15, Tryz.ntmps15
    go_wp2_with fail
    go_ret
    refine ⟨?_, rfl⟩
    rw [HF.out]; rfl
theorem integer_b (n : Int) (h0 : -9223372036854775808 ≤ n) (h1 : n ≤ 9223372036854775807) (w : World) :
    Calls Tryz.prog 6 #[.int .i64 n] w (BytesPost (numB (foldN n)) w) := by
  have HN := Lib.hid (number_b (foldN n) (foldN_lt h0 h1) w)
  go_enter Tryz.func6, Tryz.ntmps6
  go_wp2_with (first
    | (go_at_call 15; refine (folded_any n h0 h1 _).mono ?_; rintro e w1 ⟨rfl, rfl⟩)
    | (go_at_call 5; refine HN.out.mono ?_; rintro e w2 ⟨hb, sa, sc, rfl, hown⟩; have HOWN := Lib.hid hown; clear hown))
  go_ret
  exact ⟨hb, sa, sc, rfl, HOWN.out⟩

theorem lit_one (w : World) (x : UInt8) : (w.alloc (.cells #[byteV x] 5)).ownsRow w.heap.size 5 1 (.slice (some ⟨w.heap.size, 0, none⟩) 1 1) 1 [byteV x] :=
  ⟨rfl, .inr ⟨w.heap.size, 1, #[byteV x], rfl, Nat.le_refl _, heap_alloc_new w _, Nat.le_refl _, by unfold maxLen; omega, rfl, rfl⟩⟩
theorem own_some {W : World} {base : Nat} {e : TypeId} {sa : Option Addr} {sc n : Nat} {xs : List Value} (h : W.ownsRow base e 1 (.slice sa n sc) n xs) (hn : 0 < n) : ∃ g, sa = some ⟨g, 0, none⟩ ∧ base ≤ g ∧ g < W.heap.size ∧ ∀ j u, xs[j]? = some u → W.cell? ((⟨g, 0, none⟩ : Addr).add j) = some u := by
  have hc := fun g => h.cells (g := g)
  rcases h.2 with ⟨h1, h2⟩ | ⟨g, cap, cur, h1, h2, h3, h4⟩
  · omega
  · cases h1
    exact ⟨g, rfl, h2, (Array.getElem?_eq_some_iff.1 h3).1, hc g rfl⟩

set_option maxRecDepth 100000 in
set_option maxHeartbeats 4000000 in
theorem rnumber_b : ∀ (d n : Nat), n < 128 ^ (d + 1) → n < 18446744073709551616 → ∀ (w : World), Calls Tryz.prog 9 #[.int .u64 n] w (BytesPost (numB n) w) := by
  intro d
  induction d with
  | zero =>
    intro n hd hn w
    have hs : n < 128 := by simpa using hd
    have hs' : (n : Int) < 128 := by omega
    have hmt : (UInt8.ofNat n).toNat = n := by rw [UInt8.toNat_ofNat']; omega
    rw [numB_small hs]
    have HMT := Lib.hid hmt
    clear hmt hd
    go_enter Tryz.func9, Tryz.ntmps9
    go_wp2_with fail
    go_ret
    have hl := lit_one w (UInt8.ofNat n)
    rw [show byteV (UInt8.ofNat n) = .int .u8 n by rw [byteV, HMT.out]] at hl
    exact ⟨bAlloc (Below.refl _ _) _, some ⟨w.heap.size, 0, none⟩, 1, rfl, by simpa [byteV, HMT.out] using hl⟩
  | succ d ih =>
    intro n hd hn w
    by_cases hs : n < 128
    · have hs' : (n : Int) < 128 := by omega
      have hmt : (UInt8.ofNat n).toNat = n := by rw [UInt8.toNat_ofNat']; omega
      rw [numB_small hs]
      have HMT := Lib.hid hmt
      clear hmt hd ih
      go_enter Tryz.func9, Tryz.ntmps9
      go_wp2_with fail
      go_ret
      have hl := lit_one w (UInt8.ofNat n)
      rw [show byteV (UInt8.ofNat n) = .int .u8 n by rw [byteV, HMT.out]] at hl
      exact ⟨bAlloc (Below.refl _ _) _, some ⟨w.heap.size, 0, none⟩, 1, rfl, by simpa [byteV, HMT.out] using hl⟩
    · have hge : 128 ≤ n := by omega
      have hge' : (128 : Int) ≤ (n : Int) := by omega
      obtain ⟨y, hy⟩ : ∃ y, y = UInt8.ofNat (n % 128 + 128) := ⟨_, rfl⟩
      have hyt : y.toNat = n % 128 + 128 := by rw [hy, UInt8.toNat_ofNat']; omega
      have hyt' : (n : Int) % 128 + 128 = (y.toNat : Int) := by omega
      have hnb := numB_big hge
      rw [← hy] at hnb
      have hq : n / 128 < 128 ^ (d + 1) := by rw [Nat.pow_succ] at hd; omega
      obtain ⟨q, hqq⟩ : ∃ q, n / 128 = q := ⟨_, rfl⟩
      have hqq' : (n : Int) / 128 = (q : Int) := by omega
      rw [hqq] at hq hnb
      have hq64 : q < 18446744073709551616 := by omega
      have hlen : (numB q).length ≤ 10 := numB_len64 hq64
      have hpos : 0 < (numB q).length := List.length_pos_iff.2 (numB_ne q)
      obtain ⟨m, hm⟩ : ∃ m, (numB q).length = m := ⟨_, rfl⟩
      rw [hm] at hlen hpos
      have HIH := Lib.hid (ih q hq hq64)
      have HNB := Lib.hid hnb
      have HM := Lib.hid hm
      clear ih hyt hy hnb hqq hd hq hm
      obtain ⟨i0, hin, hz0, hz1, hz2⟩ := info_parts (show (Tryz.prog.info? 5).map (fun i => (i.zero, i.size, i.bytes)) = some (some (.int .u8 0), 1, 1) by kernel_rfl)
      rw [HNB.out]
      go_enter Tryz.func9, Tryz.ntmps9
      go_wp2_with (at_builtin; refine wpList_append_own _ rfl _ _ 23 rfl w.heap.size 5 i0 (.int .u8 0) 1 1 Tryz.underlying23 hin hz0 hz1 hz2 rfl (by decide) _ _ _ rfl ((World.ownsRow_nil w _ _ _).alloc _) ⟨w.heap.size, 0, none⟩ 1 1 [.int .u8 y.toNat] rfl rfl ?c1 ?c2 ?c3 ?c4 ?c5 ?_)
      case c1 =>
        intro t u hj
        match t, hj with
        | 0, hj => simp at hj; subst hj; simp [Addr.add]
      case c2 => intro u hu; simp at hu; subst hu; rfl
      case c3 => unfold maxLen; omega
      case c4 => omega
      case c5 => simp
      intro v' w3 hown' hgrow _
      obtain ⟨sa', sc', rfl⟩ := bOwn_slice hown'
      have HOWN3 := Lib.hid hown'
      have HB3 := Lib.hid ((bAlloc (Below.refl w.heap.size w) (.cells #[.int .u8 y.toNat] 5)).grown hgrow (by simp) (fun k hk => by cases hk))
      clear hown'
      go_wp2_with fail
      refine (HIH.out _).mono ?_
      rintro e w4 ⟨hb4, sa4, sc4, rfl, hown4⟩
      rw [HM.out] at hown4 ⊢
      obtain ⟨g4, rfl, hg4, hg4l, hcell4⟩ := own_some hown4 hpos
      have HOWN4 := Lib.hid (bOwn_below HOWN3.out hb4)
      have HCELL := Lib.hid hcell4
      have HB4 := Lib.hid (bNext HB3.out hb4)
      have hszw := HB4.out.size
      clear hown4 hcell4 hb4
      go_wp2_with (at_builtin; refine wpList_append_own _ rfl _ _ 23 rfl w.heap.size 5 i0 (.int .u8 0) 1 1 Tryz.underlying23 hin hz0 hz1 hz2 rfl (by decide) _ _ _ rfl HOWN4.out ⟨g4, 0, none⟩ m sc4 ((numB q).map byteV) rfl (by rw [List.length_map, HM.out, Nat.mul_one]) HCELL.out ?c2 ?c3 ?c4 ?c5 ?_)
      case c2 => intro u hu; obtain ⟨x, -, rfl⟩ := List.mem_map.1 hu; rfl
      case c3 => unfold maxLen; omega
      case c4 => omega
      case c5 => omega
      intro v'' w5 hown5 hgrow5 _
      have HOWN5 := Lib.hid hown5
      have HB5 := Lib.hid (HB4.out.grown hgrow5 hszw (fun k hk => (HOWN4.out.lt k hk).1))
      clear hown5
      go_wp2_with fail
      go_ret
      refine bytesPost (n := 0 + 1 + m) (by rw [List.length_cons, HM.out]; omega) rfl ?_ HB5.out
      simpa [byteV] using HOWN5.out
theorem rnumber_any (n : Nat) (hn : n < 18446744073709551616) (w : World) : Calls Tryz.prog 9 #[.int .u64 n] w (BytesPost (numB n) w) := rnumber_b 9 n (by omega) hn w
theorem rinteger_b (n : Int) (h0 : -9223372036854775808 ≤ n) (h1 : n ≤ 9223372036854775807) (w : World) :
    Calls Tryz.prog 10 #[.int .i64 n] w (BytesPost (numB (foldN n)) w) := by
  have HN := Lib.hid (rnumber_any (foldN n) (foldN_lt h0 h1) w)
  by_cases h : 0 ≤ n
  · have hf : 2 * n = ((foldN n : Nat) : Int) := by unfold foldN; rw [if_pos h]; omega
    have HF := Lib.hid hf
    clear hf
    go_enter Tryz.func10, Tryz.ntmps10
    go_wp2_with fail
    rw [HF.out]
    refine HN.out.mono ?_
    rintro e w2 ⟨hb, sa, sc, rfl, hown⟩
    have HOWN := Lib.hid hown
    clear hown
    go_wp2_with fail
    go_ret
    exact ⟨hb, sa, sc, rfl, HOWN.out⟩
  · have hn : n < 0 := by omega
    have hf : 2 * -(n + 1) + 1 = ((foldN n : Nat) : Int) := by unfold foldN; rw [if_neg h]; omega
    have HF := Lib.hid hf
    clear hf
    go_enter Tryz.func10, Tryz.ntmps10
    go_wp2_with fail
    rw [HF.out]
    refine HN.out.mono ?_
    rintro e w2 ⟨hb, sa, sc, rfl, hown⟩
    have HOWN := Lib.hid hown
    clear hown
    go_wp2_with fail
    go_ret
    exact ⟨hb, sa, sc, rfl, HOWN.out⟩
theorem conv_bytes {w : World} {a : Option Addr} {bs : List UInt8} (c : Nat) (h : ByteSl w a bs) (hne : bs ≠ []) : (convert 23 9 (.slice a bs.length c)).run Tryz.prog w = .ok (.string ⟨bs.toArray⟩) w := by
  rcases h with h | ⟨g, off, rfl, hg, hc⟩
  · exact absurd h hne
  · refine run_convert_bytes_back w 23 9 5 ⟨g, off, none⟩ c bs Tryz.underlying23 Tryz.underlying5 Tryz.underlying9 (fun j hj => ?_)
    have had : (Addr.mk g off none).add j = ⟨g, off + j, none⟩ := by
      unfold Addr.add; split
      · rename_i h; subst h; rfl
      · rfl
    rw [had]; exact hc j hj
theorem same_b (a b : Option Addr) (c d : Nat) (bs : List UInt8) (w : World) (hne : bs ≠ []) (ha : ByteSl w a bs) (hb : ByteSl w b bs) :
    Calls Tryz.prog 8 #[.slice a bs.length c, .slice b bs.length d] w fun e w' => e = .returned (.bool true) ∧ w = w' := by
  have h1 := conv_bytes c ha hne
  have h2 := conv_bytes d hb hne
  clear ha hb hne
  go_enter Tryz.func8, Tryz.ntmps8
  go_wp2_with fail
  go_ret
  exact ⟨rfl, rfl⟩
end Go.Proofs.YtligbbhdbpjdjaaGreatDoor
