/- The walk of the statement TypesMakes. -/
import Derived.Test.YthgiianmfehcaaaDoorLw0
namespace Go.Proofs.YthgiianmfehcaaaDoor
open Go Go.RowKit Go.Sort
set_option linter.unusedVariables false
set_option linter.unusedSimpArgs false

theorem intSl_of_owns {W : World} {base : Nat} {v : Value} {n : Nat} {zs : List Int} (h : W.ownsRow base 3 1 v n (zs.map (.int .i64))) : ∃ a c, v = .slice a n c ∧ IntSl W a zs ∧ zs.length = n := by
  have hln : zs.length = n := by have := h.1; simpa using this
  by_cases hv : v = .slice none 0 0
  · rcases h.2 with ⟨-, h0⟩ | ⟨g, cap, cur, hv2, -⟩
    · subst h0; subst hv
      exact ⟨none, 0, rfl, .inl (List.length_eq_zero_iff.1 hln), hln⟩
    · rw [hv] at hv2; cases hv2
  · obtain ⟨g, c, rfl, -, hr, -⟩ := intRow_of_owns h hv
    exact ⟨some ⟨g, 0, none⟩, c, rfl, .inr ⟨g, 0, rfl, hr.1, hr.2⟩, hln⟩

set_option maxRecDepth 100000 in
set_option maxHeartbeats 4000000 in
theorem makes_law (k : Int) (hk0 : -9223372036854775808 ≤ k) (hk1 : k ≤ 9223372036854775807) (a : Option Addr) (c : Nat) (zs : List Int) (hzr : ∀ z ∈ zs, -9223372036854775808 ≤ z ∧ z ≤ 9223372036854775807) (el : ByteArray) (w : World) (hg : Glob w) (hs : IntSl w a zs) (hlen : zs.length ≤ 9223372036854775807) :
    Calls Tryd.prog 3 #[.int .i64 k, .slice a zs.length c, .string el] w fun e w' => e = .returned (.bool true) ∧ Below w.heap.size w w' := by
  have HG := Lib.hid hg
  have HS := Lib.hid hs
  have HZR := Lib.hid hzr
  clear hg hs hzr
  go_enter Tryd.func3, Tryd.ntmps3
  go_wp2_with fail
  go_loopw [0, 1, 7] (fun kv sv rv wr => ∃ (r : Nat) (k : Int) (a : Option Addr) (c : Nat) (zs : List Int), r ≤ 2 ∧ rv = .int .i64 r ∧ kv = .int .i64 k ∧ -9223372036854775808 ≤ k ∧ k ≤ 9223372036854775807 ∧ sv = .slice a zs.length c ∧ IntSl wr a zs ∧ zs.length ≤ 9223372036854775807 ∧ (∀ z ∈ zs, -9223372036854775808 ≤ z ∧ z ≤ 9223372036854775807) ∧ Below w.heap.size w wr) (fun _ _ rv _ => 2 - (intOf rv).toNat)
  case atStart => exact ⟨0, k, a, c, zs, by omega, rfl, rfl, hk0, hk1, rfl, HS.out, hlen, HZR.out, Below.refl _ _⟩
  case round =>
    clear HS HZR hk0 hk1 hlen
    obtain ⟨r, k, a, c, zs, hr, rfl, rfl, hk0, hk1, rfl, hs, hlen, hzr, hb⟩ := hrel
    have HB := Lib.hid hb
    have HS := Lib.hid hs
    have HZR := Lib.hid hzr
    clear hb hs hzr
    rcases Nat.lt_or_ge r 2 with hlt | hge
    · obtain ⟨mk, hmk⟩ : ∃ mk, mk = makeOf k zs el.data.toList := ⟨_, rfl⟩
      have HMK := Lib.hid hmk; clear hmk
      have hr2 : (r : Int) < 2 := by omega
      go_wp2_with (first
        | (go_at_call 11; refine (make_all k a c zs el _ (HG.out.below HB.out).pow HS.out).mono ?_; rintro e w1 ⟨rfl, hb1⟩; rw [← HMK.out])
        | (go_at_call 12; refine (rmake_all k a c zs el _ (HS.out.below hb1)).mono ?_; rintro e w2 ⟨rfl, hb2⟩; rw [← HMK.out]))
      have hb12 := below_next hb1 hb2
      have hq := below_next HB.out hb12
      have HS2 := Lib.hid (HS.out.below hb12)
      have HQ := Lib.hid hq
      clear hb1 hb2 hb12 hq HS HB
      obtain ⟨i0, hi, hz0, hz1, hz2⟩ := info_parts (show (Tryd.prog.info? 3).map (fun i => (i.zero, i.size, i.bytes)) = some (some (.int .i64 0), 1, 8) by kernel_rfl)
      go_loopw [12, 13] (fun v iv wr => ∃ (j : Nat) (ys : List Int), j ≤ zs.length ∧ j ≤ 3 ∧ iv = .int .i64 j ∧ ys.length = j ∧ (∀ y ∈ ys, 0 ≤ y ∧ y ≤ 1000) ∧ wr.ownsRow w2.heap.size 3 1 v j (ys.map (.int .i64)) ∧ Below w2.heap.size w2 wr) (fun _ iv _ => 3 - (intOf iv).toNat)
      case atStart => exact ⟨0, [], by omega, by omega, rfl, rfl, by simp, ⟨rfl, .inl ⟨rfl, rfl⟩⟩, Below.refl _ _⟩
      case round =>
        obtain ⟨j, ys, hj, hj3, rfl, hyl, hyr, hown, hbw⟩ := hrel
        by_cases hgo : j < zs.length ∧ j < 3
        · obtain ⟨hjl, hj3'⟩ := hgo
          obtain ⟨g, off, rfl, hgl, hcell⟩ := (HS2.out.below hbw).at hjl
          obtain ⟨z, hz⟩ : ∃ z, z = zs.getD j 0 := ⟨_, rfl⟩
          rw [← hz] at hcell
          have hzz := HZR.out z (by rw [hz, List.getD_eq_getElem?_getD, List.getElem?_eq_getElem hjl]; exact List.getElem_mem _)
          obtain ⟨u, hu⟩ : ∃ u, IntKind.u64.wrap z = u := ⟨_, rfl⟩
          have hu0 : 0 ≤ u ∧ u < 18446744073709551616 := by rw [← hu, IntKind.wrap_u64]; omega
          obtain ⟨y, hy⟩ : ∃ y, u.tmod 20 = y := ⟨_, rfl⟩
          have hy0 : 0 ≤ y ∧ y ≤ 19 := by
            rw [← hy, Int.tmod_eq_emod_of_nonneg hu0.1]; omega
          have hwy : wrap64 y = y := by unfold wrap64; omega
          have hjl' : (j : Int) < (zs.length : Int) := by omega
          have hj3i : (j : Int) < 3 := by omega
          have HOWN := Lib.hid hown
          have HY := Lib.hid hy0
          have HYR := Lib.hid hyr
          have HBW := Lib.hid hbw
          clear hz hzz hu0 hgl hown hy0 hyr hbw
          go_wp2_with (at_builtin; refine wpList_append_own _ rfl _ _ 22 rfl w2.heap.size 3 i0 (.int .i64 0) 1 8 Tryd.underlying22 hi hz0 hz1 hz2 rfl (by decide) _ _ _ rfl (HOWN.out.alloc _) ⟨wr.heap.size, 0, none⟩ 1 1 [.int .i64 y] rfl rfl ?c1 ?c2 ?c3 ?c4 ?c5 ?_)
          case c1 =>
            intro t u hj
            match t, hj with
            | 0, hj => simp at hj; subst hj; simp [Addr.add]
          case c2 => intro u hu; simp at hu; subst hu; rfl
          case c3 => unfold maxLen; omega
          case c4 => omega
          case c5 => have := HBW.out.size; simp; omega
          intro v' w3 hown' hgrow _
          go_wp2_with fail
          go_roundw
          · refine ⟨j + 1, ys ++ [y], hjl, hj3', by simp, by simp [hyl], fun x hx => ?_, by simpa using hown', ?_⟩
            · rw [List.mem_append, List.mem_singleton] at hx
              rcases hx with hx | rfl
              · exact HYR.out x hx
              · have := HY.out; omega
            · exact (HBW.out.alloc HBW.out.size _).grown hgrow (by have := HBW.out.size; simp; omega) (fun k hk => (HOWN.out.lt k hk).1)
          · simp [intOf]; omega
        · obtain ⟨a', c', rfl, hsl, hln⟩ := intSl_of_owns hown
          have HSL := Lib.hid hsl
          have HYR := Lib.hid hyr
          have HBW2 := Lib.hid hbw
          obtain ⟨u, hu⟩ : ∃ u, IntKind.u64.wrap k = u := ⟨_, rfl⟩
          have hu0 : 0 ≤ u := by rw [← hu, IntKind.wrap_u64]; omega
          obtain ⟨m, hm⟩ : ∃ m, u.tmod 2 = m := ⟨_, rfl⟩
          have hm0 : 0 ≤ m ∧ m ≤ 1 := by rw [← hm, Int.tmod_eq_emod_of_nonneg hu0]; omega
          have hwm : wrap64 m = m := by unfold wrap64; omega
          have hwm2 : wrap64 (2 + m) = 2 + m := by unfold wrap64; omega
          clear hown hyr hbw hu0 hsl
          have hcs : ((j : Int) < (zs.length : Int)) = False ∨ (((j : Int) < (zs.length : Int)) = True ∧ ((j : Int) < 3) = False) := by
            by_cases h : j < zs.length
            · right; simp; omega
            · left; simp; omega
          rcases hcs with h | ⟨h, h'⟩
          all_goals
            have HB3 := Lib.hid (HQ.out.trans (HBW2.out.mono HQ.out.size))
            go_wp2_with fail
            go_roundw
            · refine ⟨r + 1, 2 + m, a', c', ys, by omega, by simp, rfl, by omega, by omega, by rw [hln], HSL.out, by omega, fun z hz => by have := HYR.out z hz; omega, HB3.out⟩
            · simp [intOf]; omega
    · have hre : r = 2 := by omega
      subst hre
      go_wp2_with (go_at_call 13; refine (awake_any _ (HG.out.below HB.out)).mono ?_; rintro e w1 ⟨rfl, hb1⟩)
      go_ret
      exact ⟨rfl, below_next HB.out hb1⟩
end Go.Proofs.YthgiianmfehcaaaDoor
