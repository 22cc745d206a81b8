/- The walk of the statement TypesShapes. -/
import Derived.Test.YthgiianmfehcaaaDoorLwS0
namespace Go.Proofs.YthgiianmfehcaaaDoor
open Go Go.RowKit Go.Sort
set_option linter.unusedVariables false
set_option linter.unusedSimpArgs false

theorem shaped_any (k b : Nat) (sa : Option Addr) (n c : Nat) (el : ByteArray) (w : World) (hk : k ≤ 5) :
    Calls Tryd.prog 37 #[.agg #[.int .i64 k, .int .i64 b, .slice sa n c, .string el]] w fun e w' => e = .returned (.bool (k == 2 || k == 3)) ∧ Below w.heap.size w w' := by
  have hcs : k = 0 ∨ k = 1 ∨ k = 2 ∨ k = 3 ∨ k = 4 ∨ k = 5 := by omega
  rcases hcs with rfl | rfl | rfl | rfl | rfl | rfl
  all_goals
    go_enter Tryd.func37, Tryd.ntmps37
    go_wp2_with fail
    go_ret
    exact ⟨rfl, (Below.refl _ w).alloc (Nat.le_refl _) _⟩

set_option maxRecDepth 100000 in
set_option maxHeartbeats 4000000 in
theorem shapes_err (s : ByteArray) (hs : s.size ≤ 140737488351232) (x : Nat) (w : World) (hg : Glob w) (ha : askCel s.data.toList = (⟨0, 0, []⟩, x + 1))
    (hx : (x = 9 ∧ readOf s.data.toList = none) ∨ (x = 0 ∧ ∃ q, readOf s.data.toList = some q ∧ q.kind ≤ 5 ∧ (q.kind == 2 || q.kind == 3) = false)) :
    Calls Tryd.prog 8 #[.string s] w fun e w' => e = .returned (.bool true) ∧ Below w.heap.size w w' := by
  have hs2 : s.size ≤ 140737488355328 := by omega
  have HG := Lib.hid hg
  have HA := Lib.hid ha
  clear hg ha
  rcases hx with ⟨rfl, hr⟩ | ⟨rfl, q, hr, hk5, hk⟩
  · have HR := Lib.hid hr
    clear hr
    go_enter Tryd.func8, Tryd.ntmps8
    go_wp2_with (first
      | (go_at_call 28; refine (rread_any _ _ hs2).mono ?_; rintro e w1 ⟨hb1, h1⟩; rw [HR.out] at h1; obtain ⟨k, b, el, rfl⟩ := h1)
      | (go_at_call 32; refine (shape_err _ _ hs2 HA.out).mono ?_; rintro e w2 ⟨rfl, hb2⟩; have HQ := Lib.hid (below_next (belowA hb1 _) hb2); clear hb1 hb2)
      | (go_at_call 33; refine (cells_err _ _ hs2 HA.out).mono ?_; rintro e w3 ⟨rfl, hb3⟩)
      | (go_at_call 34; refine (rank_err _ _ hs2 HA.out).mono ?_; rintro e w4 ⟨rfl, hb4⟩)
      | (go_at_call 35; refine (element_err _ _ hs2 HA.out).mono ?_; rintro e w5 ⟨rfl, hb5⟩; have HQ5 := Lib.hid (below_next (below_next (below_next HQ.out hb3) hb4) hb5); clear hb3 hb4 hb5)
      | (go_at_call 36; refine (turned_err _ _ hs2 HA.out (HG.out.below HQ5.out).pow).mono ?_; rintro e w6 ⟨rfl, hb6⟩; have HQ6 := Lib.hid (below_next HQ5.out hb6); clear hb6)
      | (go_at_call 13; refine (awake_any _ (HG.out.below HQ6.out)).mono ?_; rintro e w7 ⟨rfl, hb7⟩))
    go_ret
    exact ⟨rfl, below_next HQ6.out hb7⟩
  · have HR := Lib.hid hr
    have HK := Lib.hid hk
    clear hr hk
    go_enter Tryd.func8, Tryd.ntmps8
    go_wp2_with (first
      | (go_at_call 28; refine (rread_any _ _ hs2).mono ?_; rintro e w1 ⟨hb1, h1⟩; rw [HR.out] at h1; obtain ⟨sa, sc, rfl, hv⟩ := h1; have HV := Lib.hid hv; clear hv)
      | (go_at_call 32; refine (shape_err _ _ hs2 HA.out).mono ?_; rintro e w2 ⟨rfl, hb2⟩; have c2 := rdCell hb2 w1.heap.size (by simp); have hz2 : w1.heap.size < w2.heap.size := (by have := hb2.size; simp at this; omega); have HQ := Lib.hid (below_next (belowA hb1 _) hb2); clear hb1 hb2)
      | (go_at_call 33; refine (cells_err _ _ hs2 HA.out).mono ?_; rintro e w3 ⟨rfl, hb3⟩; have c3 := rdCell hb3 w1.heap.size hz2; have hz3 : w1.heap.size < w3.heap.size := (by have := hb3.size; omega))
      | (go_at_call 34; refine (rank_err _ _ hs2 HA.out).mono ?_; rintro e w4 ⟨rfl, hb4⟩; have c4 := rdCell hb4 w1.heap.size hz3; have hz4 : w1.heap.size < w4.heap.size := (by have := hb4.size; omega))
      | (go_at_call 35; refine (element_err _ _ hs2 HA.out).mono ?_; rintro e w5 ⟨rfl, hb5⟩; have c5 := rdCell hb5 w1.heap.size hz4; have hz5 : w1.heap.size < w5.heap.size := (by have := hb5.size; omega); have HQ5 := Lib.hid (below_next (below_next (below_next HQ.out hb3) hb4) hb5); clear hb3 hb4 hb5)
      | (go_at_call 36; refine (turned_err _ _ hs2 HA.out (HG.out.below HQ5.out).pow).mono ?_; rintro e w6 ⟨rfl, hb6⟩; have c6 := rdCell hb6 w1.heap.size hz5; have HQ6 := Lib.hid (below_next HQ5.out hb6); clear hb6)
      | (go_at_call 37; refine (shaped_any _ _ _ _ _ _ _ hk5).mono ?_; rintro e w7 ⟨rfl, hb7⟩; rw [HK.out])
      | (go_at_call 13; refine (awake_any _ (HG.out.below (below_next HQ6.out hb7))).mono ?_; rintro e w8 ⟨rfl, hb8⟩))
    go_ret
    exact ⟨rfl, below_next (below_next HQ6.out hb7) hb8⟩

set_option maxRecDepth 100000 in
set_option maxHeartbeats 4000000 in
theorem shapes_yes (s : ByteArray) (hs : s.size ≤ 140737488351232) (w : World) (hg : Glob w) (q : Pd) (hr : readOf s.data.toList = some q) (hk : q.kind = 2 ∨ q.kind = 3) :
    Calls Tryd.prog 8 #[.string s] w fun e w' => e = .returned (.bool true) ∧ Below w.heap.size w w' := by
  have hs2 : s.size ≤ 140737488355328 := by omega
  have HG := Lib.hid hg
  have hok := readOf_ok hr
  have hbt : bitsT q = 0 := by unfold bitsT; rw [if_neg (by omega)]
  have hel : elT q = elStr q.bits := by unfold elT; rw [if_pos hk]
  have hrank := hok.rank
  obtain ⟨n, hn⟩ : ∃ n, q.ext.length = n := ⟨_, rfl⟩
  have hzl : (extZ q.ext).length = n := by rw [← hn]; simp [extZ]
  obtain ⟨el, hele⟩ : ∃ el : ByteArray, el = ⟨(elStr q.bits).toArray⟩ := ⟨_, rfl⟩
  have hmk2 := makeOf_parts hr hk (k := ((5 - q.kind : Nat) : Int)) (by omega)
  obtain ⟨tx, htx⟩ : ∃ tx : ByteArray, tx = ⟨(textOf ((5 - q.kind : Nat) : Int) (extZ q.ext) (elStr q.bits)).toArray⟩ := ⟨_, rfl⟩
  have HR := Lib.hid hr
  have HBT := Lib.hid hbt
  have HEL := Lib.hid hel
  have HN := Lib.hid hn
  have HZL := Lib.hid hzl
  have HMK := Lib.hid hmk2
  have HELE := Lib.hid hele
  have HTX := Lib.hid htx
  have HK := Lib.hid (show Celled q from hk)
  have hn3 : n ≤ 3 := by omega
  clear hg hr hbt hel hn hzl hmk2 hok hrank hele htx hk
  obtain ⟨kd, bits, ext⟩ := q
  have hk : kd = 2 ∨ kd = 3 := HK.out
  rcases hk with rfl | rfl
  all_goals
    go_enter Tryd.func8, Tryd.ntmps8
    go_wp2_with fail
    refine (rread_any _ _ hs2).mono ?_
    rintro e w1 ⟨hb1, h1⟩
    rw [HR.out] at h1
    obtain ⟨sa, sc, rfl, hv⟩ := h1
    rw [HBT.out, HEL.out, ← HELE.out]
    rw [HN.out] at hv
    rw [show (⟨_, bits, ext⟩ : Pd).ext.length = n from HN.out]
    have hsl := (intSl_own (by rw [← extZ_vals]; exact hv)).1
    have HSL := Lib.hid hsl
    clear hv hsl
    go_wp2_with fail
    refine (shape_yes _ _ hs2 HR.out HK.out).mono ?_
    rintro e w2 ⟨g, c, rfl, hrow, hb2⟩
    rw [← HELE.out, show (⟨_, bits, ext⟩ : Pd).ext.length = n from HN.out]
    have c2 := rdCell hb2 w1.heap.size (by simp)
    have hz2 : w1.heap.size < w2.heap.size := by have := hb2.size; simp at this; omega
    have HROW := Lib.hid hrow
    have HSL2 := Lib.hid ((HSL.out.below (belowA (Below.refl _ w1) _)).below hb2)
    have HQ2 := Lib.hid (below_next (belowA hb1 _) hb2)
    clear hb1 hb2 hrow HSL
    go_wp2_with fail
    refine (cells_yes _ _ hs2 HR.out HK.out).mono ?_
    rintro e w3 ⟨rfl, hb3⟩
    have c3 := rdCell hb3 w1.heap.size hz2
    have hz3 : w1.heap.size < w3.heap.size := by have := hb3.size; omega
    go_wp2_with fail
    refine (rank_yes _ _ hs2 HR.out HK.out).mono ?_
    rintro e w4 ⟨rfl, hb4⟩
    rw [show (⟨_, bits, ext⟩ : Pd).ext.length = n from HN.out]
    have c4 := rdCell hb4 w1.heap.size hz3
    have hz4 : w1.heap.size < w4.heap.size := by have := hb4.size; omega
    go_wp2_with fail
    refine (element_yes' _ _ hs2 HR.out HK.out).mono ?_
    rintro e w5 ⟨rfl, hb5⟩
    rw [← HELE.out]
    have c5 := rdCell hb5 w1.heap.size hz4
    have hz5 : w1.heap.size < w5.heap.size := by have := hb5.size; omega
    have HB5 := Lib.hid (below_next (below_next hb3 hb4) hb5)
    clear hb3 hb4 hb5
    go_wp2_with fail
    refine (turned_yes _ _ hs2 HR.out HK.out (HG.out.below (below_next HQ2.out HB5.out)).pow).mono ?_
    rintro e w6 ⟨rfl, hb6⟩
    rw [← HTX.out]
    have c6 := rdCell hb6 w1.heap.size hz5
    have hz6 : w1.heap.size < w6.heap.size := by have := hb6.size; omega
    have HB6 := Lib.hid (below_next HB5.out hb6)
    clear hb6 HB5
    go_wp2_with fail
    refine (shaped_any _ _ _ _ _ _ _ (by decide)).mono ?_
    rintro e w7 ⟨rfl, hb7⟩
    have c7 := rdCell hb7 w1.heap.size hz6
    have hz7 : w1.heap.size < w7.heap.size := by have := hb7.size; omega
    have HB7 := Lib.hid (below_next HB6.out hb7)
    clear hb7 HB6
    go_wp2_with fail
    have hm := fun (k : Int) => rmake_all k sa sc (extZ ext) el w7 (HSL2.out.below HB7.out)
    rw [HZL.out, show el.data.toList = elStr bits by rw [HELE.out]] at hm
    refine (hm _).mono ?_
    clear hm
    rintro e w8 ⟨rfl, hb8⟩
    first
      | rw [show makeOf (3 : Int) (extZ ext) (elStr bits) = _ from HMK.out]
      | rw [show makeOf (2 : Int) (extZ ext) (elStr bits) = _ from HMK.out]
    dsimp only
    first
      | rw [show (⟨(textOf (((5 - 2 : Nat)) : Int) (extZ ext) (elStr bits)).toArray⟩ : ByteArray) = tx from HTX.out.symm]
      | rw [show (⟨(textOf (((5 - 3 : Nat)) : Int) (extZ ext) (elStr bits)).toArray⟩ : ByteArray) = tx from HTX.out.symm]
    have c8 := rdCell hb8 w1.heap.size hz7
    have hz8 : w1.heap.size < w8.heap.size := by have := hb8.size; omega
    have HB8 := Lib.hid (below_next HB7.out hb8)
    clear hb8 HB7
    go_wp2_with fail
    have hm := same_eq (some ⟨g, 0, none⟩) sa c sc (extZ ext) w8 ((intRow_sl HROW.out).below HB8.out) (HSL2.out.below HB8.out) (by rw [HZL.out]; omega)
    rw [HZL.out] at hm
    refine hm.mono ?_
    clear hm
    rintro e w9 ⟨rfl, hb9⟩
    have c9 := rdCell hb9 w1.heap.size hz8
    have hz9 : w1.heap.size < w9.heap.size := by have := hb9.size; omega
    have HB9 := Lib.hid (below_next HB8.out hb9)
    clear hb9 HB8
    go_wp2_with fail
    have hm := fun (k b : Int) => rcells_any k b sa sc (extZ ext) el w9 (HSL2.out.below HB9.out) (by rw [HZL.out]; omega)
    rw [HZL.out] at hm
    refine (hm _ _).mono ?_
    clear hm
    rintro e w10 ⟨rfl, hb10⟩
    have c10 := rdCell hb10 w1.heap.size hz9
    have hz10 : w1.heap.size < w10.heap.size := by have := hb10.size; omega
    have HB10 := Lib.hid (below_next HB9.out hb10)
    clear hb10 HB9
    go_wp2_with fail
    refine (awake_any _ (HG.out.below (below_next HQ2.out HB10.out))).mono ?_
    rintro e w11 ⟨rfl, hb11⟩
    go_wp2_with fail
    go_ret
    exact ⟨rfl, below_next (below_next HQ2.out HB10.out) hb11⟩

theorem shapes_law (s : ByteArray) (hs : s.size ≤ 140737488351232) (w : World) (hg : Glob w) :
    Calls Tryd.prog 8 #[.string s] w fun e w' => e = .returned (.bool true) ∧ Below w.heap.size w w' := by
  cases hr : readOf s.data.toList with
  | none => exact shapes_err s hs 9 w hg (askCel_none hr) (.inl ⟨rfl, hr⟩)
  | some q =>
    by_cases hk : q.kind = 2 ∨ q.kind = 3
    · exact shapes_yes s hs w hg q hr hk
    · exact shapes_err s hs 0 w hg (askCel_no hr hk) (.inr ⟨rfl, q, hr, by have := (readOf_ok hr).kind; omega, by simp; omega⟩)
end Go.Proofs.YthgiianmfehcaaaDoor
