/- AttrsLarge: the law's walk. -/
import Derived.Test.YtmepjbjmjbpchaaGreatDoorAl0
import Derived.Deep.Cut
import Derived.Deep.DeepCutAuto
import Derived.Deep.CutBlock
namespace Go.Proofs.YtmepjbjmjbpchaaGreatDoor
open Go Go.RowKit Go.Sort
set_option linter.unusedVariables false
set_option linter.unusedSimpArgs false

/-- The list of long texts after some rounds. -/
structure LongI (w : World) (z : Int) (wr : World) (k : Nat) (v : Value) : Prop where
  own : wr.ownsRow (w.heap.size + 1) 27 6 v k ((lgL (lgT (lgB z)) k).flatMap Atr.cells)
  bel : Below w.heap.size w wr
  box : wr.heap[w.heap.size]? = some (.cells (lgC z 1000) 5 (0, 0))
theorem LongI.snoc {w W W' : World} {z : Int} {k : Nat} {v v' : Value} {S T : ByteArray} (h : LongI w z W k v) (hS : S = mName k) (hT : T = lgT (lgB z))
    (ho : W'.ownsRow (w.heap.size + 1) 27 6 v' (k + 1) ((lgL (lgT (lgB z)) k).flatMap Atr.cells ++ [.string S, .int .i64 1, .int .i64 0, .string T, .slice none 0 0, .slice none 0 0]))
    {x : Obj} (hg : (W.alloc x).grownBy W' v.ownBlock) : LongI w z W' (k + 1) v' := by
  subst hS hT
  have hw := blkLt h.box
  refine ⟨by rw [lgL_succ, List.flatMap_append]; simpa [Atr.cells, lgAt] using ho, ?_, ?_⟩
  · exact (belowA h.bel x).grown hg (by have := h.bel.size; simp; omega) (fun j hj => by have := (h.own.lt j hj).1; omega)
  · have h1 : (W.alloc x).heap[w.heap.size]? = some _ := heap_alloc_old h.box x
    rw [hg.block w.heap.size (by simp; omega) (fun e => by have := (h.own.lt _ e.symm).1; omega)]
    exact h1
theorem enc_small (a : Nat) (h : a ≤ 9) : Utf8.encode (97 + (a : Int)) = ⟨#[UInt8.ofNat (97 + a)]⟩ := by
  have : a = 0 ∨ a = 1 ∨ a = 2 ∨ a = 3 ∨ a = 4 ∨ a = 5 ∨ a = 6 ∨ a = 7 ∨ a = 8 ∨ a = 9 := by omega
  rcases this with rfl | rfl | rfl | rfl | rfl | rfl | rfl | rfl | rfl | rfl <;> rfl

set_option maxRecDepth 1000000 in
set_option maxHeartbeats 32000000 in
theorem large_law (n z : Int) (hz0 : 0 ≤ z) (hz1 : z ≤ 255) (hn0 : -9223372036854775808 ≤ n) (hn1 : n ≤ 9223372036854775807) (w : World) (hg : Glob w) :
    Calls Tryz.prog 9 #[.int .i64 n, .int .u8 z] w fun e w' => e = .returned (.bool true) ∧ Below w.heap.size w w' := by
  obtain ⟨i0, hin, hzz0, hzz1, hzz2⟩ := info_parts (show (Tryz.prog.info? 27).map (fun i => (i.zero, i.size, i.bytes)) = some (some zAttr, 6, 96) by kernel_rfl)
  obtain ⟨i1, hin1, h1z0, h1z1, h1z2⟩ := info_parts (show (Tryz.prog.info? 5).map (fun i => (i.zero, i.size, i.bytes)) = some (some (.int .u8 0), 1, 1) by kernel_rfl)
  have hmk : ∀ w, (Instr.makeSlice 60 (.int .i64 1000) (.int .i64 1000)).run Tryz.prog w = .ok (.slice (some ⟨w.heap.size, 0, none⟩) 1000 1000) (w.alloc (.cells (lgC z 0) 5)) := fun w => by
    have h := run_make (P := Tryz.prog) w 60 5 i1 (.int .u8 0) Tryz.underlying60 hin1 h1z0 .i64 .i64 1000 1000 (by omega) (by omega) (by rw [h1z2]; omega) (by omega)
    rw [lgC_zero]
    simpa [Value.cells, h1z1] using h
  have HG := Lib.hid hg
  have hg' := hg
  have hb1 : (0 : Int) ≤ z % 128 := Int.emod_nonneg _ (by decide)
  have hb2 : z % 128 < 128 := Int.emod_lt_of_pos _ (by decide)
  obtain ⟨u, hu⟩ : ∃ u, u = IntKind.u64.wrap n := ⟨_, rfl⟩
  have hu0 : 0 ≤ u := by rw [hu]; exact Int.emod_nonneg _ (by decide)
  have hu1 : 0 ≤ u % 10 := Int.emod_nonneg _ (by decide)
  have hu2 : u % 10 < 10 := Int.emod_lt_of_pos _ (by decide)
  have hun : IntKind.u64.wrap n = u := hu.symm
  clear hg hu hin1 h1z0 h1z1 h1z2
  have HGG := Lib.hid hg'
  clear hg'
  go_enter Tryz.func9, Tryz.ntmps9
  go_upto_block 0 with fail
  go_cut [7] (fun i wx => wx.heap[w.heap.size]? = some (.cells (lgC z 1000) 5 (0, 0)) ∧ Below w.heap.size w wx)
  case first =>
    go_wp2_with fail
    go_loopw [7] (fun i wr => ∃ j : Nat, i = .int .i64 j ∧ j ≤ 1000 ∧ wr.heap[w.heap.size]? = some (.cells (lgC z j) 5 (0, 0)) ∧ Below w.heap.size w wr) (fun i _ => 1000 - (intOf i).toNat)
    case atStart => exact ⟨0, rfl, by omega, heap_alloc_new _ _, by (repeat (first | (with_reducible refine below_set ?_ (by first | exact Nat.le_refl _ | omega) _ _) | with_reducible exact Below.refl _ _ | with_reducible refine belowA ?_ _ | with_reducible refine belowD ?_ | with_reducible refine belowN ?_ _))⟩
    case round =>
      obtain ⟨j, rfl, hj, hblk, hbz⟩ := hrel
      rcases Nat.lt_or_ge j 1000 with hlt | hge
      · have hjl : (j : Int) < 1000 := by omega
        have hj0 : (0 : Int) ≤ (j : Int) := by omega
        have c7 := (blkCell hblk j).trans (lgC_at hlt)
        have f7 := blkFree hblk j
        have HBLK := Lib.hid hblk
        have HBZ := Lib.hid hbz
        clear hblk hbz
        go_wp2_with fail
        go_roundw
        · refine ⟨j + 1, by go_num, by omega, ?_, below_set HBZ.out (Nat.le_refl _) _ _⟩
          have := heap_setCell_same _ _ j _ _ (.int .u8 (128 + z % 128)) HBLK.out
          rw [lgC_set hlt] at this
          exact this
        · simp [intOf]; omega
      · obtain rfl : j = 1000 := by omega
        have HBLK := Lib.hid hblk
        have HBZ := Lib.hid hbz
        clear hblk hbz
        go_wp2_with fail
        go_meet
        exact ⟨HBLK.out, HBZ.out⟩
  case rest =>
    obtain ⟨hblk, hbz⟩ := hcut
    have HBLK := Lib.hid hblk
    have HBZ := Lib.hid hbz
    clear hblk hbz
    obtain ⟨wo, rfl⟩ : ∃ wo : World, wo = wc := ⟨_, rfl⟩
    go_upto_block 2 with fail
    go_cut [5] (fun v wx => ∃ (j : Nat) (pa : Option Addr) (pc : Nat), v = .slice pa j pc ∧ 60 ≤ j ∧ j ≤ 69 ∧ LongI w z wx j (.slice pa j pc))
    case first =>
      go_wp2_with fail
      go_loopw [5, 8] (fun v i wr => ∃ (j : Nat) (pa : Option Addr) (pc : Nat), v = .slice pa j pc ∧ i = .int .i64 j ∧ (j : Int) ≤ 60 + u % 10 ∧ LongI w z wr j (.slice pa j pc)) (fun _ i _ => 70 - (intOf i).toNat)
      case atStart => exact ⟨0, none, 0, rfl, rfl, by omega, ⟨World.ownsRow_nil _ _ _ _, HBZ.out, HBLK.out⟩⟩
      case round =>
        obtain ⟨j, pa, pc, rfl, rfl, hj, hI⟩ := hrel
        have HI := Lib.hid hI
        clear hI
        by_cases hlt : (j : Int) < 60 + u % 10
        · have hj69 : j ≤ 68 := by omega
          go_upto_region 10 with fail
          obtain ⟨T, hT⟩ : ∃ T, T = lgT (lgB z) := ⟨_, rfl⟩
          have HT := Lib.hid hT
          have HCV : Hid ((convert 60 9 (.slice (some ⟨w.heap.size, 0, none⟩) 1000 1000)).run Tryz.prog wr = .ok (.string T) wr) := Lib.hid (by rw [hT]; exact lg_conv HI.out.box)
          clear hT
          have HJ1 : Hid (((j + 1 : Nat) : Int) ≤ 60 + u % 10) := Lib.hid (by omega)
          clear hun hu0 hu1 hu2 hlt hj hb1 hb2 hn0 hn1 hz0 hz1
          have hjj : (0 : Int) ≤ (j : Int) := by omega
          obtain ⟨a, ha⟩ : ∃ a, a = j / 10 := ⟨_, rfl⟩
          obtain ⟨b, hb⟩ : ∃ b, b = j % 10 := ⟨_, rfl⟩
          have ha9 : a ≤ 9 := by omega
          have hb9 : b ≤ 9 := by omega
          obtain ⟨ea, hea⟩ : ∃ ea, ea = Utf8.encode (97 + (a : Int)) := ⟨_, rfl⟩
          obtain ⟨eb, heb⟩ : ∃ eb, eb = Utf8.encode (97 + (b : Int)) := ⟨_, rfl⟩
          have HNM : Hid ((⟨#[97]⟩ : ByteArray) ++ ea ++ eb = mName j) := Lib.hid (by rw [hea, heb, enc_small a ha9, enc_small b hb9]; unfold mName; rw [← ha, ← hb]; rfl)
          obtain ⟨s1, hs1⟩ : ∃ s1, s1 = (⟨#[97]⟩ : ByteArray) ++ ea := ⟨_, rfl⟩
          obtain ⟨s2, hs2⟩ : ∃ s2, s2 = s1 ++ eb := ⟨_, rfl⟩
          have HN2 : Hid (s2 = mName j) := Lib.hid (by rw [hs2, hs1]; exact HNM.out)
          have hqa : (j : Int) / 10 = (a : Int) := by omega
          have hqb : (j : Int) % 10 = (b : Int) := by omega
          have hza : ea.size ≤ 1 := by rw [hea, enc_small a ha9]; exact Nat.le_refl _
          have hzb : eb.size ≤ 1 := by rw [heb, enc_small b hb9]; exact Nat.le_refl _
          have HEA := Lib.hid hea.symm
          have HEB := Lib.hid heb.symm
          have ha97 : (97 : Int) + (a : Int) ≤ 106 := by omega
          have hb97 : (97 : Int) + (b : Int) ≤ 106 := by omega
          have hz97 : (⟨#[97]⟩ : ByteArray).size = 1 := rfl
          have hw1 : ∀ W, (Op.stringOp .add ⟨#[97]⟩ ea).run Tryz.prog W = .ok (.string s1) W := fun W => by rw [hs1]; exact run_string_add_sum W _ _ (by omega)
          have hw2 : ∀ W, (Op.stringOp .add s1 eb).run Tryz.prog W = .ok (.string s2) W := fun W => by rw [hs2]; exact run_string_add_sum W _ _ (by rw [hs1, ByteArray.size_append]; omega)
          clear ha hb hea heb hs1 hs2 HNM hz97 hza hzb
          iterate 16 (first | go_values | go_skip | go_guarded | go_step | go_upon | go_back)
          refine wpList_rune rfl _ 21 9 rfl .i32 (97 + (a : Int)) (by simp [Act.eval]) (by rw [Tryz.underlying21]; rfl) Tryz.underlying9 ea HEA.out ?_
          iterate 15 (first | go_values | go_skip | go_guarded | go_step | go_upon | go_back)
          refine wpList_rune rfl _ 21 9 rfl .i32 (97 + (b : Int)) (by simp [Act.eval]) (by rw [Tryz.underlying21]; rfl) Tryz.underlying9 eb HEB.out ?_
          iterate 6 (first | go_values | go_skip | go_guarded | go_step | go_upon | go_back)
          refine wpList_conv rfl _ 60 9 rfl (.slice (some ⟨w.heap.size, 0, none⟩) 1000 1000) (by simp [Act.eval]) (.string T) HCV.out ?_
          iterate 6 (first | go_values | go_skip | go_guarded | go_step | go_upon | go_back)
          go_wp2_with (at_builtin; refine wpList_append_own _ rfl _ _ 22 rfl (w.heap.size + 1) 27 i0 zAttr 6 96 Tryz.underlying22 hin hzz0 hzz1 hzz2 rfl (by decide) _ _ _ rfl (HI.out.own.alloc _) ⟨wr.heap.size, 0, none⟩ 1 1 [.string s2, .int .i64 1, .int .i64 0, .string T, .slice none 0 0, .slice none 0 0] rfl rfl ?c1 ?c2 ?c3 ?c4 ?c5 ?_)
          case c1 =>
            intro t u hj
            have hlt6 : t < 6 := by have := (List.getElem?_eq_some_iff.1 hj).1; simpa using this
            have hadd : (⟨wr.heap.size, 0, none⟩ : Addr).add t = ⟨wr.heap.size, 0 + t, none⟩ := by
              unfold Addr.add; split
              · rename_i h; subst h; rfl
              · rfl
            rw [hadd, Nat.zero_add, blkCell (heap_alloc_new _ _)]
            have ht : t = 0 ∨ t = 1 ∨ t = 2 ∨ t = 3 ∨ t = 4 ∨ t = 5 := by omega
            rcases ht with rfl | rfl | rfl | rfl | rfl | rfl <;> simpa using hj
          case c2 =>
            intro u hu
            simp only [List.mem_cons, List.not_mem_nil, or_false] at hu
            rcases hu with rfl | rfl | rfl | rfl | rfl | rfl <;> rfl
          case c3 => unfold maxLen; omega
          case c4 => omega
          case c5 => have := blkLt HI.out.box; simp; omega
          intro v' w7 hown hgr _
          obtain ⟨sa7, sc7, rfl, -⟩ := own_form hown
          have HI7 := Lib.hid (HI.out.snoc HN2.out HT.out (by first | exact hown | simpa using hown) hgr)
          clear hown hgr
          go_wp2_with fail
          go_roundw
          case rel => exact ⟨j + 1, _, _, rfl, by go_num, HJ1.out, HI7.out⟩
          case measure => simp [intOf]; omega
        · go_wp2_with fail
          go_meet
          exact ⟨j, pa, pc, rfl, by omega, by omega, HI.out⟩
    case rest =>
      obtain ⟨j, pa, pc, rfl, hj0, hj1, hI⟩ := hcut
      obtain ⟨T, hT⟩ : ∃ T, T = lgT (lgB z) := ⟨_, rfl⟩
      have hTs : T.size ≤ 1000 := by rw [hT, lgT_size]; exact Nat.le_refl _
      have hsl := lgL_sl hI.own
      have hbw := hI.bel
      rw [← hT] at hsl
      have hright := lg_right hTs (k := j) (by omega)
      have hlen := lgL_len T j
      obtain ⟨vs, hvs⟩ : ∃ vs : ByteArray, vs = ⟨(listD ((lgL T j).map Atr.dat)).toArray⟩ := ⟨_, rfl⟩
      have hvz : vs.size = (listD ((lgL T j).map Atr.dat)).length := by rw [hvs]; simp [ByteArray.size]
      obtain ⟨vv, hvv⟩ : ∃ vv : ByteArray, vv = ⟨(valD (lgAt T 0).dat).toArray⟩ := ⟨_, rfl⟩
      have hvvz : vv.size = 4002 := by rw [hvv, hT]; show ((valD (lgAt (lgT (lgB z)) 0).dat).toArray).size = 4002; rw [List.size_toArray]; exact lg_val (lgB_big z) 0
      obtain ⟨N0, hN0⟩ : ∃ N0, N0 = mName 0 := ⟨_, rfl⟩
      obtain ⟨g, off, rfl, hzg, hrow⟩ := hsl.row (j := 0) (by rw [hlen]; omega)
      have h0 := hrow 0 (by rw [hlen]; omega)
      have hg0 : (lgL T j)[0]'(by rw [hlen]; omega) = lgAt T 0 := by simp [lgL]
      rw [hg0] at h0
      obtain ⟨k0, k1, k2, k3, k4, k5⟩ := h0
      have k0 : wc.cell? ⟨g, off, none⟩ = some (.string N0) := by rw [hN0]; simpa [lgAt] using k0
      have k1 : wc.cell? ⟨g, off + 1, none⟩ = some (.int .i64 1) := by simpa [lgAt] using k1
      have k2 : wc.cell? ⟨g, off + 2, none⟩ = some (.int .i64 0) := by simpa [lgAt] using k2
      have k3 : wc.cell? ⟨g, off + 3, none⟩ = some (.string T) := by simpa [lgAt] using k3
      have k4 : wc.cell? ⟨g, off + 4, none⟩ = some (.slice none 0 0) := by simpa [lgAt] using k4
      have k5 : wc.cell? ⟨g, off + 5, none⟩ = some (.slice none 0 0) := by simpa [lgAt] using k5
      have HSL := Lib.hid hsl
      have HBW := Lib.hid hbw
      have HGC := Lib.hid (HGG.out.below hbw)
      have HVL : Hid (∀ W, Below wc.heap.size wc W → Calls Tryz.prog 32 #[.agg #[.string N0, .int .i64 1, .int .i64 0, .string T, .slice none 0 0, .slice none 0 0]] W fun e w' => e = .returned (.tuple #[.string vv, .int .i64 0]) ∧ Below W.heap.size W w') := Lib.hid fun W h => by
        have hv := value_any (lgAt T 0) W (plain_lies W rfl rfl) (by rw [hT]; exact lgAt_fits _ 0) (HGC.out.below h).pow
        rw [hN0]
        refine hv.mono fun e w' h2 => ?_
        obtain ⟨h2, h3⟩ := h2
        rw [lgAt_right hTs (by omega), if_pos rfl, if_pos (by rw [hvv] at hvvz; have : (valD (lgAt T 0).dat).length = 4002 := by simpa [ByteArray.size] using hvvz
                                                              omega), ← hvv] at h2
        exact ⟨h2, h3⟩
      have HRP : Hid (∀ W, Below wc.heap.size wc W → Calls Tryz.prog 31 #[.slice (some ⟨g, off, none⟩) j pc] W fun e w' => e = .returned (.string vs) ∧ Below W.heap.size W w') := Lib.hid fun W h => by
        have h2 := rprint_any (some ⟨g, off, none⟩) pc (lgL T j) W (hsl.below h) (rightL_mem hright) (by rw [hlen]; omega)
        rw [hlen, ← hvs] at h2
        exact h2
      have HCK : Hid (∀ W, Below wc.heap.size wc W → Calls Tryz.prog 19 #[.slice (some ⟨g, off, none⟩) j pc] W fun e w' => e = .returned (.int .i64 0) ∧ Below W.heap.size W w') := Lib.hid fun W h => by
        have h2 := check_any' (some ⟨g, off, none⟩) pc (lgL T j) W (hsl.below h) (by rw [hlen]; omega)
        rw [hlen] at h2
        exact h2.mono fun e w' h3 => ⟨by rw [h3.1, hright]; rfl, h3.2⟩
      have hpr := fun (W : World) (h : Below wc.heap.size wc W) => print_any (some ⟨g, off, none⟩) pc (lgL T j) W (hsl.below h) (by rw [hlen]; omega) (HGC.out.below h).pow
      rw [hlen] at hpr
      have hjj : (0 : Int) < (j : Int) := by omega
      have hvl : (vs.toList == vs.toList) = true := by simp
      by_cases hbig : vs.size ≤ 262144
      · have HPR : Hid (Calls Tryz.prog 30 #[.slice (some ⟨g, off, none⟩) j pc] wc fun e w' => e = .returned (.tuple #[.string vs, .int .i64 0]) ∧ Below wc.heap.size wc w') := Lib.hid ((hpr wc (Below.refl _ _)).mono fun e w' h => by
          obtain ⟨h2, h3⟩ := h
          rw [hright, if_pos rfl, if_pos (by omega), ← hvs] at h2
          exact ⟨h2, h3⟩)
        have hbg : ¬ (262144 : Int) < (vs.size : Int) := by omega
        clear hT hTs hsl hbw hright hlen hvs hvz hvv hN0 hrow hg0 hI hpr hbig
        go_wp2_with (first
          | (go_at_call 20; refine Calls.mono (awake02 _ (HGC.out.below ?_)) ?_; (focus ((repeat (first | (with_reducible refine below_set ?_ (by first | exact Nat.le_refl _ | omega) _ _) | with_reducible exact Below.refl _ _ | with_reducible refine belowA ?_ _ | with_reducible refine below_own' ?_ hb4 | with_reducible refine below_own' ?_ hb3 | with_reducible refine below_own' ?_ hb2 | with_reducible refine below_own' ?_ hb1 | with_reducible refine belowD ?_ | with_reducible refine belowN ?_ _)); done)); rintro e w5 ⟨rfl, hb5⟩)
          | (go_at_call 19; refine Calls.mono (HCK.out _ ?_) ?_; (focus ((repeat (first | (with_reducible refine below_set ?_ (by first | exact Nat.le_refl _ | omega) _ _) | with_reducible exact Below.refl _ _ | with_reducible refine belowA ?_ _ | with_reducible refine below_own' ?_ hb3 | with_reducible refine below_own' ?_ hb2 | with_reducible refine below_own' ?_ hb1 | with_reducible refine belowD ?_ | with_reducible refine belowN ?_ _)); done)); rintro e w4 ⟨rfl, hb4⟩)
          | (go_at_call 31; refine Calls.mono (HRP.out _ ?_) ?_; (focus ((repeat (first | (with_reducible refine below_set ?_ (by first | exact Nat.le_refl _ | omega) _ _) | with_reducible exact Below.refl _ _ | with_reducible refine belowA ?_ _ | with_reducible refine below_own' ?_ hb2 | with_reducible refine below_own' ?_ hb1 | with_reducible refine belowD ?_ | with_reducible refine belowN ?_ _)); done)); rintro e w3 ⟨rfl, hb3⟩)
          | (go_at_call 32; refine Calls.mono (HVL.out _ ?_) ?_; (focus ((repeat (first | (with_reducible refine below_set ?_ (by first | exact Nat.le_refl _ | omega) _ _) | with_reducible exact Below.refl _ _ | with_reducible refine belowA ?_ _ | with_reducible refine below_own' ?_ hb1 | with_reducible refine belowD ?_ | with_reducible refine belowN ?_ _)); done)); rintro e w2 ⟨rfl, hb2⟩; clear c1)
          | (go_at_call 30; refine Calls.mono HPR.out ?_; rintro e w1 ⟨rfl, hb1⟩; have c1 := rdCell hb1 g hzg; have hz1 := Nat.lt_of_lt_of_le hzg hb1.size))
        go_ret
        exact ⟨rfl, by (repeat (first | (with_reducible refine below_set ?_ (by first | exact Nat.le_refl _ | omega) _ _) | with_reducible exact Below.refl _ _ | with_reducible refine belowA ?_ _ | with_reducible refine below_own' ?_ hb5 | with_reducible refine below_own' ?_ hb4 | with_reducible refine below_own' ?_ hb3 | with_reducible refine below_own' ?_ hb2 | with_reducible refine below_own' ?_ hb1 | with_reducible refine below_own' ?_ HBW.out | with_reducible refine belowD ?_ | with_reducible refine belowN ?_ _))⟩
      · have HPR : Hid (Calls Tryz.prog 30 #[.slice (some ⟨g, off, none⟩) j pc] wc fun e w' => e = .returned (.tuple #[.string ⟨#[]⟩, .int .i64 2]) ∧ Below wc.heap.size wc w') := Lib.hid ((hpr wc (Below.refl _ _)).mono fun e w' h => by
          obtain ⟨h2, h3⟩ := h
          rw [hright, if_pos rfl, if_neg (by omega)] at h2
          exact ⟨h2, h3⟩)
        have hbg : (262144 : Int) < (vs.size : Int) := by omega
        clear hT hTs hsl hbw hright hlen hvs hvz hvv hN0 hrow hg0 hI hpr hbig
        go_wp2_with (first
          | (go_at_call 20; refine Calls.mono (awake02 _ (HGC.out.below ?_)) ?_; (focus ((repeat (first | (with_reducible refine below_set ?_ (by first | exact Nat.le_refl _ | omega) _ _) | with_reducible exact Below.refl _ _ | with_reducible refine belowA ?_ _ | with_reducible refine below_own' ?_ hb4 | with_reducible refine below_own' ?_ hb3 | with_reducible refine below_own' ?_ hb2 | with_reducible refine below_own' ?_ hb1 | with_reducible refine belowD ?_ | with_reducible refine belowN ?_ _)); done)); rintro e w5 ⟨rfl, hb5⟩)
          | (go_at_call 19; refine Calls.mono (HCK.out _ ?_) ?_; (focus ((repeat (first | (with_reducible refine below_set ?_ (by first | exact Nat.le_refl _ | omega) _ _) | with_reducible exact Below.refl _ _ | with_reducible refine belowA ?_ _ | with_reducible refine below_own' ?_ hb3 | with_reducible refine below_own' ?_ hb2 | with_reducible refine below_own' ?_ hb1 | with_reducible refine belowD ?_ | with_reducible refine belowN ?_ _)); done)); rintro e w4 ⟨rfl, hb4⟩)
          | (go_at_call 31; refine Calls.mono (HRP.out _ ?_) ?_; (focus ((repeat (first | (with_reducible refine below_set ?_ (by first | exact Nat.le_refl _ | omega) _ _) | with_reducible exact Below.refl _ _ | with_reducible refine belowA ?_ _ | with_reducible refine below_own' ?_ hb2 | with_reducible refine below_own' ?_ hb1 | with_reducible refine belowD ?_ | with_reducible refine belowN ?_ _)); done)); rintro e w3 ⟨rfl, hb3⟩)
          | (go_at_call 32; refine Calls.mono (HVL.out _ ?_) ?_; (focus ((repeat (first | (with_reducible refine below_set ?_ (by first | exact Nat.le_refl _ | omega) _ _) | with_reducible exact Below.refl _ _ | with_reducible refine belowA ?_ _ | with_reducible refine below_own' ?_ hb1 | with_reducible refine belowD ?_ | with_reducible refine belowN ?_ _)); done)); rintro e w2 ⟨rfl, hb2⟩; clear c1)
          | (go_at_call 30; refine Calls.mono HPR.out ?_; rintro e w1 ⟨rfl, hb1⟩; have c1 := rdCell hb1 g hzg; have hz1 := Nat.lt_of_lt_of_le hzg hb1.size))
        go_ret
        exact ⟨rfl, by (repeat (first | (with_reducible refine below_set ?_ (by first | exact Nat.le_refl _ | omega) _ _) | with_reducible exact Below.refl _ _ | with_reducible refine belowA ?_ _ | with_reducible refine below_own' ?_ hb5 | with_reducible refine below_own' ?_ hb4 | with_reducible refine below_own' ?_ hb3 | with_reducible refine below_own' ?_ hb2 | with_reducible refine below_own' ?_ hb1 | with_reducible refine below_own' ?_ HBW.out | with_reducible refine belowD ?_ | with_reducible refine belowN ?_ _))⟩
end Go.Proofs.YtmepjbjmjbpchaaGreatDoor

