/- Texts of this claim, laid together: Br9, Post, Roa0, Roa1. -/
import Derived.Test.YtmepjbjmjbpchaaGreatDoorProg
import Derived.ProofKit
import Derived.OpenShut
import Derived.Carry
import Derived.WalkKit
import Derived.SizedLaws
import Derived.SliceStrings
import Derived.ChangeSlices
import Derived.Deep.Slices
import Derived.Deep.Fields
import Derived.Deep.DeepHandedRow
import Derived.Test.YtmepjbjmjbpchaaGreatDoorCards
import Derived.Test.YtmepjbjmjbpchaaGreatDoorTie
import Derived.Deep.DeepWitnessRowRef
import Derived.Lib.LaidTab
import Derived.Test.YtmepjbjmjbpchaaGreatDoorMg4
import Derived.Test.YtmepjbjmjbpchaaGreatDoorMg11
import Derived.Test.YtmepjbjmjbpchaaGreatDoorMg18
import Derived.Test.YtmepjbjmjbpchaaGreatDoorMg21
import Derived.Test.YtmepjbjmjbpchaaGreatDoorMg27
import Derived.Test.YtmepjbjmjbpchaaGreatDoorMg31
section
/- The reference's Parse at any string. -/
namespace Go.Proofs.YtmepjbjmjbpchaaGreatDoor
open Go Go.RowKit Go.Sort
set_option linter.unusedVariables false
set_option linter.unusedSimpArgs false

structure RpI (s : ByteArray) (w : World) (l : List Atr) (rs : ByteArray) (v : Value) (wr : World) : Prop where
  way : PrWay s l rs.data.toList
  sz : l.length + rs.size ≤ s.size
  own : AtrOwn wr w.heap.size v l
  below : Below w.heap.size w wr
theorem rp_some {s : ByteArray} {w W : World} {e : Ending} {l' : List Atr} {base n sc : Nat} {sa : Option Addr} {ok : Bool} (ho : AtrOwn W base (.slice sa n sc) l') (hn : n = l'.length) (hb : Below w.heap.size w W) (he : e = .returned (.tuple #[.slice sa n sc, .bool ok]))
    (h1 : ok = true → CanL s (l'.map Atr.dat)) (h2 : ∀ ds, CanL s ds → ok = true) : RpPost s w e W := ⟨hb, sa, sc, n, l', ok, he, hn, ho.sl, h1, h2⟩
theorem right_each {l : List Atr} (h : rightL l = true) : ∀ a ∈ l, rightA a = true := by
  intro a ha
  rw [rightL_D] at h
  exact rightL_each h a.dat (List.mem_map.2 ⟨a, ha, rfl⟩)
set_option maxRecDepth 100000 in
set_option maxHeartbeats 32000000 in
theorem rparse_loop (s : ByteArray) (w : World) (h0 : 0 < s.size) (hs : s.size ≤ 1048576) (hc : (s[0]'h0).toNat = 123) : Calls Tryz.prog 26 #[.string s] w (RpPost s w) := by
  obtain ⟨i0, hin, hz0, hz1, hz2⟩ := info_parts (show (Tryz.prog.info? 27).map (fun i => (i.zero, i.size, i.bytes)) = some (some zAttr, 6, 96) by kernel_rfl)
  have hemp := not_empty h0
  have h123 : (((s[0]'h0).toNat : Int) != 123) = false := by rw [hc]; rfl
  have h1 : (1 : Int) ≤ (s.size : Int) := by omega
  have HST : Hid (PrWay s [] (s.extract 1 s.size).data.toList) := Lib.hid (PrWay.start h0 (Lib.extract_to_end ..))
  clear hc
  go_enter Tryz.func26, Tryz.ntmps26
  go_wp2_with fail
  go_loopw [0, 5] (fun rv ov wr => ∃ (l : List Atr) (rs : ByteArray) (sa : Option Addr) (sc k : Nat), rv = .string rs ∧ ov = .slice sa k sc ∧ k = l.length ∧ RpI s w l rs (.slice sa k sc) wr) (fun rv _ _ => strLen rv)
  case atStart => exact ⟨[], s.extract 1 s.size, none, 0, 0, rfl, rfl, rfl, HST.out, by simp, AtrOwn.emp _ _, Below.refl _ _⟩
  case round =>
    clear hemp h123 h1 HST
    obtain ⟨l, rs, sa, sc, k, rfl, rfl, hk, hi⟩ := hrel
    have HK := Lib.hid hk
    have hsz := hi.sz
    rw [← hk] at hsz
    have HI := Lib.hid hi
    have HOW : Hid (∀ W, Below wr.heap.size wr W → W.ownsRow w.heap.size 27 6 (.slice sa k sc) k (l.flatMap Atr.cells)) := Lib.hid fun W h => by have := (HI.out.own.below h).own; rwa [← HK.out] at this
    clear hi hk
    go_wp2_with fail
    go_loop [6] (fun i => ∃ j : Nat, j ≤ rs.size ∧ i = .int .i64 j ∧ ∀ x ∈ rs.data.toList.take j, x ≠ 32) (fun i => rs.size - (intOf i).toNat)
    case atStart => exact ⟨0, Nat.zero_le _, rfl, by simp⟩
    case round =>
      obtain ⟨j, hj, rfl, hx⟩ := hrel
      have HX := Lib.hid hx
      clear hx
      have hcs : (∃ hlt : j < rs.size, (rs[j]'hlt).toNat ≠ 32) ∨ (∃ hlt : j < rs.size, (rs[j]'hlt).toNat = 32) ∨ j = rs.size := by
        rcases Nat.lt_or_ge j rs.size with h | h
        · by_cases h2 : (rs[j]'h).toNat = 32
          · exact .inr (.inl ⟨h, h2⟩)
          · exact .inl ⟨h, h2⟩
        · exact .inr (.inr (by omega))
      rcases hcs with ⟨hlt, h32⟩ | hend
      · have hb : (((rs[j]'hlt).toNat : Int) != 32) = true := by rw [bne_iff_ne]; omega
        have HT : Hid (∀ x ∈ rs.data.toList.take (j + 1), x ≠ 32) := Lib.hid (take_ne HX.out (bytes_get rs j hlt) (fun e => h32 (by rw [e]; rfl)))
        clear h32
        go_wp2_with fail
        go_round
        case rel => exact ⟨j + 1, by omega, by go_num, HT.out⟩
        case measure => simp [intOf]; omega
      · have hns : NoSp rs.data.toList j := by
          refine ⟨HX.out, by rw [list_size]; exact hj, ?_⟩
          rcases hend with ⟨hlt, h32⟩ | h
          · exact .inr (by rw [bytes_get rs j hlt, (UInt8.toNat_inj (b := 32)).1 h32])
          · exact .inl (List.getElem?_eq_none (by rw [list_size]; omega))
        have HNS := Lib.hid hns
        have hend2 : (∃ hlt : j < rs.size, (((rs[j]'hlt).toNat : Int) != 32) = false) ∨ (rs.size : Int) ≤ (j : Int) := by
          rcases hend with ⟨hlt, h32⟩ | h
          · exact .inl ⟨hlt, by rw [h32]; rfl⟩
          · exact .inr (by omega)
        clear hns hend
        have hji : (j : Int) ≤ (rs.size : Int) := by omega
        by_cases hj3 : rs.size < j + 3
        · have HNO := Lib.hid (HI.out.way.no_sep HNS.out (.inl (by rw [list_size]; exact hj3)))
          have hj3i : (rs.size : Int) < (j : Int) + 3 := by omega
          rcases hend2 with ⟨hlt, h32⟩ | h
          all_goals
            go_wp2_with fail
            go_ret2
            exact rp_no HI.out.below rfl HNO.out
        · have hj3i : ¬ ((rs.size : Int) < (j : Int) + 3) := by omega
          have hj3k : (j : Int) + 3 ≤ (rs.size : Int) := by omega
          have hend3 : ∃ hlt : j < rs.size, (((rs[j]'hlt).toNat : Int) != 32) = false := by
            rcases hend2 with h | h
            · exact h
            · omega
          obtain ⟨hlt, h32⟩ := hend3
          clear hend2
          have hx3 : (rs.extract j (j + 3)).data.toList = (rs.data.toList.drop j).take 3 := by rw [Lib.extract_data]; congr 1; omega
          by_cases heq : (rs.extract j (j + 3)) = ⟨#[32, 61, 32]⟩
          · have hbe : ((rs.extract j (j + 3)).toList == [32, 61, 32]) = true := by rw [heq, ByteArray.toList_eq]; rfl
            clear heq hx3
            obtain ⟨r2, hr2⟩ : ∃ r2, r2 = rs.extract (j + 3) rs.size := ⟨_, rfl⟩
            obtain ⟨nm, hnm⟩ : ∃ nm, nm = rs.extract 0 j := ⟨_, rfl⟩
            have hr2d : r2.data.toList = rs.data.toList.drop (j + 3) := by rw [hr2]; exact Lib.extract_to_end ..
            have hnmd : nm.data.toList = rs.data.toList.take j := by rw [hnm, Lib.extract_data]; simp
            have hr2z : r2.size = rs.size - (j + 3) := by rw [hr2, ByteArray.size_extract]; omega
            have hnmz : nm.size ≤ 1048576 := by rw [hnm, ByteArray.size_extract]; omega
            have HR2 := Lib.hid hr2
            have HNM := Lib.hid hnm
            have HR2D := Lib.hid hr2d
            have HNMD := Lib.hid hnmd
            have HR2Z := Lib.hid hr2z
            have hr2le : r2.size ≤ 1048576 := by omega
            clear hr2 hnm hr2d hnmd hr2z
            go_wp2_with fail
            rw [← HR2.out, ← HNM.out]
            refine (rends_any r2 _ (by omega)).mono ?_
            rintro e w1 ⟨hb1, n, rfl, hn, hen⟩
            have HEN : Hid (EndAt (rs.data.toList.drop (j + 3)) n) := Lib.hid (by rw [← HR2D.out]; exact hen)
            have hni : (n : Int) ≤ (r2.size : Int) := by omega
            obtain ⟨v, hv⟩ : ∃ v, v = r2.extract 0 n := ⟨_, rfl⟩
            have hvd : v.data.toList = (rs.data.toList.drop (j + 3)).take n := by rw [hv, Lib.extract_data, ← HR2D.out]; simp
            have hvz : v.size ≤ 1048576 := by rw [hv, ByteArray.size_extract]; omega
            have HV := Lib.hid hv
            have HVD := Lib.hid hvd
            clear hen hv hvd
            go_wp2_with fail
            rw [← HV.out]
            refine (rreadA_all nm v _ (by omega) (by omega)).mono ?_
            rintro e w2 ⟨hb2, a0, ok, rfl, hl2, hf2, hfr2, hso, hco⟩
            have HL2 := Lib.hid hl2
            have HF2 := Lib.hid hf2
            have HFR2 := Lib.hid hfr2
            have HSO := Lib.hid hso
            have HCO := Lib.hid hco
            clear hl2 hf2 hfr2 hso hco
            cases ok with
            | false =>
              have HNO := Lib.hid (HI.out.way.no_read HNS.out HEN.out HNMD.out HVD.out HCO.out (.inl rfl))
              go_wp2_with fail
              go_ret2
              exact rp_no (by (repeat (first | (with_reducible refine below_set ?_ (by first | exact Nat.le_refl _ | omega) _ _) | with_reducible exact Below.refl _ _ | with_reducible refine belowA ?_ _ | with_reducible refine below_own' ?_ hb2 | with_reducible refine below_own' ?_ hb1 | with_reducible refine below_own' ?_ HI.out.below | with_reducible refine belowD ?_ | with_reducible refine belowN ?_ _))) rfl HNO.out
            | true =>
              by_cases hnz : n = r2.size
              · have HNO := Lib.hid (HI.out.way.no_read HNS.out HEN.out HNMD.out HVD.out HCO.out (.inr (by rw [← HR2D.out, list_size]; exact hnz)))
                have hbz : ((n : Int) == (r2.size : Int)) = true := by rw [hnz]; simp
                clear hnz
                go_wp2_with fail
                go_ret2
                exact rp_no (by (repeat (first | (with_reducible refine below_set ?_ (by first | exact Nat.le_refl _ | omega) _ _) | with_reducible exact Below.refl _ _ | with_reducible refine belowA ?_ _ | with_reducible refine below_own' ?_ hb2 | with_reducible refine below_own' ?_ hb1 | with_reducible refine below_own' ?_ HI.out.below | with_reducible refine belowD ?_ | with_reducible refine belowN ?_ _))) rfl HNO.out
              · have hbz : ((n : Int) == (r2.size : Int)) = false := by rw [beq_eq_false_iff_ne]; omega
                have hnlt : n < r2.size := by omega
                have hnlti : (n : Int) < (r2.size : Int) := by omega
                clear hnz
                have HNX := Lib.hid (HI.out.way.next HNS.out HEN.out HNMD.out HVD.out (HSO.out rfl))
                have hszw := HI.out.below.size
                have hsz1 := hb1.size
                have hsz2 := hb2.size
                go_wp2_with (at_builtin; refine wpList_append_own_at _ rfl _ _ 22 rfl w.heap.size 27 i0 zAttr 6 96 Tryz.underlying22 hin hz0 hz1 hz2 rfl (by decide) (.slice sa k sc) k (l.flatMap Atr.cells) (by simp [Act.eval]) (HOW.out _ (by (repeat (first | (with_reducible refine below_set ?_ (by first | exact Nat.le_refl _ | omega) _ _) | with_reducible exact Below.refl _ _ | with_reducible refine belowA ?_ _ | with_reducible refine below_own' ?_ hb2 | with_reducible refine below_own' ?_ hb1 | with_reducible refine belowD ?_ | with_reducible refine belowN ?_ _)))) ⟨w2.heap.size + 1, 0, none⟩ 1 1 [.string a0.name, .int .i64 a0.kind, .int .i64 a0.num, .string a0.text, .slice a0.ia a0.ints.length a0.ic, .slice a0.ta a0.texts.length a0.tc] (by simp [Act.eval]) rfl ?c1 ?c2 ?c3 ?c4 ?c5 ?_)
                case c1 =>
                  intro t u hj
                  have hlt6 : t < 6 := by have := (List.getElem?_eq_some_iff.1 hj).1; simpa using this
                  have hadd : (⟨w2.heap.size + 1, 0, none⟩ : Addr).add t = ⟨w2.heap.size + 1, 0 + t, none⟩ := by
                    unfold Addr.add; split
                    · rename_i h; subst h; rfl
                    · rfl
                  rw [hadd, Nat.zero_add, blkCell (heap_alloc_new' _ _ (by simp))]
                  have ht : t = 0 ∨ t = 1 ∨ t = 2 ∨ t = 3 ∨ t = 4 ∨ t = 5 := by omega
                  rcases ht with rfl | rfl | rfl | rfl | rfl | rfl <;> simpa using hj
                case c2 =>
                  intro u hu
                  simp only [List.mem_cons, List.not_mem_nil, or_false] at hu
                  rcases hu with rfl | rfl | rfl | rfl | rfl | rfl <;> rfl
                case c3 => unfold maxLen; omega
                case c4 => omega
                case c5 => simp; omega
                intro v' w7 hown' hgrow _ hat
                have hb6 : Below wr.heap.size wr ((w2.alloc (.cells #[.string a0.name, .int .i64 a0.kind, .int .i64 a0.num, .string a0.text, .slice a0.ia a0.ints.length a0.ic, .slice a0.ta a0.texts.length a0.tc] 27)).alloc (.cells #[.string a0.name, .int .i64 a0.kind, .int .i64 a0.num, .string a0.text, .slice a0.ia a0.ints.length a0.ic, .slice a0.ta a0.texts.length a0.tc] 27)) := by (repeat (first | (with_reducible refine below_set ?_ (by first | exact Nat.le_refl _ | omega) _ _) | with_reducible exact Below.refl _ _ | with_reducible refine belowA ?_ _ | with_reducible refine below_own' ?_ hb2 | with_reducible refine below_own' ?_ hb1 | with_reducible refine belowD ?_ | with_reducible refine belowN ?_ _))
                have hb26 : Below w2.heap.size w2 ((w2.alloc (.cells #[.string a0.name, .int .i64 a0.kind, .int .i64 a0.num, .string a0.text, .slice a0.ia a0.ints.length a0.ic, .slice a0.ta a0.texts.length a0.tc] 27)).alloc (.cells #[.string a0.name, .int .i64 a0.kind, .int .i64 a0.num, .string a0.text, .slice a0.ia a0.ints.length a0.ic, .slice a0.ta a0.texts.length a0.tc] 27)) := by (repeat (first | (with_reducible refine below_set ?_ (by first | exact Nat.le_refl _ | omega) _ _) | with_reducible exact Below.refl _ _ | with_reducible refine belowA ?_ _ | with_reducible refine belowD ?_ | with_reducible refine belowN ?_ _))
                have hlies : a0.Lies _ := HL2.out.below hb26
                have hszx : (((w2.alloc (.cells #[.string a0.name, .int .i64 a0.kind, .int .i64 a0.num, .string a0.text, .slice a0.ia a0.ints.length a0.ic, .slice a0.ta a0.texts.length a0.tc] 27)).alloc (.cells #[.string a0.name, .int .i64 a0.kind, .int .i64 a0.num, .string a0.text, .slice a0.ia a0.ints.length a0.ic, .slice a0.ta a0.texts.length a0.tc] 27))).heap.size = w2.heap.size + 2 := by simp
                have hnew := AtrOwn.snoc (a := a0) (HI.out.own.below hb6) hlies HF2.out (fun x hx => ⟨by have := (HFR2.out x hx).2; omega, fun e => by have h1 := (HFR2.out x hx).1; have h2 := (HI.out.own.own.lt _ e).2; omega⟩)
                  (by rw [← HK.out]; exact hown') hgrow hat (by simp)
                obtain ⟨pa', pc', rfl, -⟩ := own_form hown'
                have HNEW := Lib.hid hnew
                have hb7 : Below w.heap.size w w7 := (below_own' HI.out.below hb6).grown hgrow (below_own' HI.out.below hb6).size (fun k hk => (HI.out.own.own.lt k hk).1)
                have HB7 := Lib.hid hb7
                have HK1 : Hid (k + 1 = (l ++ [a0]).length) := Lib.hid (by rw [List.length_append, ← HK.out]; rfl)
                obtain ⟨l', hl'⟩ : ∃ l', l' = l ++ [a0] := ⟨_, rfl⟩
                rw [← hl'] at HNEW HK1
                have HNX2 := HNX.out
                rw [← hl'] at HNX2
                have HNX3 := Lib.hid HNX2
                clear hnew hown' hgrow hat hb6 hb26 hlies hb7 HNX HNX2 hl' hszx
                have hget := Lib.hid (bytes_get r2 n hnlt)
                by_cases h125 : (r2[n]'hnlt).toNat = 125
                · have hb125 : (((r2[n]'hnlt).toNat : Int) == 125) = true := by rw [h125]; rfl
                  have HLAST := Lib.hid (HNX3.out.1 (by rw [← HR2D.out, hget.out, (UInt8.toNat_inj (b := 125)).1 h125]))
                  clear h125
                  have HLL : Hid (∀ ds, CanL s ds → rightL l' = true ∧ listD (l'.map Atr.dat) = s.data.toList) := Lib.hid fun ds hc => by
                    have h := (HLAST.out ds hc).1
                    subst h
                    exact ⟨by rw [rightL_D]; exact hc.1, hc.2.2⟩
                  by_cases hz : n + 1 = r2.size
                  · have hbn : ((n : Int) == (r2.size : Int) - 1) = true := by rw [beq_iff_eq]; omega
                    have hll : l'.length ≤ 100000000000000 := by rw [← HK1.out]; omega
                    have HRL : Hid (∀ W, Below w7.heap.size w7 W → Calls Tryz.prog 14 #[.slice pa' (k + 1) pc'] W fun e w' => e = .returned (.bool (rightL l')) ∧ Below W.heap.size W w') := Lib.hid fun W h => by
                      have := rRightList_any pa' pc' l' W (HNEW.out.sl.below h) hll
                      rwa [← HK1.out] at this
                    clear hz
                    cases hr : rightL l' with
                    | false =>
                      have HR := Lib.hid hr
                      rw [hr] at HRL
                      clear hr
                      go_wp2_with (go_at_call 14; refine Calls.mono (HRL.out _ ?_) ?_; (focus ((repeat (first | (with_reducible refine below_set ?_ (by first | exact Nat.le_refl _ | omega) _ _) | with_reducible exact Below.refl _ _ | with_reducible refine belowA ?_ _ | with_reducible refine belowD ?_ | with_reducible refine belowN ?_ _)); done)); rintro e w8 ⟨rfl, hb8⟩)
                      go_ret2
                      exact rp_some (HNEW.out.below hb8) HK1.out (by (repeat (first | (with_reducible refine below_set ?_ (by first | exact Nat.le_refl _ | omega) _ _) | with_reducible exact Below.refl _ _ | with_reducible refine belowA ?_ _ | with_reducible refine below_own' ?_ hb8 | with_reducible refine below_own' ?_ HB7.out | with_reducible refine belowD ?_ | with_reducible refine belowN ?_ _))) rfl (fun h => by cases h) (fun ds hc => by have := (HLL.out ds hc).1; rw [HR.out] at this; cases this)
                    | true =>
                      have HR := Lib.hid hr
                      rw [hr] at HRL
                      obtain ⟨pv, hpv⟩ : ∃ pv : ByteArray, pv = ⟨(listD (l'.map Atr.dat)).toArray⟩ := ⟨_, rfl⟩
                      have HPR : Hid (∀ W, Below w7.heap.size w7 W → Calls Tryz.prog 31 #[.slice pa' (k + 1) pc'] W fun e w' => e = .returned (.string pv) ∧ Below W.heap.size W w') := Lib.hid fun W h => by
                        have := rprint_any pa' pc' l' W (HNEW.out.sl.below h) (right_each hr) (rightL_len hr)
                        rw [← hpv] at this
                        rwa [← HK1.out] at this
                      have HPV := Lib.hid hpv
                      clear hr hpv
                      by_cases hps : pv = s
                      · have hbp : (pv.toList == s.toList) = true := by rw [beq_iff_eq, toList_inj]; exact hps
                        have HPS := Lib.hid hps
                        clear hps
                        go_wp2_with (first
                          | (go_at_call 31; refine Calls.mono (HPR.out _ ?_) ?_; (focus ((repeat (first | (with_reducible refine below_set ?_ (by first | exact Nat.le_refl _ | omega) _ _) | with_reducible exact Below.refl _ _ | with_reducible refine belowA ?_ _ | with_reducible refine below_own' ?_ hb8 | with_reducible refine belowD ?_ | with_reducible refine belowN ?_ _)); done)); rintro e w9 ⟨rfl, hb9⟩)
                          | (go_at_call 14; refine Calls.mono (HRL.out _ ?_) ?_; (focus ((repeat (first | (with_reducible refine below_set ?_ (by first | exact Nat.le_refl _ | omega) _ _) | with_reducible exact Below.refl _ _ | with_reducible refine belowA ?_ _ | with_reducible refine belowD ?_ | with_reducible refine belowN ?_ _)); done)); rintro e w8 ⟨rfl, hb8⟩))
                        go_ret2
                        exact rp_some ((HNEW.out.below hb8).below hb9) HK1.out (by (repeat (first | (with_reducible refine below_set ?_ (by first | exact Nat.le_refl _ | omega) _ _) | with_reducible exact Below.refl _ _ | with_reducible refine belowA ?_ _ | with_reducible refine below_own' ?_ hb9 | with_reducible refine below_own' ?_ hb8 | with_reducible refine below_own' ?_ HB7.out | with_reducible refine belowD ?_ | with_reducible refine belowN ?_ _))) rfl (fun _ => can_list HR.out HNEW.out.fits (by rw [← HPS.out, HPV.out])) (fun _ _ => rfl)
                      · have hbp : (pv.toList == s.toList) = false := by rw [beq_eq_false_iff_ne, ne_eq, toList_inj]; exact hps
                        have HPS := Lib.hid hps
                        clear hps
                        go_wp2_with (first
                          | (go_at_call 31; refine Calls.mono (HPR.out _ ?_) ?_; (focus ((repeat (first | (with_reducible refine below_set ?_ (by first | exact Nat.le_refl _ | omega) _ _) | with_reducible exact Below.refl _ _ | with_reducible refine belowA ?_ _ | with_reducible refine below_own' ?_ hb8 | with_reducible refine belowD ?_ | with_reducible refine belowN ?_ _)); done)); rintro e w9 ⟨rfl, hb9⟩)
                          | (go_at_call 14; refine Calls.mono (HRL.out _ ?_) ?_; (focus ((repeat (first | (with_reducible refine below_set ?_ (by first | exact Nat.le_refl _ | omega) _ _) | with_reducible exact Below.refl _ _ | with_reducible refine belowA ?_ _ | with_reducible refine belowD ?_ | with_reducible refine belowN ?_ _)); done)); rintro e w8 ⟨rfl, hb8⟩))
                        go_ret2
                        exact rp_some ((HNEW.out.below hb8).below hb9) HK1.out (by (repeat (first | (with_reducible refine below_set ?_ (by first | exact Nat.le_refl _ | omega) _ _) | with_reducible exact Below.refl _ _ | with_reducible refine belowA ?_ _ | with_reducible refine below_own' ?_ hb9 | with_reducible refine below_own' ?_ hb8 | with_reducible refine below_own' ?_ HB7.out | with_reducible refine belowD ?_ | with_reducible refine belowN ?_ _))) rfl (fun h => by cases h) (fun ds hc => absurd (bytes_inj (by rw [HPV.out]; exact (HLL.out ds hc).2)) HPS.out)
                  · have hbn : ((n : Int) == (r2.size : Int) - 1) = false := by rw [beq_eq_false_iff_ne]; omega
                    have HZ := Lib.hid hz
                    clear hz
                    go_wp2_with fail
                    go_ret2
                    exact rp_some HNEW.out HK1.out HB7.out rfl (fun h => by cases h) (fun ds hc => absurd (by have := (HLAST.out ds hc).2; rw [← HR2D.out, list_size] at this; exact this) HZ.out)
                · have hb125 : (((r2[n]'hnlt).toNat : Int) == 125) = false := by rw [beq_eq_false_iff_ne]; omega
                  obtain ⟨hm1, hm2⟩ := HNX3.out.2 (by rw [← HR2D.out, hget.out]; intro h; exact h125 (by rw [Option.some.inj h]; rfl))
                  have HM1 := Lib.hid hm1
                  have HM2 := Lib.hid hm2
                  clear hm1 hm2 h125
                  by_cases hn1 : n + 1 < r2.size
                  · have hn1i : ¬ ((r2.size : Int) ≤ (n : Int) + 1) := by omega
                    have hn1j : (n : Int) + 1 < (r2.size : Int) := by omega
                    by_cases h32 : (r2[n + 1]'hn1).toNat = 32
                    · have hb32 : (((r2[n + 1]'hn1).toNat : Int) != 32) = false := by rw [h32]; rfl
                      have hn2 : (n : Int) + 2 ≤ (r2.size : Int) := by omega
                      clear h32
                      have hr3 : (r2.extract (n + 2) r2.size).data.toList = (rs.data.toList.drop (j + 3)).drop (n + 2) := by rw [← HR2D.out]; exact Lib.extract_to_end ..
                      have HR3 := Lib.hid hr3
                      clear hr3
                      go_wp2_with fail
                      go_roundw
                      case rel => exact ⟨l', r2.extract (n + 2) r2.size, pa', pc', k + 1, rfl, rfl, HK1.out, by rw [HR3.out]; exact HM2.out, by have hz2 := HR2Z.out; rw [ByteArray.size_extract, ← HK1.out]; omega, HNEW.out, HB7.out⟩
                      case measure => have hz2 := HR2Z.out; simp [strLen]; omega
                    · have hb32 : (((r2[n + 1]'hn1).toNat : Int) != 32) = true := by rw [bne_iff_ne]; omega
                      have HNO := Lib.hid (HM1.out (by rw [← HR2D.out, bytes_get r2 (n + 1) hn1]; intro h; exact h32 (by rw [Option.some.inj h]; rfl)))
                      clear h32
                      go_wp2_with fail
                      go_ret2
                      exact rp_no HB7.out rfl HNO.out
                  · have hn1i : (r2.size : Int) ≤ (n : Int) + 1 := by omega
                    have HNO := Lib.hid (HM1.out (by rw [← HR2D.out, List.getElem?_eq_none (by rw [list_size]; omega)]; simp))
                    clear hn1
                    go_wp2_with fail
                    go_ret2
                    exact rp_no HB7.out rfl HNO.out
          · have HNO := Lib.hid (HI.out.way.no_sep HNS.out (.inr (fun h => heq (bytes_inj (by rw [hx3, h])))))
            have hbe : ((rs.extract j (j + 3)).toList == [32, 61, 32]) = false := by
              rw [beq_eq_false_iff_ne]; intro h
              exact heq (toList_inj.1 (by rw [h, ByteArray.toList_eq]))
            clear heq hx3
            go_wp2_with fail
            go_ret2
            exact rp_no HI.out.below rfl HNO.out
set_option maxRecDepth 100000 in
theorem rparse_any (s : ByteArray) (w : World) (hs : s.size ≤ 1048576) : Calls Tryz.prog 26 #[.string s] w (RpPost s w) := by
  rcases Nat.eq_zero_or_pos s.size with h0 | h0
  · have hs0 : s = ⟨#[]⟩ := by apply ByteArray.ext; exact Array.eq_empty_of_size_eq_zero h0
    subst hs0
    go_enter Tryz.func26, Tryz.ntmps26
    go_wp2_with fail
    go_ret2
    exact ⟨Below.refl _ _, none, 0, 0, [], true, rfl, rfl, ⟨.inl rfl, by simp, by simp⟩, (fun _ => ⟨rfl, by simp, rfl⟩), fun _ _ => rfl⟩
  · by_cases hc : (s[0]'h0).toNat = 123
    · exact rparse_loop s w h0 hs hc
    · have HNO : Hid (∀ ds, ¬ CanL s ds) := Lib.hid (fun ds hd => by
        obtain ⟨h1, h2⟩ := canL_head hd h0
        have hg := bytes_get s 0 h0
        rw [h2] at hg
        have h3 : (123 : UInt8) = s[0]'h0 := by simpa using hg
        exact hc (by rw [← h3]; rfl))
      have hemp := not_empty h0
      have hb : (((s[0]'h0).toNat : Int) != 123) = true := by rw [bne_iff_ne]; omega
      clear hc
      go_enter Tryz.func26, Tryz.ntmps26
      go_wp2_with fail
      go_ret2
      exact rp_no (Below.refl _ _) rfl HNO.out
end Go.Proofs.YtmepjbjmjbpchaaGreatDoor
end
section
/- A law's answer where the call leaves new blocks, frozen ones among them: of what was there nothing has turned. -/
namespace Go.Proofs.YtmepjbjmjbpchaaGreatDoor
open Go.ChangeShapes Go.WideShapes Go.ChangeAt Go.RowKit
set_option linter.unusedVariables false

section
variable {H : Type} {enc : TypeId × Value → H} {P : Program}
theorem trodAll_stays {enc : TypeId × Value → H} (hl : laidOutB P = true) {W W' : World} {sp' : Nat → Bool} : ∀ (ts : List TypeId) (vs : List Value) (ds : List (DataW H)) (ps : List MemPlace), (∀ t ∈ ts, P.readableRec t = true ∧ t < P.types.size) →
    DataW.TrodAll enc P W 0 (fun _ => true) true ts vs ds ps → (∀ p ∈ ps, W.sameAt W' p) → (∀ p ∈ ps, sp' p.block = true) → DataW.TrodAll enc P W' 0 sp' true ts vs ds ps := by
  intro ts
  induction ts with
  | nil => intro vs ds ps _ h _ _; obtain ⟨rfl, rfl, rfl⟩ := trodAll_nil h; exact trodAll_mk0
  | cons t ts ih =>
    intro vs ds ps hr h hs hp
    obtain ⟨v, vs', d, ds', p, q, rfl, rfl, rfl, h0, r⟩ := trodAll_cons h
    exact trodAll_cons_mk (WideElems.Trod_stays hl (hr t (by simp)).1 (hr t (by simp)).2 h0 (fun x hx => hs x (by simp [hx])) (fun x hx => hp x (by simp [hx])))
      (ih vs' ds' q (fun u hu => hr u (by simp [hu])) r (fun x hx => hs x (by simp [hx])) (fun x hx => hp x (by simp [hx])))
theorem post_below {f : Func} {s : ChangeSpec} {W W' : World} {args : Array Value} {v : Value} {ds : List (DataW H)} {before : List MemPlace}
    (hl : laidOutB P = true) (hr : ∀ t ∈ f.params.toList, P.readableRec t = true ∧ t < P.types.size) (hvs : s.vars = [])
    (hW : DataW.Whole enc P f.params.toList s.vars false W args.toList ds [] before)
    (hfn : s.fn H (ds ++ []) = { results := [.lit (.bool true)], args := ds })
    (hb : Below W.heap.size W W') (t : TypeId) (ht : P.underlying t = some .bool) (hrt : f.resultTypes = #[t]) (hv : v = .bool true) :
    s.post enc P f false true false false W args v W' := by
  have hlt : ∀ p ∈ before, p.block < W.heap.size := fun p hp => hW.lt p hp
  have hW0 := hW
  obtain ⟨p, q, hA, hV, hpq, -, -⟩ := hW0
  rw [hvs] at hV
  obtain ⟨-, hq⟩ := trodVars_none hV
  subst hq
  rw [List.append_nil] at hpq
  subst hpq
  refine ⟨ds, [], before, [], before, [], hW, ?_, ?_, ?_, hb.frame _, fun h => by cases h⟩
  · rw [hfn, hrt, hv]
    exact trodAll_cons_mk (shut_bool ht _) trodAll_mk0
  · rw [hfn]
    exact trodAll_stays hl _ _ _ _ hr hA (fun x hx => hb.same (hlt x hx)) (fun x hx => by simpa using hlt x hx)
  · rw [hfn, hvs]
    rfl
end
end Go.Proofs.YtmepjbjmjbpchaaGreatDoor
end
section
/- An attribute, and a list of attributes, as a row's argument: what the memory holds of them. -/
namespace Go.Proofs.YtmepjbjmjbpchaaGreatDoor
open Go.ChangeShapes Go.WideShapes Go.ChangeAt Go.RowKit
set_option linter.unusedVariables false
set_option linter.unusedSimpArgs false

section
variable {H : Type} {enc : TypeId × Value → H} {W : World}
end
end Go.Proofs.YtmepjbjmjbpchaaGreatDoor
end
section
/- What every row of the chapter uses: the library's variables as the row lays them, the world of the witness. -/
namespace Go.Proofs.YtmepjbjmjbpchaaGreatDoor
open Go.ChangeShapes Go.WideShapes Go.ChangeAt Go.RowKit
set_option linter.unusedVariables false
set_option linter.unusedSimpArgs false

theorem own : ownKnob Tryz.prog.godebug = none := by kernel_rfl
theorem laid_tail {P : Program} {W : World} {x : String × DataW Unit} {rest : List (String × DataW Unit)} (h : laidMet P (x :: rest) W) : laidMet P rest W := by
  obtain ⟨ps, ⟨g', t', cs, fuel, p, q, hg', ht', hvar, hd, hq, hrest⟩, h2⟩ := h
  subst hrest
  exact ⟨q, hq, (List.nodup_append.1 h2.1).2.1, fun b off hm => h2.2 b off (List.mem_append_right _ hm)⟩
abbrev laidList : List (String × DataW Unit) := Rows.attrsSetsRow.laid
theorem pow_of {W : World} (h : laidMetH Tryz.prog laidList W) : Pow W :=
  Lib.tabIs_of_head (g := 5) (t := 201) (e := 125) (n := 20) (rest := [("unicode/utf8.acceptRanges", Rows.laid_unicode_utf8_acceptRanges), ("strconv.ErrRange", Rows.laid_strconv_ErrRange), ("strconv.ErrSyntax", Rows.laid_strconv_ErrSyntax), ("unicode/utf8.first", Rows.laid_unicode_utf8_first)]) (by kernel_rfl) (by kernel_rfl) (by kernel_rfl) (by kernel_rfl) (by kernel_rfl) (by kernel_rfl) (laid_tail (laid_tail (show laidMet Tryz.prog laidList W from h)))
theorem glob_of {W : World} (h : laidMetH Tryz.prog laidList W) (hsh : W.ShapedOpen Tryz.prog) : Glob W := by
  obtain ⟨m, hm⟩ := Tryz.laysM138.s1_3 W hsh
  refine ⟨pow_of h, ⟨m, hm⟩, ?_⟩
  rcases Nat.eq_zero_or_pos W.heap.size with h0 | h0
  · exfalso
    have : W.heap[0]? = none := Array.getElem?_eq_none (by omega)
    have hm' : W.cell? ⟨0, 0, none⟩ = some (.int .i64 m) := hm
    simp [World.cell?, this] at hm'
  · exact h0
/-- A datum's cells. -/
def flat : DataW Unit → List Value
  | .lit (.int k n) => [.int k n]
  | .agg l => flats l
  | _ => []
where flats : List (DataW Unit) → List Value
  | [] => []
  | x :: l => flat x ++ flats l
noncomputable def layOne (w : World) (x : String × DataW Unit) : World :=
  match Tryz.prog.globalNamed x.1 with
  | some g => { w with heap := w.heap.modify g fun
      | .cells _ t frozen => .cells (flat x.2).toArray t frozen
      | o => o }
  | none => w
/-- A variable that holds an error of a text. -/
noncomputable def layErr (w : World) (g : Nat) (s : ByteArray) : World :=
  { w with heap := (w.heap.modify g fun
      | .cells _ t frozen => .cells #[.iface 182 (.pointer (some ⟨w.heap.size, 0, none⟩))] t frozen
      | o => o).push (.cells #[.string s] 184 (0, 0)) }
abbrev plainList : List (String × DataW Unit) := [("math/bits.deBruijn32tab", Rows.laid_math_bits_deBruijn32tab), ("math/bits.deBruijn64tab", Rows.laid_math_bits_deBruijn64tab), ("internal/strconv.uint64pow10", Rows.laid_internal_strconv_uint64pow10), ("unicode/utf8.acceptRanges", Rows.laid_unicode_utf8_acceptRanges), ("unicode/utf8.first", Rows.laid_unicode_utf8_first)]
/-- A WORLD FOR THE WITNESS: the settled one, the tables holding what their initialisers lay. -/
noncomputable def laidWorld (os : Os) : World :=
  layErr (layErr (plainList.foldl layOne (World.holding Tryz.prog os ⟨#[], #[], []⟩)) 2 ⟨#[118, 97, 108, 117, 101, 32, 111, 117, 116, 32, 111, 102, 32, 114, 97, 110, 103, 101]⟩) 1 ⟨#[105, 110, 118, 97, 108, 105, 100, 32, 115, 121, 110, 116, 97, 120]⟩
end Go.Proofs.YtmepjbjmjbpchaaGreatDoor
end
