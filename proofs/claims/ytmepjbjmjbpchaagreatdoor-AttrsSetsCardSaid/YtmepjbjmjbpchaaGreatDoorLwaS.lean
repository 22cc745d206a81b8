/- AttrsSets: the law's walk. -/
import Derived.Test.YtmepjbjmjbpchaaGreatDoorAs0
import Derived.Deep.Cut
import Derived.Laws.Runes
import Derived.Deep.DeepCutAuto
import Derived.Deep.CutBlock
namespace Go.Proofs.YtmepjbjmjbpchaaGreatDoor
open Go Go.RowKit Go.Sort
set_option linter.unusedVariables false
set_option linter.unusedSimpArgs false

/-- The long list after some rounds. -/
structure ManyI (w wr : World) (k : Nat) (v : Value) : Prop where
  own : wr.ownsRow w.heap.size 27 6 v k ((mL k).flatMap Atr.cells)
  bel : Below w.heap.size w wr
theorem ManyI.snoc {w W W' : World} {k : Nat} {v v' : Value} {S : ByteArray} (h : ManyI w W k v) (hS : S = mName k)
    (ho : W'.ownsRow w.heap.size 27 6 v' (k + 1) ((mL k).flatMap Atr.cells ++ [.string S, .int .i64 0, .int .i64 0, .string ⟨#[]⟩, .slice none 0 0, .slice none 0 0]))
    {x : Obj} (hg : (W.alloc x).grownBy W' v.ownBlock) : ManyI w W' (k + 1) v' := by
  subst hS
  refine ⟨by rw [mL_succ, List.flatMap_append]; simpa [Atr.cells, mAt] using ho, ?_⟩
  exact (belowA h.bel x).grown hg (by have := h.bel.size; simp; omega) (fun j hj => (h.own.lt j hj).1)
theorem enc_small (a : Nat) (h : a ≤ 9) : Utf8.encode (97 + (a : Int)) = ⟨#[UInt8.ofNat (97 + a)]⟩ := by
  have : a = 0 ∨ a = 1 ∨ a = 2 ∨ a = 3 ∨ a = 4 ∨ a = 5 ∨ a = 6 ∨ a = 7 ∨ a = 8 ∨ a = 9 := by omega
  rcases this with rfl | rfl | rfl | rfl | rfl | rfl | rfl | rfl | rfl | rfl <;> rfl

set_option maxRecDepth 1000000 in
set_option maxHeartbeats 32000000 in
theorem sets_law (p : Option Addr) (c : Nat) (l : List Atr) (x : Atr) (w : World) (hg : Glob w) (hs : AtrSl w p l) (hl : l.length ≤ 100000000000000) (hx : x.Lies w) (fx : x.Fits) :
    Calls Tryz.prog 3 #[.slice p l.length c, x.val] w fun e w' => e = .returned (.bool true) ∧ Below w.heap.size w w' := by
  obtain ⟨i0, hin, hz0, hz1, hz2⟩ := info_parts (show (Tryz.prog.info? 27).map (fun i => (i.zero, i.size, i.bytes)) = some (some zAttr, 6, 96) by kernel_rfl)
  have HG := Lib.hid hg
  obtain ⟨z, hz⟩ : ∃ z, z = setWant l x := ⟨_, rfl⟩
  obtain ⟨V, hV⟩ : ∃ V, V = setVal l x := ⟨_, rfl⟩
  obtain ⟨r, hr⟩ : ∃ r, r = (rightL l && rightA x) := ⟨_, rfl⟩
  have hst := fun (W : World) (h : Below w.heap.size w W) => set_want p c l x W (hs.below h) hl (hx.below h) fx
  rw [← hz, ← hV] at hst
  have HST := Lib.hid hst
  have HVL : Hid (V.length ≤ 100) := Lib.hid (by rw [hV]; exact setVal_len l x)
  have HRL := Lib.hid (fun (W : World) (h : Below w.heap.size w W) => rRightList_any p c l W (hs.below h) hl)
  have HRA := Lib.hid (fun (W : World) (h : Below w.heap.size w W) => rRight_any x W (hx.below h) fx)
  have HRS : Hid (r = true → ∀ W, Below w.heap.size w W → Calls Tryz.prog 16 #[.slice p l.length c, x.val] W fun e w' => ∃ sa n sc lv, e = .returned (.slice sa n sc) ∧ n = lv.length ∧ AtrSl w' sa lv ∧ lv.map Atr.dat = setD (l.map Atr.dat) x.dat ∧ n ≤ 1000 ∧ Below W.heap.size W w') := Lib.hid fun h W hW => by
    rw [hr, Bool.and_eq_true] at h
    have hlen := rightL_len h.1
    refine (rset_any p c l x W (hs.below hW) (by omega) (hx.below hW) fx).mono fun e w' h2 => ?_
    obtain ⟨sa, sc, l', he, hsl, hll, hd, hb⟩ := h2
    exact ⟨sa, l'.length, sc, l', he, rfl, hsl, by rw [hd, rsetAll_eq (rises_dat h.1)], by omega, hb⟩
  have HR := Lib.hid hr
  have HZ : Hid (z = if r then (if 100 < (setD (l.map Atr.dat) x.dat).length then 2 else 0) else 20) := Lib.hid (by rw [hz, hr]; rfl)
  have HV : Hid (V = if r then (if 100 < (setD (l.map Atr.dat) x.dat).length then [] else setD (l.map Atr.dat) x.dat) else []) := Lib.hid (by rw [hV, hr]; rfl)
  clear hz hV hr hst hg hs hx
  go_enter Tryz.func3, Tryz.ntmps3
  go_upto_region 4 with (go_at_call 13; refine Calls.mono (HST.out _ ?_) ?_; (focus ((repeat (first | (with_reducible refine below_set ?_ (by first | exact Nat.le_refl _ | omega) _ _) | with_reducible exact Below.refl _ _ | with_reducible refine belowA ?_ _ | with_reducible refine belowD ?_ | with_reducible refine belowN ?_ _)); done)); rintro e w1 ⟨sv, sn, cv, lv, rfl, hn1, hs1, hd1, hb1⟩; have HN1 := Lib.hid hn1; have HS1 := Lib.hid hs1; have HD1 := Lib.hid hd1; clear hn1 hs1 hd1; have c1 := rdCell hb1 w.heap.size (by first | (simp; done) | (simp; omega)); have hz1w : w.heap.size < w1.heap.size := (by have := Below.size hb1; simp at this; omega))
  go_cut [30] (fun b wx => b = .bool (!r) ∧ Below w1.heap.size w1 wx)
  case first =>
    cases hrl : rightL l with
    | false =>
      have HQ : Hid (r = false) := Lib.hid (by rw [HR.out, hrl]; rfl)
      have HR0 := Lib.hid hrl
      clear hrl
      go_wp2_with (go_at_call 14; refine Calls.mono (HRL.out _ ?_) ?_; (focus ((repeat (first | (with_reducible refine below_set ?_ (by first | exact Nat.le_refl _ | omega) _ _) | with_reducible exact Below.refl _ _ | with_reducible refine belowA ?_ _ | with_reducible refine below_own' ?_ hb1 | with_reducible refine belowD ?_ | with_reducible refine belowN ?_ _)); done)); rintro e w2 ⟨rfl, hb2⟩; rw [HR0.out])
      go_meet
      exact ⟨by rw [HQ.out]; rfl, hb2⟩
    | true =>
      have HQ : Hid (rightA x = r) := Lib.hid (by rw [HR.out, hrl]; rfl)
      have HR0 := Lib.hid hrl
      clear hrl
      go_wp2_with (first
        | (go_at_call 15; refine Calls.mono (HRA.out _ ?_) ?_; (focus ((repeat (first | (with_reducible refine below_set ?_ (by first | exact Nat.le_refl _ | omega) _ _) | with_reducible exact Below.refl _ _ | with_reducible refine belowA ?_ _ | with_reducible refine below_own' ?_ hb2 | with_reducible refine below_own' ?_ hb1 | with_reducible refine belowD ?_ | with_reducible refine belowN ?_ _)); done)); rintro e w3 ⟨rfl, hb3⟩; rw [HQ.out])
        | (go_at_call 14; refine Calls.mono (HRL.out _ ?_) ?_; (focus ((repeat (first | (with_reducible refine below_set ?_ (by first | exact Nat.le_refl _ | omega) _ _) | with_reducible exact Below.refl _ _ | with_reducible refine belowA ?_ _ | with_reducible refine below_own' ?_ hb1 | with_reducible refine belowD ?_ | with_reducible refine belowN ?_ _)); done)); rintro e w2 ⟨rfl, hb2⟩; rw [HR0.out]; have c2 := fun j => (rdCell hb2 w.heap.size hz1w j).trans (c1 j)))
      go_meet
      exact ⟨rfl, below_own' hb2 hb3⟩
  case rest =>
    obtain ⟨rfl, hbc⟩ := hcut
    have c2 := fun j => (rdCell hbc w.heap.size hz1w j).trans (c1 j)
    have hzcw : w.heap.size < wc.heap.size := Nat.lt_of_lt_of_le hz1w hbc.size
    have HBC : Hid (Below w.heap.size w wc) := Lib.hid (by (repeat (first | (with_reducible refine below_set ?_ (by first | exact Nat.le_refl _ | omega) _ _) | with_reducible exact Below.refl _ _ | with_reducible refine belowA ?_ _ | with_reducible refine below_own' ?_ hbc | with_reducible refine below_own' ?_ hb1 | with_reducible refine belowD ?_ | with_reducible refine belowN ?_ _)))
    have HS1c : Hid (AtrSl wc sv lv) := Lib.hid (HS1.out.below hbc)
    clear c1 hbc hb1 HS1
    obtain ⟨wo, rfl⟩ : ∃ wo : World, wo = wc := ⟨_, rfl⟩
    go_upto_if 30 with fail
    go_cut [7, 8] (fun a v wx => ∃ sa n sc lx, a = .int .i64 z ∧ v = .slice sa n sc ∧ n = lx.length ∧ AtrSl wx sa lx ∧ lx.map Atr.dat = V ∧ Below wo.heap.size wo wx)
    case first =>
      cases r with
      | false =>
        go_wp2_with fail
        go_meet
        exact ⟨none, 0, 0, [], by rw [HZ.out]; rfl, rfl, rfl, ⟨.inl rfl, by simp, by simp⟩, by rw [HV.out]; rfl, Below.refl _ _⟩
      | true =>
        by_cases h100 : 100 < (setD (l.map Atr.dat) x.dat).length
        · have HK := Lib.hid h100
          clear h100
          go_wp2_with (go_at_call 16; refine Calls.mono (HRS.out rfl _ ?_) ?_; (focus (exact HBC.out)); rintro e w4 ⟨sa4, n4, sc4, l4, rfl, hn4, hs4, hd4, hn9, hb4⟩; have h4 : (100 : Int) < (n4 : Int) := (by have := HK.out; rw [← hd4] at this; simp at this; omega); clear hs4 hd4 hn4)
          go_meet
          exact ⟨none, 0, 0, [], by rw [HZ.out, if_pos trivial, if_pos HK.out], rfl, rfl, ⟨.inl rfl, by simp, by simp⟩, by rw [HV.out, if_pos trivial, if_pos HK.out]; rfl, hb4⟩
        · have HK := Lib.hid h100
          clear h100
          go_wp2_with (go_at_call 16; refine Calls.mono (HRS.out rfl _ ?_) ?_; (focus (exact HBC.out)); rintro e w4 ⟨sa4, n4, sc4, l4, rfl, hn4, hs4, hd4, hn9, hb4⟩; have h4 : ¬ (100 : Int) < (n4 : Int) := (by have := HK.out; rw [← hd4] at this; simp at this; omega); have HN4 := Lib.hid hn4; have HS4 := Lib.hid hs4; have HD4 := Lib.hid hd4; clear hs4 hd4 hn4)
          go_meet
          exact ⟨sa4, n4, sc4, l4, by rw [HZ.out, if_pos trivial, if_neg HK.out], rfl, HN4.out, HS4.out, by rw [HV.out, if_pos trivial, if_neg HK.out]; exact HD4.out, hb4⟩
    case rest =>
      obtain ⟨sa, n, sc, lx, rfl, rfl, hn, hs, hd, hbc⟩ := hcut
      have HEQ : Hid (∀ W, Below wc.heap.size wc W → Calls Tryz.prog 17 #[.slice sv sn cv, .slice sa n sc] W fun e w' => e = .returned (.bool true) ∧ Below W.heap.size W w') := Lib.hid fun W h => requalL_same sv sa cv sc sn n lv lx W ((HS1c.out.below hbc).below h) (hs.below h) (HD1.out.trans hd.symm) HN1.out hn (by have := HVL.out; have h2 := congrArg List.length HD1.out; rw [List.length_map] at h2; omega)
      have HBW := Lib.hid (below_own' HBC.out hbc)
      clear hn hs hd hbc HBC HS1c HD1 HN1 c2 hzcw
      go_upto_block 0 with (go_at_call 17; refine Calls.mono (HEQ.out _ (Below.refl _ _)) ?_; rintro e w5 ⟨rfl, hb5⟩)
      have HB5 := Lib.hid (below_own' HBW.out hb5)
      clear hb5 HEQ HBW HRS HRA HRL HST HZ HV HR HVL
      go_cut [9] (fun v wx => ∃ (pa : Option Addr) (pc : Nat), v = .slice pa 100 pc ∧ ManyI w wx 100 (.slice pa 100 pc))
      case first =>
        go_wp2_with fail
        go_loopw [9, 10] (fun v i wr => ∃ (j : Nat) (pa : Option Addr) (pc : Nat), v = .slice pa j pc ∧ i = .int .i64 j ∧ j ≤ 100 ∧ ManyI w wr j (.slice pa j pc)) (fun _ i _ => 100 - (intOf i).toNat)
        case atStart => exact ⟨0, none, 0, rfl, rfl, Nat.zero_le _, ⟨World.ownsRow_nil _ _ _ _, HB5.out⟩⟩
        case round =>
          obtain ⟨j, pa, pc, rfl, rfl, hj, hI⟩ := hrel
          have HI := Lib.hid hI
          clear hI
          rcases Nat.lt_or_ge j 100 with hlt | hge
          · obtain ⟨a, ha⟩ : ∃ a, a = j / 10 := ⟨_, rfl⟩
            obtain ⟨b, hb⟩ : ∃ b, b = j % 10 := ⟨_, rfl⟩
            have hjl : (j : Int) < 100 := by omega
            have ha9 : a ≤ 9 := by omega
            have hb9 : b ≤ 9 := by omega
            obtain ⟨ea, hea⟩ : ∃ ea, ea = Utf8.encode (97 + (a : Int)) := ⟨_, rfl⟩
            obtain ⟨eb, heb⟩ : ∃ eb, eb = Utf8.encode (97 + (b : Int)) := ⟨_, rfl⟩
            have HNM : Hid ((⟨#[97]⟩ : ByteArray) ++ ea ++ eb = mName j) := Lib.hid (by rw [hea, heb, enc_small a ha9, enc_small b hb9]; unfold mName; rw [← ha, ← hb]; rfl)
            obtain ⟨s1, hs1⟩ : ∃ s1, s1 = (⟨#[97]⟩ : ByteArray) ++ ea := ⟨_, rfl⟩
            obtain ⟨s2, hs2⟩ : ∃ s2, s2 = s1 ++ eb := ⟨_, rfl⟩
            have HN2 : Hid (s2 = mName j) := Lib.hid (by rw [hs2, hs1]; exact HNM.out)
            have hqa : (j : Int) / 10 = (a : Int) := by omega
            have hqb : (j : Int) % 10 = (b : Int) := by omega
            have hza : ea.size ≤ 1 := by rw [hea, enc_small a ha9]; exact Nat.le_refl _
            have hzb : eb.size ≤ 1 := by rw [heb, enc_small b hb9]; exact Nat.le_refl _
            have HEA := Lib.hid hea.symm
            have HEB := Lib.hid heb.symm
            have ha97 : (97 : Int) + (a : Int) ≤ 106 := by omega
            have hb97 : (97 : Int) + (b : Int) ≤ 106 := by omega
            have hz97 : (⟨#[97]⟩ : ByteArray).size = 1 := rfl
            have hw1 : ∀ W, (Op.stringOp .add ⟨#[97]⟩ ea).run Tryz.prog W = .ok (.string s1) W := fun W => by rw [hs1]; exact run_string_add_sum W _ _ (by omega)
            have hw2 : ∀ W, (Op.stringOp .add s1 eb).run Tryz.prog W = .ok (.string s2) W := fun W => by rw [hs2]; exact run_string_add_sum W _ _ (by rw [hs1, ByteArray.size_append]; omega)
            clear ha hb hea heb hs1 hs2 HNM hz97 hza hzb
            have tka : True := trivial
            go_wp2_with (first
              | (have tok := tka; clear tok tka; refine wpList_rune rfl _ 21 9 rfl .i32 (97 + (a : Int)) (by simp [Act.eval]) (by rw [Tryz.underlying21]; rfl) Tryz.underlying9 ea HEA.out ?_; have tkb : True := trivial)
              | (have tok := tkb; clear tok tkb; refine wpList_rune rfl _ 21 9 rfl .i32 (97 + (b : Int)) (by simp [Act.eval]) (by rw [Tryz.underlying21]; rfl) Tryz.underlying9 eb HEB.out ?_)
              | (at_builtin; refine wpList_append_own _ rfl _ _ 22 rfl w.heap.size 27 i0 zAttr 6 96 Tryz.underlying22 hin hz0 hz1 hz2 rfl (by decide) _ _ _ rfl (HI.out.own.alloc _) ⟨wr.heap.size, 0, none⟩ 1 1 [.string s2, .int .i64 0, .int .i64 0, .string ⟨#[]⟩, .slice none 0 0, .slice none 0 0] rfl rfl ?c1 ?c2 ?c3 ?c4 ?c5 ?_))
            case c1 =>
              intro t u hj
              have hlt6 : t < 6 := by have := (List.getElem?_eq_some_iff.1 hj).1; simpa using this
              have hadd : (⟨wr.heap.size, 0, none⟩ : Addr).add t = ⟨wr.heap.size, 0 + t, none⟩ := by
                unfold Addr.add; split
                · rename_i h; subst h; rfl
                · rfl
              rw [hadd, Nat.zero_add, blkCell (heap_alloc_new _ _)]
              have ht : t = 0 ∨ t = 1 ∨ t = 2 ∨ t = 3 ∨ t = 4 ∨ t = 5 := by omega
              rcases ht with rfl | rfl | rfl | rfl | rfl | rfl <;> simpa using hj
            case c2 =>
              intro u hu
              simp only [List.mem_cons, List.not_mem_nil, or_false] at hu
              rcases hu with rfl | rfl | rfl | rfl | rfl | rfl <;> rfl
            case c3 => unfold maxLen; omega
            case c4 => omega
            case c5 => have := HI.out.bel.size; simp; omega
            intro v' w7 hown hgr _
            obtain ⟨sa7, sc7, rfl, -⟩ := own_form hown
            have HI7 := Lib.hid (HI.out.snoc HN2.out (by first | exact hown | simpa using hown) hgr)
            clear hown hgr
            go_wp2_with fail
            go_roundw
            case rel => exact ⟨j + 1, _, _, rfl, by go_num, by omega, HI7.out⟩
            case measure => simp [intOf]; omega
          · obtain rfl : j = 100 := by omega
            go_wp2_with fail
            go_meet
            exact ⟨pa, pc, rfl, HI.out⟩
      case rest =>
        obtain ⟨pa, pc, rfl, hI⟩ := hcut
        have HMS : Hid (∀ W, Below wc.heap.size wc W → AtrSl W pa (mL 100)) := Lib.hid fun W h => (mL_sl hI.own).below h
        have HBX := Lib.hid hI.bel
        clear hI
        have tk0 : True := trivial
        go_wp2_with (first
          | (go_at_call 20; refine Calls.mono (awake02 _ (HG.out.below ?_)) ?_; (focus ((repeat (first | (with_reducible refine below_set ?_ (by first | exact Nat.le_refl _ | omega) _ _) | with_reducible exact Below.refl _ _ | with_reducible refine belowA ?_ _ | with_reducible refine below_own' ?_ hb5 | with_reducible refine below_own' ?_ HB3.out | with_reducible refine below_own' ?_ HB2.out | with_reducible refine below_own' ?_ HB1.out | with_reducible refine below_own' ?_ HBX.out | with_reducible refine belowD ?_ | with_reducible refine belowN ?_ _)); done)); rintro e w6 ⟨rfl, hb6⟩)
          | (go_at_call 19; refine Calls.mono (many_check _ pa pc (HMS.out _ ?_)) ?_; (focus ((repeat (first | (with_reducible refine below_set ?_ (by first | exact Nat.le_refl _ | omega) _ _) | with_reducible exact Below.refl _ _ | with_reducible refine belowA ?_ _ | with_reducible refine below_own' ?_ HB3.out | with_reducible refine below_own' ?_ HB2.out | with_reducible refine below_own' ?_ HB1.out | with_reducible refine belowD ?_ | with_reducible refine belowN ?_ _)); done)); rintro e w5 ⟨rfl, hb5⟩; have c5 := (rdCell hb5 g2 HZ3.out 2).trans HC3.out; have hz5 : g2 < w5.heap.size := Nat.lt_of_lt_of_le HZ3.out hb5.size)
          | (go_at_call 18; refine Calls.mono (many_merge _ pa pc (HMS.out _ ?_) w2.heap.size ?_) ?_; (focus ((repeat (first | (with_reducible refine below_set ?_ (by first | exact Nat.le_refl _ | omega) _ _) | with_reducible exact Below.refl _ _ | with_reducible refine belowA ?_ _ | with_reducible refine below_own' ?_ HB2.out | with_reducible refine below_own' ?_ HB1.out | with_reducible refine belowD ?_ | with_reducible refine belowN ?_ _)); done)); (focus (exact heap_alloc_new _ _)); rintro e w3 ⟨rfl, hb3⟩; have HB3 : Hid (Below w2.heap.size w2 w3) := Lib.hid (by (repeat (first | (with_reducible refine below_set ?_ (by first | exact Nat.le_refl _ | omega) _ _) | with_reducible exact Below.refl _ _ | with_reducible refine belowA ?_ _ | with_reducible refine below_own' ?_ hb3 | with_reducible refine belowD ?_ | with_reducible refine belowN ?_ _))); have HC3 := Lib.hid ((rdCell HB3.out g2 HZ2.out 2).trans HC2.out); have HZ3 := Lib.hid (Nat.lt_of_lt_of_le HZ2.out HB3.out.size); clear hb3)
          | (have tok := tk1; clear tok tk1; go_at_call 13; refine Calls.mono (many_one _ pa pc (HMS.out _ ?_)) ?_; (focus ((repeat (first | (with_reducible refine below_set ?_ (by first | exact Nat.le_refl _ | omega) _ _) | with_reducible exact Below.refl _ _ | with_reducible refine belowA ?_ _ | with_reducible refine below_own' ?_ HB1.out | with_reducible refine belowD ?_ | with_reducible refine belowN ?_ _)); done)); rintro e w2 ⟨g2, d2, rfl, hz2g, c2, hb2⟩; have HC2 := Lib.hid c2; have HZ2 := Lib.hid hz2g; have HB2 := Lib.hid hb2; clear c2 hz2g hb2)
          | (have tok := tk0; clear tok tk0; go_at_call 13; refine Calls.mono (many_set _ pa pc (HMS.out _ ?_)) ?_; (focus ((repeat (first | (with_reducible refine below_set ?_ (by first | exact Nat.le_refl _ | omega) _ _) | with_reducible exact Below.refl _ _ | with_reducible refine belowA ?_ _ | with_reducible refine belowD ?_ | with_reducible refine belowN ?_ _)); done)); rintro e w1 ⟨rfl, hb1⟩; have tk1 : True := trivial; have HB1 := Lib.hid hb1; clear hb1))
        go_ret
        exact ⟨rfl, by (repeat (first | (with_reducible refine below_set ?_ (by first | exact Nat.le_refl _ | omega) _ _) | with_reducible exact Below.refl _ _ | with_reducible refine belowA ?_ _ | with_reducible refine below_own' ?_ hb6 | with_reducible refine below_own' ?_ hb5 | with_reducible refine below_own' ?_ HB3.out | with_reducible refine below_own' ?_ HB2.out | with_reducible refine below_own' ?_ HB1.out | with_reducible refine below_own' ?_ HBX.out | with_reducible refine belowD ?_ | with_reducible refine belowN ?_ _))⟩
end Go.Proofs.YtmepjbjmjbpchaaGreatDoor

