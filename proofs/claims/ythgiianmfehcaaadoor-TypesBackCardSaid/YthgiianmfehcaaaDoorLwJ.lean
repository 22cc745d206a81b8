/- The walk of the statement TypesJoins. -/
import Derived.Test.YthgiianmfehcaaaDoorJn0
import Derived.Laws.MakeOwn
namespace Go.Proofs.YthgiianmfehcaaaDoor
open Go Go.RowKit Go.Sort
set_option linter.unusedVariables false
set_option linter.unusedSimpArgs false

theorem any_snoc {ls : List ByteArray} {j : Nat} (h : j < ls.length) : (ls.take (j + 1)).any badTy = ((ls.take j).any badTy || badTy ls[j]) := by
  rw [List.take_add_one, List.getElem?_eq_getElem h, Option.toList_some, List.any_append]; simp only [List.any_cons, List.any_nil, Bool.or_false]
/-- The new array while it is filled: 101 cells, the first j of them "i8". -/
def i8 : ByteArray := ⟨#[105, 56]⟩
def fillC (j : Nat) : Array Value := (List.replicate j (Value.string i8) ++ List.replicate (101 - j) (Value.string ⟨#[]⟩)).toArray
theorem fillC_zero : fillC 0 = madeCells #[.string ⟨#[]⟩] 101 := by
  apply Array.ext
  · simp [fillC, madeCells]
  · intro i h1 h2
    have hr : (madeCells #[.string ⟨#[]⟩] 101)[i] = Value.string ⟨#[]⟩ := by simp [madeCells, Nat.mod_one]
    rw [hr]
    have hc : fillC 0 = (List.replicate 101 (Value.string ⟨#[]⟩)).toArray := rfl
    have h3 : i < (List.replicate 101 (Value.string ⟨#[]⟩)).toArray.size := by rw [← hc]; exact h1
    have h4 : (List.replicate 101 (Value.string ⟨#[]⟩)).toArray[i]? = some (Value.string ⟨#[]⟩) := by
      rw [List.getElem?_toArray, List.getElem?_replicate, if_pos (by simpa using h3)]
    rw [← hc, Array.getElem?_eq_getElem h1] at h4
    exact Option.some.inj h4
theorem fillC_size {j : Nat} (h : j ≤ 101) : (fillC j).size = 101 := by simp [fillC]; omega
theorem fillC_at {j : Nat} (h : j < 101) : (fillC j)[j]? = some (.string ⟨#[]⟩) := by
  unfold fillC
  rw [List.getElem?_toArray, List.getElem?_append_right (by simp), List.length_replicate, Nat.sub_self, List.getElem?_replicate, if_pos (by omega)]
theorem fillC_set {j : Nat} (h : j < 101) : (fillC j).setIfInBounds j (.string i8) = fillC (j + 1) := by
  unfold fillC
  apply Array.ext'
  simp only [List.setIfInBounds_toArray]
  rw [List.set_append_right _ _ (by simp), List.length_replicate, Nat.sub_self, show 101 - j = (101 - (j + 1)) + 1 by omega, List.replicate_succ, List.set_cons_zero, List.replicate_succ']
  simp
theorem fillC_sl {W : World} {B n : Nat} (hn : n ≤ 101) (h : W.heap[B]? = some (.cells (fillC 101) 9 (0, 0))) : StrSl W (some ⟨B, 0, none⟩) (List.replicate n i8) := by
  refine .inr ⟨B, 0, rfl, blkLt h, fun j hj => ?_⟩
  have hj' : j < n := by simpa using hj
  rw [Nat.zero_add, blkCell h]
  unfold fillC
  rw [List.getElem?_toArray, List.getElem?_append_left (by simp; omega), List.getElem?_replicate, if_pos (by omega), List.getElem_replicate]
theorem i8_good : badTy i8 = false := by
  rw [badTy_isTy, show isTy i8.data.toList = true by rfl]; rfl
theorem rep_good (n : Nat) : (List.replicate n i8).any badTy = false := by
  rw [List.any_eq_false]
  intro x hx
  rw [List.eq_of_mem_replicate hx, i8_good]; simp

set_option maxRecDepth 100000 in
set_option maxHeartbeats 8000000 in
theorem joins_law (a : Option Addr) (c : Nat) (ls : List ByteArray) (hsz : ∀ s ∈ ls, s.size ≤ 140737488351232) (w : World) (hg : Glob w) (hs : StrSl w a ls) (hc : ls.length ≤ c ∧ ls.length ≤ 9223372036854775807) :
    Calls Tryd.prog 9 #[.slice a ls.length c] w fun e w' => e = .returned (.bool true) ∧ Below w.heap.size w w' := by
  obtain ⟨hc, hl⟩ := hc
  have hj := joinT_any a c ls w hs hl hc (fun s h => by have := hsz s h; omega)
  obtain ⟨js, hjs⟩ : ∃ js : ByteArray, js = ⟨(joinOf ls).1.toArray⟩ := ⟨_, rfl⟩
  obtain ⟨code, hcode⟩ : ∃ code : Nat, code = (joinOf ls).2 := ⟨_, rfl⟩
  rw [← hjs, ← hcode] at hj
  have hcases : (ls.any badTy = true ∧ js = ⟨#[]⟩ ∧ code = 10) ∨ (ls.any badTy = false ∧ 100 < ls.length ∧ js = ⟨#[]⟩ ∧ code = 2) ∨ (ls.any badTy = false ∧ ls.length ≤ 100 ∧ js.data.toList = 40 :: joinS ls ++ [41] ∧ code = 0) := by
    unfold joinOf at hjs hcode
    cases hb : ls.any badTy with
    | true => rw [hb, if_pos rfl] at hjs hcode; exact .inl ⟨rfl, hjs, hcode⟩
    | false =>
      rw [hb, if_neg (by simp)] at hjs hcode
      by_cases h100 : 100 < ls.length
      · rw [if_pos h100] at hjs hcode; exact .inr (.inl ⟨rfl, h100, hjs, hcode⟩)
      · rw [if_neg h100] at hjs hcode; exact .inr (.inr ⟨rfl, by omega, by rw [hjs]; rfl, hcode⟩)
  obtain ⟨i0, hin, hz0, hz1, hz2⟩ := info_parts (show (Tryd.prog.info? 9).map (fun i => (i.zero, i.size, i.bytes)) = some (some (.string ⟨#[]⟩), 1, 16) by kernel_rfl)
  have hmk : ∀ w, (Instr.makeSlice 45 (.int .i64 101) (.int .i64 101)).run Tryd.prog w = .ok (.slice (some ⟨w.heap.size, 0, none⟩) 101 101) (w.alloc (.cells (fillC 0) 9)) := fun w => by
    have h := run_make (P := Tryd.prog) w 45 9 i0 (.string ⟨#[]⟩) Tryd.underlying45 hin hz0 .i64 .i64 101 101 (by omega) (by omega) (by rw [hz2]; omega) (by omega)
    rw [fillC_zero]
    simpa [Value.cells, hz1] using h
  have HG := Lib.hid hg
  have HS := Lib.hid hs
  have HSZ := Lib.hid hsz
  have HCS := Lib.hid hcases
  have HJ := Lib.hid hj
  clear hg hs hsz hcases hj hjs hcode hin hz0 hz1 hz2
  go_enter Tryd.func9, Tryd.ntmps9
  go_wp2_with fail
  refine HJ.out.mono ?_
  rintro e w1 ⟨rfl, hb1⟩
  have HB1 := Lib.hid hb1
  clear hb1
  go_wp2_with fail
  go_loopw [5, 6] (fun wv iv wr => ∃ (j : Nat) (x : Nat), j ≤ ls.length ∧ iv = .int .i64 j ∧ wv = .int .i64 x ∧ x = (if (ls.take j).any badTy then 10 else 0) ∧ Below w.heap.size w wr) (fun _ iv _ => ls.length - (intOf iv).toNat)
  case atStart => exact ⟨0, 0, Nat.zero_le _, rfl, rfl, by simp, HB1.out⟩
  case round =>
    obtain ⟨j, x, hj, rfl, rfl, hx, hbw⟩ := hrel
    have HX := Lib.hid hx
    have HBW := Lib.hid hbw
    clear hx hbw
    rcases Nat.lt_or_ge j ls.length with hlt | hge
    · clear hmk
      obtain ⟨g, off, rfl, hcell⟩ := (HS.out.below HBW.out).at hlt
      obtain ⟨s, hs⟩ : ∃ s, s = ls[j] := ⟨_, rfl⟩
      rw [← hs] at hcell
      have hssz : s.size ≤ 140737488355328 := by have := HSZ.out ls[j] (List.getElem_mem _); rw [hs]; omega
      have hsn := any_snoc (ls := ls) hlt
      rw [← hs, badTy_isTy] at hsn
      have HSN := Lib.hid hsn
      have hlt' : (j : Int) < (ls.length : Int) := by omega
      cases hty : isTy s.data.toList with
      | true =>
        have HTY := Lib.hid hty
        clear hs hsn hty
        go_wp2_with (go_at_call 17; refine (ris_any _ _ hssz).mono ?_; rintro e w2 ⟨rfl, hb2⟩; rw [show (readOf s.data.toList).isSome = true from HTY.out])
        go_roundw
        · exact ⟨j + 1, x, hlt, by simp, rfl, by rw [HSN.out, HTY.out]; simpa using HX.out, below_next HBW.out hb2⟩
        · simp [intOf]; omega
      | false =>
        have HTY := Lib.hid hty
        clear hs hsn hty
        go_wp2_with (go_at_call 17; refine (ris_any _ _ hssz).mono ?_; rintro e w2 ⟨rfl, hb2⟩; rw [show (readOf s.data.toList).isSome = false from HTY.out])
        go_roundw
        · exact ⟨j + 1, 10, hlt, by simp, rfl, by rw [HSN.out, HTY.out]; simp, below_next HBW.out hb2⟩
        · simp [intOf]; omega
    · have hje : j = ls.length := by omega
      subst hje
      obtain ⟨wo, rfl⟩ : ∃ wo : World, wo = wr := ⟨_, rfl⟩
      rcases HCS.out with ⟨hbad, rfl, rfl⟩ | ⟨hbad, h100, rfl, rfl⟩ | ⟨hbad, h100, hjs, rfl⟩
      · have hx10 : x = 10 := by have := HX.out; rw [List.take_length, hbad] at this; exact this
        subst hx10
        clear HX hbad
        go_wp2_with fail
        go_loopw [8] (fun iv wx => ∃ (j : Nat), j ≤ 101 ∧ iv = .int .i64 j ∧ wx.heap[wo.heap.size]? = some (.cells (fillC j) 9 (0, 0)) ∧ Below w.heap.size w wx) (fun iv _ => 101 - (intOf iv).toNat)
        case atStart => exact ⟨0, by omega, rfl, heap_alloc_new wo _, belowA HBW.out _⟩
        case round =>
          obtain ⟨j, hj, rfl, hblk, hbz⟩ := hrel
          have hszw := HBW.out.size
          rcases Nat.lt_or_ge j 101 with hlt | hge
          · have hj101 : (j : Int) < 101 := by omega
            have c7 := (blkCell hblk j).trans (fillC_at hlt)
            have f7 := blkFree hblk j
            have HBLK := Lib.hid hblk
            have HBZ := Lib.hid hbz
            clear hblk hbz
            go_wp2_with fail
            go_roundw
            · refine ⟨j + 1, hlt, by simp, ?_, below_set HBZ.out hszw _ _⟩
              have := heap_setCell_same _ _ j _ _ (.string i8) HBLK.out
              rw [fillC_set hlt] at this
              exact this
            · simp [intOf]; omega
          · have hje : j = 101 := by omega
            subst hje
            have HBLK := Lib.hid hblk
            have HBZ := Lib.hid hbz
            clear hblk hbz
            have hj1 := joinT_any (some ⟨wo.heap.size, 0, none⟩) 101 (List.replicate 101 i8) wr (fillC_sl (by omega) HBLK.out) (by rw [List.length_replicate]; omega) (by rw [List.length_replicate]; omega) (fun s h => by rw [List.eq_of_mem_replicate h]; decide)
            rw [List.length_replicate, show joinOf (List.replicate 101 i8) = ([], 2) by unfold joinOf; rw [if_neg (by rw [rep_good]; simp), if_pos (by rw [List.length_replicate]; omega)]] at hj1
            have HJ1 := Lib.hid hj1
            clear hj1
            go_wp2_with fail
            refine HJ1.out.mono ?_
            rintro e w5 ⟨rfl, hb5⟩
            have HBLK5 := Lib.hid (blkBelow HBLK.out hb5)
            have HQ5 := Lib.hid (below_next HBZ.out hb5)
            clear hb5 HJ1
            obtain ⟨tx, htx⟩ : ∃ tx : ByteArray, tx = ⟨(40 :: joinS (List.replicate 100 i8) ++ [41]).toArray⟩ := ⟨_, rfl⟩
            have hj2 := joinT_any (some ⟨wo.heap.size, 0, none⟩) 100 (List.replicate 100 i8) w5 (fillC_sl (by omega) HBLK5.out) (by rw [List.length_replicate]; omega) (by rw [List.length_replicate]; omega) (fun s h => by rw [List.eq_of_mem_replicate h]; decide)
            rw [List.length_replicate, show joinOf (List.replicate 100 i8) = (40 :: joinS (List.replicate 100 i8) ++ [41], 0) by unfold joinOf; rw [if_neg (by rw [rep_good]; simp), if_neg (by rw [List.length_replicate]; omega)]; rfl] at hj2
            dsimp only at hj2
            rw [← htx] at hj2
            have HJ2 := Lib.hid hj2
            have HTX := Lib.hid htx
            clear hj2 htx
            go_wp2_with fail
            refine HJ2.out.mono ?_
            rintro e w6 ⟨rfl, hb6⟩
            have HBLK6 := Lib.hid (blkBelow HBLK5.out hb6)
            have HQ6 := Lib.hid (below_next HQ5.out hb6)
            clear hb6 HJ2
            obtain ⟨ty, hty⟩ : ∃ ty : ByteArray, ty = ⟨(40 :: joinS (List.replicate 101 i8) ++ [41]).toArray⟩ := ⟨_, rfl⟩
            have hr2 := rjoin_any (some ⟨wo.heap.size, 0, none⟩) 101 (List.replicate 101 i8) w6 (fillC_sl (by omega) HBLK6.out) (by rw [List.length_replicate]; omega) (fun s h => by rw [List.eq_of_mem_replicate h]; decide)
            rw [List.length_replicate, ← hty] at hr2
            have HR2 := Lib.hid hr2
            have HTY := Lib.hid hty
            clear hr2 hty
            go_wp2_with fail
            refine HR2.out.mono ?_
            rintro e w7 ⟨rfl, rfl⟩
            clear HR2
            have hs1 := split_long (List.replicate 101 i8) 101 List.length_replicate w6 (HG.out.below HQ6.out) (rep_good _) (by omega) ty (by rw [HTY.out])
            have HS1 := Lib.hid hs1
            clear hs1
            go_wp2_with fail
            refine HS1.out.mono ?_
            rintro e w8 ⟨hb8, rfl⟩
            have HQ8 := Lib.hid (below_next HQ6.out hb8)
            clear hb8 HS1
            have hs2 := split_short (List.replicate 100 i8) 100 List.length_replicate w8 (HG.out.below HQ8.out) (rep_good _) (by omega) tx (by rw [HTX.out])
            have HS2 := Lib.hid hs2
            clear hs2
            go_wp2_with fail
            refine HS2.out.mono ?_
            rintro e w9 ⟨hb9, ⟨sa9, sc9, rfl, hsl9⟩⟩
            have HQ9 := Lib.hid (below_next HQ8.out hb9)
            clear hb9 HS2 hsl9
            go_wp2_with fail
            refine (awake_any _ (HG.out.below HQ9.out)).mono ?_
            rintro e w10 ⟨rfl, hb10⟩
            go_wp2_with fail
            go_ret
            exact ⟨rfl, below_next HQ9.out hb10⟩
      · have hx10 : x = 0 := by have := HX.out; rw [List.take_length, hbad] at this; exact this
        subst hx10
        have hq : (100 : Int) < (ls.length : Int) := by omega
        clear HX hbad
        go_wp2_with fail
        go_loopw [8] (fun iv wx => ∃ (j : Nat), j ≤ 101 ∧ iv = .int .i64 j ∧ wx.heap[wo.heap.size]? = some (.cells (fillC j) 9 (0, 0)) ∧ Below w.heap.size w wx) (fun iv _ => 101 - (intOf iv).toNat)
        case atStart => exact ⟨0, by omega, rfl, heap_alloc_new wo _, belowA HBW.out _⟩
        case round =>
          obtain ⟨j, hj, rfl, hblk, hbz⟩ := hrel
          have hszw := HBW.out.size
          rcases Nat.lt_or_ge j 101 with hlt | hge
          · have hj101 : (j : Int) < 101 := by omega
            have c7 := (blkCell hblk j).trans (fillC_at hlt)
            have f7 := blkFree hblk j
            have HBLK := Lib.hid hblk
            have HBZ := Lib.hid hbz
            clear hblk hbz
            go_wp2_with fail
            go_roundw
            · refine ⟨j + 1, hlt, by simp, ?_, below_set HBZ.out hszw _ _⟩
              have := heap_setCell_same _ _ j _ _ (.string i8) HBLK.out
              rw [fillC_set hlt] at this
              exact this
            · simp [intOf]; omega
          · have hje : j = 101 := by omega
            subst hje
            have HBLK := Lib.hid hblk
            have HBZ := Lib.hid hbz
            clear hblk hbz
            have hj1 := joinT_any (some ⟨wo.heap.size, 0, none⟩) 101 (List.replicate 101 i8) wr (fillC_sl (by omega) HBLK.out) (by rw [List.length_replicate]; omega) (by rw [List.length_replicate]; omega) (fun s h => by rw [List.eq_of_mem_replicate h]; decide)
            rw [List.length_replicate, show joinOf (List.replicate 101 i8) = ([], 2) by unfold joinOf; rw [if_neg (by rw [rep_good]; simp), if_pos (by rw [List.length_replicate]; omega)]] at hj1
            have HJ1 := Lib.hid hj1
            clear hj1
            go_wp2_with fail
            refine HJ1.out.mono ?_
            rintro e w5 ⟨rfl, hb5⟩
            have HBLK5 := Lib.hid (blkBelow HBLK.out hb5)
            have HQ5 := Lib.hid (below_next HBZ.out hb5)
            clear hb5 HJ1
            obtain ⟨tx, htx⟩ : ∃ tx : ByteArray, tx = ⟨(40 :: joinS (List.replicate 100 i8) ++ [41]).toArray⟩ := ⟨_, rfl⟩
            have hj2 := joinT_any (some ⟨wo.heap.size, 0, none⟩) 100 (List.replicate 100 i8) w5 (fillC_sl (by omega) HBLK5.out) (by rw [List.length_replicate]; omega) (by rw [List.length_replicate]; omega) (fun s h => by rw [List.eq_of_mem_replicate h]; decide)
            rw [List.length_replicate, show joinOf (List.replicate 100 i8) = (40 :: joinS (List.replicate 100 i8) ++ [41], 0) by unfold joinOf; rw [if_neg (by rw [rep_good]; simp), if_neg (by rw [List.length_replicate]; omega)]; rfl] at hj2
            dsimp only at hj2
            rw [← htx] at hj2
            have HJ2 := Lib.hid hj2
            have HTX := Lib.hid htx
            clear hj2 htx
            go_wp2_with fail
            refine HJ2.out.mono ?_
            rintro e w6 ⟨rfl, hb6⟩
            have HBLK6 := Lib.hid (blkBelow HBLK5.out hb6)
            have HQ6 := Lib.hid (below_next HQ5.out hb6)
            clear hb6 HJ2
            obtain ⟨ty, hty⟩ : ∃ ty : ByteArray, ty = ⟨(40 :: joinS (List.replicate 101 i8) ++ [41]).toArray⟩ := ⟨_, rfl⟩
            have hr2 := rjoin_any (some ⟨wo.heap.size, 0, none⟩) 101 (List.replicate 101 i8) w6 (fillC_sl (by omega) HBLK6.out) (by rw [List.length_replicate]; omega) (fun s h => by rw [List.eq_of_mem_replicate h]; decide)
            rw [List.length_replicate, ← hty] at hr2
            have HR2 := Lib.hid hr2
            have HTY := Lib.hid hty
            clear hr2 hty
            go_wp2_with fail
            refine HR2.out.mono ?_
            rintro e w7 ⟨rfl, rfl⟩
            clear HR2
            have hs1 := split_long (List.replicate 101 i8) 101 List.length_replicate w6 (HG.out.below HQ6.out) (rep_good _) (by omega) ty (by rw [HTY.out])
            have HS1 := Lib.hid hs1
            clear hs1
            go_wp2_with fail
            refine HS1.out.mono ?_
            rintro e w8 ⟨hb8, rfl⟩
            have HQ8 := Lib.hid (below_next HQ6.out hb8)
            clear hb8 HS1
            have hs2 := split_short (List.replicate 100 i8) 100 List.length_replicate w8 (HG.out.below HQ8.out) (rep_good _) (by omega) tx (by rw [HTX.out])
            have HS2 := Lib.hid hs2
            clear hs2
            go_wp2_with fail
            refine HS2.out.mono ?_
            rintro e w9 ⟨hb9, ⟨sa9, sc9, rfl, hsl9⟩⟩
            have HQ9 := Lib.hid (below_next HQ8.out hb9)
            clear hb9 HS2 hsl9
            go_wp2_with fail
            refine (awake_any _ (HG.out.below HQ9.out)).mono ?_
            rintro e w10 ⟨rfl, hb10⟩
            go_wp2_with fail
            go_ret
            exact ⟨rfl, below_next HQ9.out hb10⟩
      · have hx10 : x = 0 := by have := HX.out; rw [List.take_length, hbad] at this; exact this
        subst hx10
        have hq : ¬ (100 : Int) < (ls.length : Int) := by omega
        have hgood : ∀ s ∈ ls, s.size ≤ 1000 := fun s hs => by
          rw [List.any_eq_false] at hbad
          have := isTy_len (goodTy.1 (by simpa using hbad s hs))
          have h2 : s.data.toList.length = s.size := by simp
          omega
        have hr := rjoin_any a c ls wo (HS.out.below HBW.out) (by omega) hgood
        have hjse : (⟨(40 :: joinS ls ++ [41]).toArray⟩ : ByteArray) = js := by
          apply ByteArray.ext
          apply Array.ext'
          rw [hjs]
        rw [hjse] at hr
        have HR := Lib.hid hr
        clear HX hbad hr hjse hjs hgood
        go_wp2_with fail
        refine HR.out.mono ?_
        rintro e w3 ⟨rfl, rfl⟩
        go_wp2_with fail
        go_loopw [8] (fun iv wx => ∃ (j : Nat), j ≤ 101 ∧ iv = .int .i64 j ∧ wx.heap[wo.heap.size]? = some (.cells (fillC j) 9 (0, 0)) ∧ Below w.heap.size w wx) (fun iv _ => 101 - (intOf iv).toNat)
        case atStart => exact ⟨0, by omega, rfl, heap_alloc_new wo _, belowA HBW.out _⟩
        case round =>
          obtain ⟨j, hj, rfl, hblk, hbz⟩ := hrel
          have hszw := HBW.out.size
          rcases Nat.lt_or_ge j 101 with hlt | hge
          · have hj101 : (j : Int) < 101 := by omega
            have c7 := (blkCell hblk j).trans (fillC_at hlt)
            have f7 := blkFree hblk j
            have HBLK := Lib.hid hblk
            have HBZ := Lib.hid hbz
            clear hblk hbz
            go_wp2_with fail
            go_roundw
            · refine ⟨j + 1, hlt, by simp, ?_, below_set HBZ.out hszw _ _⟩
              have := heap_setCell_same _ _ j _ _ (.string i8) HBLK.out
              rw [fillC_set hlt] at this
              exact this
            · simp [intOf]; omega
          · have hje : j = 101 := by omega
            subst hje
            have HBLK := Lib.hid hblk
            have HBZ := Lib.hid hbz
            clear hblk hbz
            have hj1 := joinT_any (some ⟨wo.heap.size, 0, none⟩) 101 (List.replicate 101 i8) wr (fillC_sl (by omega) HBLK.out) (by rw [List.length_replicate]; omega) (by rw [List.length_replicate]; omega) (fun s h => by rw [List.eq_of_mem_replicate h]; decide)
            rw [List.length_replicate, show joinOf (List.replicate 101 i8) = ([], 2) by unfold joinOf; rw [if_neg (by rw [rep_good]; simp), if_pos (by rw [List.length_replicate]; omega)]] at hj1
            have HJ1 := Lib.hid hj1
            clear hj1
            go_wp2_with fail
            refine HJ1.out.mono ?_
            rintro e w5 ⟨rfl, hb5⟩
            have HBLK5 := Lib.hid (blkBelow HBLK.out hb5)
            have HQ5 := Lib.hid (below_next HBZ.out hb5)
            clear hb5 HJ1
            obtain ⟨tx, htx⟩ : ∃ tx : ByteArray, tx = ⟨(40 :: joinS (List.replicate 100 i8) ++ [41]).toArray⟩ := ⟨_, rfl⟩
            have hj2 := joinT_any (some ⟨wo.heap.size, 0, none⟩) 100 (List.replicate 100 i8) w5 (fillC_sl (by omega) HBLK5.out) (by rw [List.length_replicate]; omega) (by rw [List.length_replicate]; omega) (fun s h => by rw [List.eq_of_mem_replicate h]; decide)
            rw [List.length_replicate, show joinOf (List.replicate 100 i8) = (40 :: joinS (List.replicate 100 i8) ++ [41], 0) by unfold joinOf; rw [if_neg (by rw [rep_good]; simp), if_neg (by rw [List.length_replicate]; omega)]; rfl] at hj2
            dsimp only at hj2
            rw [← htx] at hj2
            have HJ2 := Lib.hid hj2
            have HTX := Lib.hid htx
            clear hj2 htx
            go_wp2_with fail
            refine HJ2.out.mono ?_
            rintro e w6 ⟨rfl, hb6⟩
            have HBLK6 := Lib.hid (blkBelow HBLK5.out hb6)
            have HQ6 := Lib.hid (below_next HQ5.out hb6)
            clear hb6 HJ2
            obtain ⟨ty, hty⟩ : ∃ ty : ByteArray, ty = ⟨(40 :: joinS (List.replicate 101 i8) ++ [41]).toArray⟩ := ⟨_, rfl⟩
            have hr2 := rjoin_any (some ⟨wo.heap.size, 0, none⟩) 101 (List.replicate 101 i8) w6 (fillC_sl (by omega) HBLK6.out) (by rw [List.length_replicate]; omega) (fun s h => by rw [List.eq_of_mem_replicate h]; decide)
            rw [List.length_replicate, ← hty] at hr2
            have HR2 := Lib.hid hr2
            have HTY := Lib.hid hty
            clear hr2 hty
            go_wp2_with fail
            refine HR2.out.mono ?_
            rintro e w7 ⟨rfl, rfl⟩
            clear HR2
            have hs1 := split_long (List.replicate 101 i8) 101 List.length_replicate w6 (HG.out.below HQ6.out) (rep_good _) (by omega) ty (by rw [HTY.out])
            have HS1 := Lib.hid hs1
            clear hs1
            go_wp2_with fail
            refine HS1.out.mono ?_
            rintro e w8 ⟨hb8, rfl⟩
            have HQ8 := Lib.hid (below_next HQ6.out hb8)
            clear hb8 HS1
            have hs2 := split_short (List.replicate 100 i8) 100 List.length_replicate w8 (HG.out.below HQ8.out) (rep_good _) (by omega) tx (by rw [HTX.out])
            have HS2 := Lib.hid hs2
            clear hs2
            go_wp2_with fail
            refine HS2.out.mono ?_
            rintro e w9 ⟨hb9, ⟨sa9, sc9, rfl, hsl9⟩⟩
            have HQ9 := Lib.hid (below_next HQ8.out hb9)
            clear hb9 HS2 hsl9
            go_wp2_with fail
            refine (awake_any _ (HG.out.below HQ9.out)).mono ?_
            rintro e w10 ⟨rfl, hb10⟩
            go_wp2_with fail
            go_ret
            exact ⟨rfl, below_next HQ9.out hb10⟩
end Go.Proofs.YthgiianmfehcaaaDoor
