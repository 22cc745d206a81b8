/- demoticlaw08.awake. -/
import Derived.Test.YtligbbhdbpjdjaaGreatDoorBnC
namespace Go.Proofs.YtligbbhdbpjdjaaGreatDoor
open Go Go.RowKit Go.Sort
set_option linter.unusedVariables false
set_option linter.unusedSimpArgs false

theorem num300 : numB 300 = [172, 2] := by rw [numB_big (by decide), numB_small (by decide)]; decide
theorem num_m1 : numB (foldN (-1)) = [1] := by rw [show foldN (-1) = 1 by decide, numB_small (by decide)]; decide
theorem num_min : numB (foldN (-9223372036854775808)) = [255, 255, 255, 255, 255, 255, 255, 255, 255, 1] := by
  rw [show foldN (-9223372036854775808) = 18446744073709551615 by decide]
  rw [numB_big (by decide), numB_big (by decide), numB_big (by decide), numB_big (by decide), numB_big (by decide), numB_big (by decide), numB_big (by decide), numB_big (by decide), numB_big (by decide), numB_small (by decide)]
  decide
theorem lit_b (w : World) (bs : List UInt8) : ByteSl (w.alloc (.cells (bs.map byteV).toArray 5)) (some ⟨w.heap.size, 0, none⟩) bs := by
  refine .inr ⟨w.heap.size, 0, rfl, by simp, fun j hj => ?_⟩
  rw [Nat.zero_add, bRow (heap_alloc_new w _)]
  simp [hj]
theorem lit_k (w : World) (k : Nat) (hk : k = w.heap.size) (bs : List UInt8) : ByteSl (w.alloc (.cells (bs.map byteV).toArray 5)) (some ⟨k, 0, none⟩) bs := by subst hk; exact lit_b w bs
theorem add_none (g o j : Nat) : (⟨g, o, none⟩ : Addr).add j = ⟨g, o + j, none⟩ := by unfold Addr.add; simp
abbrev nilM : Obj := .cells #[.slice none 0 0] 44
abbrev litO (bs : List UInt8) : Obj := .cells (bs.map byteV).toArray 5

set_option maxRecDepth 100000 in
set_option maxHeartbeats 8000000 in
theorem awake_b (w : World) (hh : HeadAt w) : Calls Tryz.prog 11 #[] w fun e w' => e = .returned (.bool true) ∧ Below w.heap.size w w' := by
  have HH := Lib.hid hh
  clear hh
  go_enter Tryz.func11, Tryz.ntmps11
  go_wp2_with (first
    | (go_at_call 13
       have hsm := sum_any (some ⟨w8.heap.size + 1, 0, none⟩) 6 [100, 109, 116, 1, 0, 0] ((w8.alloc (litO [1])).alloc (litO [100, 109, 116, 1, 0, 0])) (lit_k (w8.alloc (litO [1])) (w8.heap.size + 1) (by simp) [100, 109, 116, 1, 0, 0]) (by decide)
       have hsum : sumB [100, 109, 116, 1, 0, 0] 0 0 = 670 := by decide
       rw [hsum] at hsm
       refine hsm.mono ?_
       rintro e w10 ⟨rfl, rfl⟩
       go_ways)
    | (go_at_call 8
       have hs3 : Calls Tryz.prog 8 #[.slice s8 1 c8, .slice (some ⟨w8.heap.size, 0, none⟩) 1 1] (w8.alloc (litO [1])) _ := same_b s8 (some ⟨w8.heap.size, 0, none⟩) c8 1 [1] _ (by decide) (HS8.out.below (bAlloc (Below.refl _ _) _)) (lit_b w8 [1])
       refine hs3.mono ?_
       rintro e w9 ⟨rfl, rfl⟩
       go_ways)
    | (go_at_call 6
       refine (integer_b (-1) (by decide) (by decide) (w6.alloc (litO [172, 2]))).mono ?_
       rintro e w8 ⟨hb8, s8, c8, rfl, hown8⟩
       rw [num_m1] at hown8 ⊢
       have hb68 := bNext (bAlloc (Below.refl w6.heap.size w6) (litO [172, 2])) hb8
       have cI8 := (bRdCell hb68 _ hgI6 9).trans HCI6.out
       have hM8 := (hb68.block _ (Array.getElem?_eq_some_iff.1 HM6.out).1).trans HM6.out
       have cM8 : w8.cell? ⟨w4.heap.size, 0, none⟩ = some (.slice none 0 0) := bRow hM8 0
       have hzM8 : w4.heap.size < w8.heap.size := (Array.getElem?_eq_some_iff.1 hM8).1
       have hgI8 : gI < w8.heap.size := Nat.lt_of_lt_of_le hgI6 hb68.size
       have HS8 := Lib.hid (bytes_own hown8).1
       have HB8 := Lib.hid (bNext HB6.out hb68)
       clear hb8 hb68 hM8 hown8
       go_ways)
    | (go_at_call 8
       have hs2 : Calls Tryz.prog 8 #[.slice s6 2 c6, .slice (some ⟨w6.heap.size, 0, none⟩) 2 2] (w6.alloc (litO [172, 2])) _ := same_b s6 (some ⟨w6.heap.size, 0, none⟩) c6 2 [172, 2] _ (by decide) (HS6.out.below (bAlloc (Below.refl _ _) _)) (lit_b w6 [172, 2])
       refine hs2.mono ?_
       rintro e w7 ⟨rfl, rfl⟩
       go_ways)
    | (go_at_call 5
       refine (number_b 300 (by decide) ((w4.alloc nilM).alloc (litO goldB))).mono ?_
       rintro e w6 ⟨hb6, s6, c6, rfl, hown6⟩
       rw [num300] at hown6 ⊢
       have hb46 := bNext (bAlloc (bAlloc (Below.refl w4.heap.size w4) nilM) (litO goldB)) hb6
       have HCI6 := Lib.hid ((bRdCell hb46 _ hgI4 9).trans HCI4.out)
       have hM6 := (hb6.block w4.heap.size (by simp; omega)).trans ((Below.heap_alloc _ _ _ (by simp)).trans (heap_alloc_new w4 nilM))
       have HM6 := Lib.hid hM6
       have HS6 := Lib.hid (bytes_own hown6).1
       have HB6 := Lib.hid (bNext HB4.out hb46)
       have hgI6 : gI < w6.heap.size := Nat.lt_of_lt_of_le hgI4 hb46.size
       clear hb6 hb46 hM6 hown6
       go_ways)
    | (go_at_call 8
       have hs1 : Calls Tryz.prog 8 #[.slice sE 10 cE, .slice (some ⟨w4.heap.size + 1, 0, none⟩) 10 10] ((w4.alloc nilM).alloc (litO goldB)) _ := same_b sE (some ⟨w4.heap.size + 1, 0, none⟩) cE 10 goldB _ (by decide) (HE4.out.below (bAlloc (bAlloc (Below.refl _ _) _) _)) (lit_k (w4.alloc nilM) (w4.heap.size + 1) (by simp) goldB)
       refine hs1.mono ?_
       rintro e w5 ⟨rfl, rfl⟩
       go_ways)
    | (go_at_call 18
       have hdc : Calls Tryz.prog 18 #[.slice (some ⟨w2.heap.size + 1, 0, none⟩) 10 10] ((w2.alloc (litO [172, 2, 7])).alloc (litO goldB)) _ := decode_e (w2.heap.size + 1) ((w2.alloc (litO [172, 2, 7])).alloc (litO goldB)) (HH.out.below (bAlloc (bAlloc HB2.out _) _)) (by
         rcases lit_k (w2.alloc (litO [172, 2, 7])) (w2.heap.size + 1) (by simp) goldB with h | ⟨g, o, he, _, h⟩
         · exact absurd h (by decide)
         · cases he
           intro j hj
           have := h j hj
           rwa [Nat.zero_add] at this)
       refine hdc.mono ?_
       rintro e w4 ⟨rfl, hb4⟩
       have hb24 := bNext (bAlloc (bAlloc (Below.refl w2.heap.size w2) (litO [172, 2, 7])) (litO goldB)) hb4
       have HCI4 := Lib.hid ((bRdCell hb24 _ hgI 9).trans HCI2.out)
       have HE4 := Lib.hid (HE2.out.below hb24)
       have HB4 := Lib.hid (bNext HB2.out hb24)
       have hgI4 : gI < w4.heap.size := Nat.lt_of_lt_of_le hgI hb24.size
       clear hb4 hb24
       go_ways)
    | (go_at_call 7
       have hrd := readNumber_b (some ⟨w2.heap.size, 0, none⟩) 3 [172, 2, 7] (w2.alloc (litO [172, 2, 7])) (lit_b w2 [172, 2, 7]) (by decide)
       have hz : readB [172, 2, 7] 0 0 = some (300, 2) := by decide
       rw [hz] at hrd
       refine hrd.mono ?_
       rintro e w3 ⟨rfl, rfl⟩
       simp only [readRes]
       go_ways)
    | (go_at_call 6
       refine (integer_b (-9223372036854775808) (by decide) (by decide) w1).mono ?_
       rintro e w2 ⟨hb2, sI, cI, rfl, hown2⟩
       rw [num_min] at hown2 ⊢
       obtain ⟨gI, rfl, -, hgI, hcI⟩ := own_some hown2 (by decide)
       have cI2 : w2.cell? ⟨gI, 9, none⟩ = some (.int .u8 1) := by have h := hcI 9 _ rfl; rw [add_none, Nat.zero_add] at h; exact h
       have HE2 := Lib.hid (HE1.out.below hb2)
       have HB2 := Lib.hid (bNext HB1.out hb2)
       have HCI2 := Lib.hid cI2
       clear hb2 hown2 hcI cI2
       go_ways)
    | (go_at_call 17
       refine (encode_e w HH.out).mono ?_
       rintro e w1 ⟨hb1, sE, cE, rfl, hs1⟩
       have HB1 := Lib.hid hb1
       have HE1 := Lib.hid hs1
       clear hb1 hs1
       go_ways))
  go_ret
  exact ⟨rfl, bAlloc (bAlloc HB8.out _) _⟩
end Go.Proofs.YtligbbhdbpjdjaaGreatDoor
