/- Decode of the empty module's bytes. -/
import Derived.Test.YtligbbhdbpjdjaaGreatDoorBn8
import Derived.Test.YtligbbhdbpjdjaaGreatDoorBn9
import Derived.Test.YtligbbhdbpjdjaaGreatDoorBnB
namespace Go.Proofs.YtligbbhdbpjdjaaGreatDoor
open Go Go.RowKit Go.Sort
set_option linter.unusedVariables false
set_option linter.unusedSimpArgs false

theorem three_allocs (w : World) (a b c : Obj) : ((w.alloc a).alloc b).alloc c = ((w.alloc a).alloc b).alloc c ∧ (((w.alloc a).alloc b).alloc c).heap[w.heap.size]? = some a ∧ (((w.alloc a).alloc b).alloc c).heap[w.heap.size + 1]? = some b ∧ (((w.alloc a).alloc b).alloc c).heap[w.heap.size + 1 + 1]? = some c ∧ Below w.heap.size w (((w.alloc a).alloc b).alloc c) := by
  have h1 := heap_alloc_new w a
  have h2 := heap_alloc_new (w.alloc a) b
  have h3 := heap_alloc_new ((w.alloc a).alloc b) c
  have s1 : (w.alloc a).heap.size = w.heap.size + 1 := by simp
  have s2 : ((w.alloc a).alloc b).heap.size = w.heap.size + 1 + 1 := by simp
  rw [s1] at h2
  rw [s2] at h3
  refine ⟨rfl, ?_, ?_, h3, bAlloc (bAlloc (bAlloc (Below.refl _ _) _) _) _⟩
  · exact (Below.heap_alloc _ _ _ (by omega)).trans ((Below.heap_alloc _ _ _ (by omega)).trans h1)
  · exact (Below.heap_alloc _ _ _ (by omega)).trans h2

set_option maxRecDepth 100000 in
set_option maxHeartbeats 8000000 in
theorem decode_e (G : Nat) (w : World) (hh : HeadAt w) (hG : ∀ j (hj : j < goldB.length), w.cell? ⟨G, j, none⟩ = some (byteV goldB[j])) :
    Calls Tryz.prog 18 #[.slice (some ⟨G, 0, none⟩) 10 10] w fun e w' => e = .returned (.tuple #[emptyM, .int .i64 0]) ∧ Below w.heap.size w w' := by
  have hzG : G < w.heap.size := World.block_lt_of_cell? w _ (hG 0 (by decide))
  have HH := Lib.hid hh
  obtain ⟨hg, off, hc, h1, h2, h3⟩ := hh
  have H3 := Lib.hid h3
  have HG := Lib.hid hG
  clear h3 hG
  go_enter Tryz.func18, Tryz.ntmps18
  go_wp2_with fail
  obtain ⟨-, hC3, hR3, hT3, hB3⟩ := three_allocs w (.cells #[.slice none 0 0] 44) (.cells #[.slice (some ⟨G, 0, none⟩) 10 10, .slice none 0 0, .bool false, .int .i64 0] 52) (.cells #[.pointer (some ⟨w.heap.size + 1, 0, none⟩)] 49)
  generalize hW3 : ((w.alloc (.cells #[.slice none 0 0] 44)).alloc (.cells #[.slice (some ⟨G, 0, none⟩) 10 10, .slice none 0 0, .bool false, .int .i64 0] 52)).alloc (.cells #[.pointer (some ⟨w.heap.size + 1, 0, none⟩)] 49) = W3 at hC3 hR3 hT3 hB3 ⊢
  clear hW3
  have cT3 : W3.cell? ⟨w.heap.size + 1 + 1, 0, none⟩ = some (.pointer (some ⟨w.heap.size + 1, 0, none⟩)) := bRow hT3 0
  have cG3 := (bRdCell hB3 _ h2 0).trans h1
  have hzs3 : w.heap.size ≤ W3.heap.size := hB3.size
  have HC3 := Lib.hid hC3
  have HR3 := Lib.hid hR3
  have HT3 := Lib.hid hT3
  have HB3 := Lib.hid hB3
  clear hC3 hR3 hT3 hB3
  refine wp_region_kept 10 (fun b w' => w'.cell? ⟨w.heap.size + 1 + 1, 0, none⟩ = some (.pointer (some ⟨w.heap.size + 1, 0, none⟩)) ∧ w'.cell? ⟨0, 0, none⟩ = some (.slice (some ⟨hg, off, none⟩) 4 hc)) (by kernel_rfl) ⟨cT3, cG3⟩ (fun hHeld => ?_)
  (refine wpAnyK_take (i := 0) (v := ?_) rfl (by rfl) (by kernel_rfl) (by kernel_rfl) (by kernel_rfl) (fun _ _ _ h => h) (Or.inl ⟨by rfl, ?_⟩) (by assumption) (fun hHeld => ?_); rotate_left; (· intro w hSw; obtain ⟨_, hS1, hS2⟩ := hSw; go_simp; (try with_reducible rfl)); (try simp only [Act.put, List.getElem_toArray, List.getElem_cons_zero, List.getElem_cons_succ, List.setIfInBounds_toArray, List.set_cons_zero, List.set_cons_succ]))
  (refine wpAnyK_take (i := 1) (v := ?_) rfl (by rfl) (by kernel_rfl) (by kernel_rfl) (by kernel_rfl) (fun _ _ _ h => h) (Or.inl ⟨by rfl, ?_⟩) (by assumption) (fun hHeld => ?_); rotate_left; (· intro w hSw; obtain ⟨_, hS1, hS2⟩ := hSw; go_simp; (try with_reducible rfl)); (try simp only [Act.put, List.getElem_toArray, List.getElem_cons_zero, List.getElem_cons_succ, List.setIfInBounds_toArray, List.set_cons_zero, List.set_cons_succ]))
  (refine wpAnyK_take (i := 2) (v := ?_) rfl (by rfl) (by kernel_rfl) (by kernel_rfl) (by kernel_rfl) (fun _ _ _ h => h) (Or.inl ⟨by rfl, ?_⟩) (by assumption) (fun hHeld => ?_); rotate_left; (· intro w hSw; obtain ⟨_, hS1, hS2⟩ := hSw; go_simp; (try with_reducible rfl)); (try simp only [Act.put, List.getElem_toArray, List.getElem_cons_zero, List.getElem_cons_succ, List.setIfInBounds_toArray, List.set_cons_zero, List.set_cons_succ]))
  (refine wpAnyK_take (i := 3) (v := ?_) rfl (by rfl) (by kernel_rfl) (by kernel_rfl) (by kernel_rfl) (fun _ _ _ h => h) (Or.inl ⟨by rfl, ?_⟩) (by assumption) (fun hHeld => ?_); rotate_left; (· intro w hSw; obtain ⟨_, hS1, hS2⟩ := hSw; go_simp; (try with_reducible rfl)); (try simp only [Act.put, List.getElem_toArray, List.getElem_cons_zero, List.getElem_cons_succ, List.setIfInBounds_toArray, List.set_cons_zero, List.set_cons_succ]))
  (refine wpAnyK_take (i := 5) (v := ?_) rfl (by rfl) (by kernel_rfl) (by kernel_rfl) (by kernel_rfl) (fun _ _ _ h => h) (Or.inl ⟨by rfl, ?_⟩) (by assumption) (fun hHeld => ?_); rotate_left; (· intro w hSw; obtain ⟨_, hS1, hS2⟩ := hSw; go_simp; (try with_reducible rfl)); (try simp only [Act.put, List.getElem_toArray, List.getElem_cons_zero, List.getElem_cons_succ, List.setIfInBounds_toArray, List.set_cons_zero, List.set_cons_succ]))
  refine wpAnyK_step (i := 4) rfl (by kernel_rfl) (fun K' hK => ?_)
  go_simp
  go_at_call 22
  refine (take_b (w.heap.size + 1) G 0 4 10 10 (.slice none 0 0) (.int .i64 0) headB W3.drew rfl (by decide) (by decide) (by decide) (by decide) (by omega) HR3.out (fun j hj => by rw [Nat.zero_add]; exact (bRdCell HB3.out _ hzG j).trans ((HG.out j (by have : headB.length = 4 := rfl; have : goldB.length = 10 := rfl; omega)).trans (by match j, hj with | 0, _ => rfl | 1, _ => rfl | 2, _ => rfl | 3, _ => rfl)))).mono ?_
  rintro e w4 ⟨sa4, sc4, rfl, hs4, hr4, hk4⟩
  dsimp only
  have hb4 := HB3.out.trans (show Below w.heap.size W3 w4 from (let h := hk4.2.2 w.heap.size (by omega) hzs3; ⟨h.os, h.tape, h.output, h.size, h.block⟩))
  have hT4 := hk4.2.1 _ _ HT3.out (by omega)
  have hC4 := hk4.2.1 _ _ HC3.out (by omega)
  have cT4 : w4.cell? ⟨w.heap.size + 1 + 1, 0, none⟩ = some (.pointer (some ⟨w.heap.size + 1, 0, none⟩)) := bRow hT4 0
  have cG4 := (bRdCell hb4 _ h2 0).trans h1
  have HS4 := Lib.hid hs4
  have HR4 := Lib.hid hr4
  have HT4 := Lib.hid hT4
  have HC4 := Lib.hid hC4
  have HB4 := Lib.hid hb4
  clear hs4 hr4 hk4 hb4 hT4 hC4
  refine hK.out _ _ ⟨cT4, cG4⟩ (fun hHeld => ?_)
  (try simp only [Act.put, List.getElem_toArray, List.getElem_cons_zero, List.getElem_cons_succ, List.setIfInBounds_toArray, List.set_cons_zero, List.set_cons_succ])
  refine wpAnyK_step (i := 6) rfl (by kernel_rfl) (fun K2 hK2 => ?_)
  go_simp
  go_at_call 21
  have heq : Calls Tryz.prog 21 #[.slice sa4 4 sc4, .slice (some ⟨hg, off, none⟩) 4 hc] w4 _ := equal_b sa4 (some ⟨hg, off, none⟩) sc4 hc headB w4 (by decide) HS4.out (H3.out.below HB4.out)
  refine heq.mono ?_
  rintro e w5 ⟨rfl, hb5⟩
  dsimp only
  have hb05 := bNext HB4.out hb5
  have hT5 := (hb5.block _ (Array.getElem?_eq_some_iff.1 HT4.out).1).trans HT4.out
  have hC5 := (hb5.block _ (Array.getElem?_eq_some_iff.1 HC4.out).1).trans HC4.out
  have hR5 := (hb5.block _ (Array.getElem?_eq_some_iff.1 HR4.out).1).trans HR4.out
  have cT5 : w5.cell? ⟨w.heap.size + 1 + 1, 0, none⟩ = some (.pointer (some ⟨w.heap.size + 1, 0, none⟩)) := bRow hT5 0
  have cG5 := (bRdCell hb05 _ h2 0).trans h1
  have cR5 : w5.cell? ⟨w.heap.size + 1, 2, none⟩ = some (.bool false) := bRow hR5 2
  have fR5 : ∀ j, w5.frozen? ⟨w.heap.size + 1, j, none⟩ = false := fun j => frozen_of_row w5 _ j _ _ hR5
  have HR5 := Lib.hid hR5
  have HT5 := Lib.hid hT5
  have HC5 := Lib.hid hC5
  have HB5 := Lib.hid hb05
  clear hb5 hb05 hT5 hC5 hR5
  refine hK2.out _ _ ⟨cT5, cG5⟩ (fun hHeld => ?_)
  (try simp only [Act.put, List.getElem_toArray, List.getElem_cons_zero, List.getElem_cons_succ, List.setIfInBounds_toArray, List.set_cons_zero, List.set_cons_succ])
  (refine wpAnyK_take (i := 7) (v := ?_) rfl (by rfl) (by kernel_rfl) (by kernel_rfl) (by kernel_rfl) (fun _ _ _ h => h) (Or.inl ⟨by rfl, ?_⟩) (by assumption) (fun hHeld => ?_); rotate_left; (· intro w hSw; obtain ⟨_, hS1, hS2⟩ := hSw; go_simp; (try with_reducible rfl)); (try simp only [Act.put, List.getElem_toArray, List.getElem_cons_zero, List.getElem_cons_succ, List.setIfInBounds_toArray, List.set_cons_zero, List.set_cons_succ]))
  (refine wpAnyK_take (i := 8) (v := ?_) rfl (by rfl) (by kernel_rfl) (by kernel_rfl) (by kernel_rfl) (fun _ _ _ h => h) (Or.inl ⟨by rfl, ?_⟩) (by assumption) (fun hHeld => ?_); rotate_left; (· intro w hSw; obtain ⟨_, hS1, hS2⟩ := hSw; go_simp; (try with_reducible rfl)); (try simp only [Act.put, List.getElem_toArray, List.getElem_cons_zero, List.getElem_cons_succ, List.setIfInBounds_toArray, List.set_cons_zero, List.set_cons_succ]))
  (refine wpAnyK_take (i := 9) (v := ?_) rfl (by rfl) (by kernel_rfl) (by kernel_rfl) (by kernel_rfl) (fun _ _ _ h => h) (Or.inl ⟨by rfl, ?_⟩) (by assumption) (fun hHeld => ?_); rotate_left; (· intro w hSw; obtain ⟨_, hS1, hS2⟩ := hSw; go_simp; (try with_reducible rfl)); (try simp only [Act.put, List.getElem_toArray, List.getElem_cons_zero, List.getElem_cons_succ, List.setIfInBounds_toArray, List.set_cons_zero, List.set_cons_succ]))
  refine wpAnyK_step (i := 10) rfl (by kernel_rfl) (fun K3 hK3 => ?_)
  go_simp
  refine hK3.out _ _ ⟨(World.cell?_setCell_far _ _ _ _ (by simp)).trans cT5, (World.cell?_setCell_far _ _ _ _ (by simp)).trans cG5⟩ (fun hHeld => ?_)
  refine wpAnyK_done (by kernel_rfl) ?_ _
  clear hK hK2 hK3
  have hR6 : ReadsAt (w.heap.size + 1) ⟨G, 4, none⟩ 6 6 (.slice none 0 0) (.int .i64 0) (w5.setCell ⟨w.heap.size + 1, 2, none⟩ (.bool false)) := by
    unfold ReadsAt
    rw [heap_setCell_same _ _ _ _ _ _ HR5.out]
    simp
  have hT6 := (Below.heap_setCell w5 ⟨w.heap.size + 1, 2, none⟩ (.bool false) (w.heap.size + 1 + 1) (by simp)).trans HT5.out
  have hC6 := (Below.heap_setCell w5 ⟨w.heap.size + 1, 2, none⟩ (.bool false) w.heap.size (by simp)).trans HC5.out
  have hB6 := HB5.out.setCell (p := ⟨w.heap.size + 1, 2, none⟩) (by simp) (.bool false)
  generalize hW6 : w5.setCell ⟨w.heap.size + 1, 2, none⟩ (.bool false) = w6 at hR6 hT6 hC6 hB6 ⊢
  clear hW6 cT5 cG5 cR5 fR5 cT4 cG4 cT3 cG3 HR3 HT3 HC3 HR4 HT4 HC4 HS4 HR5 HT5 HC5
  have cT6 : w6.cell? ⟨w.heap.size + 1 + 1, 0, none⟩ = some (.pointer (some ⟨w.heap.size + 1, 0, none⟩)) := bRow hT6 0
  have hzs6 : w.heap.size ≤ w6.heap.size := hB6.size
  have HR6 := Lib.hid hR6
  have HT6 := Lib.hid hT6
  have HC6 := Lib.hid hC6
  have HB6 := Lib.hid hB6
  clear hR6 hT6 hC6 hB6
  go_wp2_with fail
  refine wp_region_kept 6 (fun b w' => w'.cell? ⟨w.heap.size + 1 + 1, 0, none⟩ = some (.pointer (some ⟨w.heap.size + 1, 0, none⟩)) ∧ True) (by kernel_rfl) ⟨cT6, trivial⟩ (fun hHeld => ?_)
  (refine wpAnyK_take (i := 0) (v := ?_) rfl (by rfl) (by kernel_rfl) (by kernel_rfl) (by kernel_rfl) (fun _ _ _ h => h) (Or.inl ⟨by rfl, ?_⟩) (by assumption) (fun hHeld => ?_); rotate_left; (· intro w hSw; obtain ⟨_, hS1, hS2⟩ := hSw; go_simp; (try with_reducible rfl)); (try simp only [Act.put, List.getElem_toArray, List.getElem_cons_zero, List.getElem_cons_succ, List.setIfInBounds_toArray, List.set_cons_zero, List.set_cons_succ]))
  (refine wpAnyK_take (i := 1) (v := ?_) rfl (by rfl) (by kernel_rfl) (by kernel_rfl) (by kernel_rfl) (fun _ _ _ h => h) (Or.inl ⟨by rfl, ?_⟩) (by assumption) (fun hHeld => ?_); rotate_left; (· intro w hSw; obtain ⟨_, hS1, hS2⟩ := hSw; go_simp; (try with_reducible rfl)); (try simp only [Act.put, List.getElem_toArray, List.getElem_cons_zero, List.getElem_cons_succ, List.setIfInBounds_toArray, List.set_cons_zero, List.set_cons_succ]))
  (refine wpAnyK_take (i := 2) (v := ?_) rfl (by rfl) (by kernel_rfl) (by kernel_rfl) (by kernel_rfl) (fun _ _ _ h => h) (Or.inl ⟨by rfl, ?_⟩) (by assumption) (fun hHeld => ?_); rotate_left; (· intro w hSw; obtain ⟨_, hS1, hS2⟩ := hSw; go_simp; (try with_reducible rfl)); (try simp only [Act.put, List.getElem_toArray, List.getElem_cons_zero, List.getElem_cons_succ, List.setIfInBounds_toArray, List.set_cons_zero, List.set_cons_succ]))
  refine wpAnyK_step (i := 3) rfl (by kernel_rfl) (fun K4 hK4 => ?_)
  go_simp
  go_at_call 23
  refine (several_s (w.heap.size + 1) G 4 6 (.slice none 0 0) (.int .i64 0) _ [0, 158, 2, 0, 0] w6.drew (by decide) (by decide) (by decide) (by omega) HR6.out (fun j hj => (bRdCell HB6.out _ hzG (4 + j)).trans ((HG.out (4 + j) (by have : goldB.length = 10 := rfl; simp at hj; omega)).trans (by match j, hj with | 0, _ => rfl | 1, _ => rfl | 2, _ => rfl | 3, _ => rfl | 4, _ => rfl | 5, _ => rfl)))).mono ?_
  rintro e w7 ⟨rfl, hr7, hk7⟩
  dsimp only
  have hb7 := HB6.out.trans (show Below w.heap.size w6 w7 from (let h := hk7.2.2 w.heap.size (by omega) hzs6; ⟨h.os, h.tape, h.output, h.size, h.block⟩))
  have hT7 := hk7.2.1 _ _ HT6.out (by omega)
  have hC7 := hk7.2.1 _ _ HC6.out (by omega)
  have cT7 : w7.cell? ⟨w.heap.size + 1 + 1, 0, none⟩ = some (.pointer (some ⟨w.heap.size + 1, 0, none⟩)) := bRow hT7 0
  have cR7 : w7.cell? ⟨w.heap.size + 1, 1, none⟩ = some (.slice none 0 0) := bRow hr7 1
  have fR7 : ∀ j, w7.frozen? ⟨w.heap.size + 1, j, none⟩ = false := fun j => frozen_of_row w7 _ j _ _ hr7
  have HR7 := Lib.hid hr7
  have HT7 := Lib.hid hT7
  have HC7 := Lib.hid hC7
  have HB7 := Lib.hid hb7
  clear hr7 hk7 hb7 hT7 hC7
  refine hK4.out _ _ ⟨cT7, trivial⟩ (fun hHeld => ?_)
  (try simp only [Act.put, List.getElem_toArray, List.getElem_cons_zero, List.getElem_cons_succ, List.setIfInBounds_toArray, List.set_cons_zero, List.set_cons_succ])
  (refine wpAnyK_take (i := 4) (v := ?_) rfl (by rfl) (by kernel_rfl) (by kernel_rfl) (by kernel_rfl) (fun _ _ _ h => h) (Or.inl ⟨by rfl, ?_⟩) (by assumption) (fun hHeld => ?_); rotate_left; (· intro w hSw; obtain ⟨_, hS1, hS2⟩ := hSw; go_simp; (try with_reducible rfl)); (try simp only [Act.put, List.getElem_toArray, List.getElem_cons_zero, List.getElem_cons_succ, List.setIfInBounds_toArray, List.set_cons_zero, List.set_cons_succ]))
  (refine wpAnyK_take (i := 5) (v := ?_) rfl (by rfl) (by kernel_rfl) (by kernel_rfl) (by kernel_rfl) (fun _ _ _ h => h) (Or.inl ⟨by rfl, ?_⟩) (by assumption) (fun hHeld => ?_); rotate_left; (· intro w hSw; obtain ⟨_, hS1, hS2⟩ := hSw; go_simp; (try with_reducible rfl)); (try simp only [Act.put, List.getElem_toArray, List.getElem_cons_zero, List.getElem_cons_succ, List.setIfInBounds_toArray, List.set_cons_zero, List.set_cons_succ]))
  refine wpAnyK_step (i := 6) rfl (by kernel_rfl) (fun K5 hK5 => ?_)
  go_simp
  refine hK5.out _ _ ⟨(World.cell?_setCell_far _ _ _ _ (by simp)).trans cT7, trivial⟩ (fun hHeld => ?_)
  refine wpAnyK_done (by kernel_rfl) ?_ _
  clear hK4 hK5
  have hR8 : ReadsAt (w.heap.size + 1) ⟨G, 5, none⟩ 5 5 (.slice none 0 0) (.int .i64 0) (w7.setCell ⟨w.heap.size + 1, 1, none⟩ (.slice none 0 0)) := by
    unfold ReadsAt
    rw [heap_setCell_same _ _ _ _ _ _ HR7.out]
    simp
  have hT8 := (Below.heap_setCell w7 ⟨w.heap.size + 1, 1, none⟩ (.slice none 0 0) (w.heap.size + 1 + 1) (by simp)).trans HT7.out
  have hC8 := (Below.heap_setCell w7 ⟨w.heap.size + 1, 1, none⟩ (.slice none 0 0) w.heap.size (by simp)).trans HC7.out
  have hB8 := HB7.out.setCell (p := ⟨w.heap.size + 1, 1, none⟩) (by simp) (.slice none 0 0)
  generalize hW8 : w7.setCell ⟨w.heap.size + 1, 1, none⟩ (.slice none 0 0) = w8 at hR8 hT8 hC8 hB8 ⊢
  clear hW8 cT6 cT7 cR7 fR7 HR6 HT6 HC6 HR7 HT7 HC7
  have cT8 : w8.cell? ⟨w.heap.size + 1 + 1, 0, none⟩ = some (.pointer (some ⟨w.heap.size + 1, 0, none⟩)) := bRow hT8 0
  have hzs8 : w.heap.size ≤ w8.heap.size := hB8.size
  have HR8 := Lib.hid hR8
  have HT8 := Lib.hid hT8
  have HC8 := Lib.hid hC8
  have HB8 := Lib.hid hB8
  clear hR8 hT8 hC8 hB8
  go_wp2_with (first
    | (go_at_call 26
       refine (several_o (w.heap.size + 1) G 5 5 (.slice none 0 0) (.int .i64 0) _ [158, 2, 0, 0] w8 (by decide) (by decide) (by decide) (by omega) HR8.out (fun j hj => (bRdCell HB8.out _ hzG (5 + j)).trans ((HG.out (5 + j) (by have : goldB.length = 10 := rfl; simp at hj; omega)).trans (by match j, hj with | 0, _ => rfl | 1, _ => rfl | 2, _ => rfl | 3, _ => rfl | 4, _ => rfl)))).mono ?_
       rintro e w9 ⟨rfl, hr9, hk9⟩
       have hb9 := HB8.out.trans (hk9.2.2 w.heap.size (by omega) hzs8)
       have hT9 := hk9.2.1 _ _ HT8.out (by omega)
       have hC9 := hk9.2.1 _ _ HC8.out (by omega)
       have cT9 : w9.cell? ⟨w.heap.size + 1 + 1, 0, none⟩ = some (.pointer (some ⟨w.heap.size + 1, 0, none⟩)) := bRow hT9 0
       have cR90 : w9.cell? ⟨w.heap.size + 1, 0, none⟩ = some (.slice (some ⟨G, 6, none⟩) 4 4) := bRow hr9 0
       have cR92 : w9.cell? ⟨w.heap.size + 1, 2, none⟩ = some (.bool false) := bRow hr9 2
       have HC9 := Lib.hid hC9
       have HB9 := Lib.hid hb9
       have hz9 : w.heap.size + 1 + 1 < w9.heap.size := (Array.getElem?_eq_some_iff.1 hT9).1
       have hz9' : w.heap.size + 1 < w9.heap.size := by omega
       have hz9'' : w.heap.size < w9.heap.size := by omega
       clear hr9 hk9 hb9 hT9 hC9
       go_ways)
    | (go_at_call 19
       refine (check_e _).mono ?_
       rintro e wA ⟨rfl, hbA⟩
       have hMA := (hbA.block w9.heap.size (by simp)).trans (heap_alloc_new w9 _)
       have hCA := (hbA.block w.heap.size (by simp; omega)).trans ((Below.heap_alloc _ _ _ hz9'').trans HC9.out)
       have cMA : wA.cell? ⟨w9.heap.size, 0, none⟩ = some (.slice none 0 0) := bRow hMA 0
       have HBA := Lib.hid (bNext (bAlloc HB9.out _) hbA)
       have HMA := Lib.hid hMA
       have HCA := Lib.hid hCA
       clear hbA hMA hCA
       go_ways)
    | (go_at_call 20
       refine (encoded_e wA (HH.out.below HBA.out)).mono ?_
       rintro e wB ⟨hbB, sB, cB, rfl, hownB⟩
       have hMB := (hbB.block _ (Array.getElem?_eq_some_iff.1 HMA.out).1).trans HMA.out
       have hCB := (hbB.block _ (Array.getElem?_eq_some_iff.1 HCA.out).1).trans HCA.out
       have HBB := Lib.hid (bNext HBA.out hbB)
       have HMB := Lib.hid hMB
       have HCB := Lib.hid hCB
       have HSB := Lib.hid (bytes_own hownB).1
       have hl : goldB.length = 10 := rfl
       rw [hl]
       clear hbB hMB hCB hownB
       go_ways)
    | (go_at_call 21
       have heq2 : Calls Tryz.prog 21 #[.slice sB 10 cB, .slice (some ⟨G, 0, none⟩) 10 10] wB _ := equal_b sB (some ⟨G, 0, none⟩) cB 10 goldB wB (by decide) HSB.out (.inr ⟨G, 0, rfl, Nat.lt_of_lt_of_le hzG HBB.out.size, fun j hj => (bRdCell HBB.out _ hzG (0 + j)).trans (by rw [Nat.zero_add]; exact HG.out j hj)⟩)
       refine heq2.mono ?_
       rintro e wC ⟨rfl, hbC⟩
       have hMC := (hbC.block _ (Array.getElem?_eq_some_iff.1 HMB.out).1).trans HMB.out
       have hCC := (hbC.block _ (Array.getElem?_eq_some_iff.1 HCB.out).1).trans HCB.out
       have cMC : wC.cell? ⟨w9.heap.size, 0, none⟩ = some (.slice none 0 0) := bRow hMC 0
       have cCC : wC.cell? ⟨w.heap.size, 0, none⟩ = some (.slice none 0 0) := bRow hCC 0
       have fCC : ∀ j, wC.frozen? ⟨w.heap.size, j, none⟩ = false := fun j => frozen_of_row wC _ j _ _ hCC
       have HBC := Lib.hid (bNext HBB.out hbC)
       have hzC := (Array.getElem?_eq_some_iff.1 hCC).1
       have HCC := Lib.hid hCC
       clear hbC hMC hCC
       go_ways))
  have hcell : (wC.setCell ⟨w.heap.size, 0, none⟩ (.slice none 0 0)).cell? ⟨w.heap.size, 0, none⟩ = some (.slice none 0 0) := bRow (heap_setCell_same wC w.heap.size 0 _ _ (.slice none 0 0) HCC.out) 0
  refine bodyPost_ret (v := .tuple #[emptyM, .int .i64 0]) (by simp [results, Tryz.results18, go_sem, hcell]) rfl ?_
  exact ⟨rfl, HBC.out.setCell (by simp) _⟩
end Go.Proofs.YtligbbhdbpjdjaaGreatDoor
