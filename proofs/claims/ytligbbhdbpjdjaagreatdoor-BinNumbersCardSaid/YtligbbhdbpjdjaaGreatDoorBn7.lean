/- The bytes of the empty module. -/
import Derived.Test.YtligbbhdbpjdjaaGreatDoorBn5
import Derived.Test.YtligbbhdbpjdjaaGreatDoorBn6
namespace Go.Proofs.YtligbbhdbpjdjaaGreatDoor
open Go Go.RowKit Go.Sort
set_option linter.unusedVariables false
set_option linter.unusedSimpArgs false

def headB : List UInt8 := [100, 109, 116, 1]
def tailB : List UInt8 := [158, 2, 0, 0]
def EncRel (w : World) (Wb : Nat) (mv : Value) (j : Nat) (wr : World) : Prop :=
  Wrote w.heap.size Wb mv ([100, 109, 116, 1, 0, 0] ++ tailB.take j) wr ∧ Below w.heap.size w wr ∧ wr.heap[Wb + 1]? = some (.cells #[.pointer (some ⟨Wb, 0, none⟩)] 69 (0, 0))
def goldB : List UInt8 := [100, 109, 116, 1, 0, 0, 158, 2, 0, 0]
def HeadAt (w : World) : Prop := ∃ g off hc, w.cell? ⟨0, 0, none⟩ = some (.slice (some ⟨g, off, none⟩) 4 hc) ∧ 0 < w.heap.size ∧ ByteSl w (some ⟨g, off, none⟩) headB
theorem HeadAt.below {w w' : World} (h : HeadAt w) (hb : Below w.heap.size w w') : HeadAt w' := by
  obtain ⟨g, off, hc, h1, h2, h3⟩ := h
  exact ⟨g, off, hc, (bRdCell hb _ h2 0).trans h1, Nat.lt_of_lt_of_le h2 hb.size, h3.below hb⟩

theorem bOwn_mono {w : World} {base base' : Nat} {e : TypeId} {v : Value} {n : Nat} {xs : List Value} (h : w.ownsRow base e 1 v n xs) (hb : base' ≤ base) : w.ownsRow base' e 1 v n xs := by
  obtain ⟨h0, h | ⟨g, c, cur, h1, h2, h3⟩⟩ := h
  · exact ⟨h0, .inl h⟩
  · exact ⟨h0, .inr ⟨g, c, cur, h1, Nat.le_trans hb h2, h3⟩⟩
theorem module_ne {a : Array Value} : ∀ cs, Obj.cells a 44 (0, 0) ≠ .cells cs 5 (0, 0) := fun cs h => by injection h with _ h2; exact absurd h2 (by decide)
theorem ptr_ne {a : Array Value} : ∀ cs, Obj.cells a 69 (0, 0) ≠ .cells cs 5 (0, 0) := fun cs h => by injection h with _ h2; exact absurd h2 (by decide)

set_option maxRecDepth 100000 in
set_option maxHeartbeats 4000000 in
theorem encoded_e (w : World) (hh : HeadAt w) : Calls Tryz.prog 20 #[emptyM] w (BytesPost goldB w) := by
  obtain ⟨i0, hin, iz0, iz1, iz2⟩ := info_parts (show (Tryz.prog.info? 5).map (fun i => (i.zero, i.size, i.bytes)) = some (some (.int .u8 0), 1, 1) by kernel_rfl)
  obtain ⟨g, off, hc, h1, h2, h3⟩ := hh
  have H3 := Lib.hid h3
  clear h3
  go_enter Tryz.func20, Tryz.ntmps20
  go_wp2_with (first
    | (go_at_call 29
       refine (table_e _).mono ?_
       rintro e w2 ⟨rfl, hb2⟩
       have hM2 : w2.heap[w.heap.size]? = some (.cells #[nilV] 44 (0, 0)) := (hb2.block _ (by simp)).trans (heap_alloc_new _ _)
       have hb02 := bNext (bAlloc (Below.refl w.heap.size w) _) hb2
       have cG2 := (bRdCell hb02 _ h2 0).trans h1
       have HB2 := Lib.hid hb02
       have HM2 := Lib.hid hM2
       have hz2 : w.heap.size < w2.heap.size := (Array.getElem?_eq_some_iff.1 hM2).1
       clear hb2 hb02 hM2
       go_ways)
    | (go_at_call 30
       have hcl : Calls Tryz.prog 30 #[.slice (some ⟨g, off, none⟩) 4 hc] w2 _ := clone_b (some ⟨g, off, none⟩) hc headB w2 (by decide) (by decide) (H3.out.below HB2.out)
       refine hcl.mono ?_
       rintro e w3 ⟨hb3, sa3, sc3, rfl, hown3⟩
       have hM3 := (hb3.block _ hz2).trans HM2.out
       have HB3 := Lib.hid (bNext HB2.out hb3)
       have HM3 := Lib.hid hM3
       have hz3 : w.heap.size < w3.heap.size := (Array.getElem?_eq_some_iff.1 hM3).1
       have HO3 := Lib.hid (bOwn_mono hown3 (Nat.le_of_lt hz2))
       clear hb3 hM3 hown3
       go_ways)
    | (go_at_call 31
       refine (each_s w.heap.size w3.heap.size (.map (some (w.heap.size + 1 + 2))) _ headB _ (by decide) ?hw).mono ?_
       case hw => exact ⟨Nat.le_of_lt hz3, (by simp; omega), sa3, sc3, (Below.heap_alloc _ _ _ (by simp)).trans (heap_alloc_new _ _), (HO3.out.alloc _).alloc _⟩
       intro e w4 hp
       obtain ⟨rfl, hw4, hb4, hk4⟩ := hp
       have hT3 : ((w3.alloc (.cells #[.slice sa3 headB.length sc3, .map (some (w.heap.size + 1 + 2))] 72)).alloc (.cells #[.pointer (some ⟨w3.heap.size, 0, none⟩)] 69)).heap[w3.heap.size + 1]? = some (.cells #[.pointer (some ⟨w3.heap.size, 0, none⟩)] 69 (0, 0)) := by
         have h := heap_alloc_new (w3.alloc (.cells #[.slice sa3 headB.length sc3, .map (some (w.heap.size + 1 + 2))] 72)) (.cells #[.pointer (some ⟨w3.heap.size, 0, none⟩)] 69)
         have hx : (w3.alloc (.cells #[.slice sa3 headB.length sc3, .map (some (w.heap.size + 1 + 2))] 72)).heap.size = w3.heap.size + 1 := by simp
         rw [hx] at h
         exact h
       have hM4 := hk4 w.heap.size _ ((Below.heap_alloc _ _ _ (by simp; omega)).trans ((Below.heap_alloc _ _ _ hz3).trans HM3.out)) (by omega) module_ne
       have hT4 := hk4 (w3.heap.size + 1) _ hT3 (by omega) ptr_ne
       have HB4 := Lib.hid ((bAlloc (bAlloc HB3.out _) _).trans hb4)
       have cM4 := bRow hM4
       have cT4 := bRow hT4
       have HM4 := Lib.hid hM4
       have HT4 := Lib.hid hT4
       have HW4 := Lib.hid hw4
       clear hw4 hb4 hk4 hT3 hM4 hT4
       go_ways)
    | (go_at_call 34
       refine (each_o w.heap.size w3.heap.size (.map (some (w.heap.size + 1 + 2))) _ (headB ++ numB 0) w4 (by rw [numB0]; decide) HW4.out).mono ?_
       intro e w5 hp
       obtain ⟨rfl, hw5, hb5, hk5⟩ := hp
       have hl6 : headB ++ numB 0 ++ numB 0 = [100, 109, 116, 1, 0, 0] := by rw [numB0]; rfl
       rw [hl6] at hw5
       have HW5 := Lib.hid hw5
       obtain ⟨-, -, sa5, sc5, hr5, ho5⟩ := hw5
       have hT5 := hk5 (w3.heap.size + 1) _ HT4.out (by omega) ptr_ne
       have HB5 := Lib.hid (HB4.out.trans hb5)
       have cT5 := bRow hT5
       have cW5 := bRow hr5
       have HT5 := Lib.hid hT5
       have HO5 := Lib.hid ho5
       clear hb5 hk5 hT5 hr5 ho5 hl6
       go_ways)
    | (go_at_call 13
       refine (sum_any sa5 sc5 [100, 109, 116, 1, 0, 0] w5 (bytes_own HO5.out).1 (by decide)).mono ?_
       rintro e w6 ⟨rfl, rfl⟩
       have hsum : sumB [100, 109, 116, 1, 0, 0] 0 0 = 670 := by decide
       rw [hsum]
       go_ways))
  have hpre : ([100, 109, 116, 1, 0, 0] : List UInt8) = [100, 109, 116, 1, 0, 0] ++ tailB.take 0 := rfl
  go_loopw [33] (fun iv wr => ∃ j : Nat, j ≤ 4 ∧ iv = .int .i64 j ∧ RowKit.Hid (EncRel w (w3.heap.size) (.map (some (w.heap.size + 1 + 2))) j wr)) (fun iv _ => 4 - (intOf iv).toNat)
  case atStart => exact ⟨0, by decide, rfl, HW5.out, HB5.out, HT5.out⟩
  case round =>
    obtain ⟨j, hj, rfl, hr⟩ := hrel
    clear hpre
    obtain ⟨hw, hb, ht⟩ := hr.out
    obtain ⟨hBW, hsz, sa, sc, hrow, hown⟩ := hw
    obtain ⟨n, hn⟩ : ∃ n, n = ([100, 109, 116, 1, 0, 0] ++ tailB.take j).length := ⟨_, rfl⟩
    rw [← hn] at hrow hown
    have HN := Lib.hid hn
    clear hn
    have cT0 := bRow ht 0
    have cW0 := bRow hrow 0
    simp only [List.getElem?_toArray, List.getElem?_cons_zero] at cT0 cW0
    have hzW := (Array.getElem?_eq_some_iff.1 hrow).1
    have HB := Lib.hid hb
    have hzT := (Array.getElem?_eq_some_iff.1 ht).1
    have HT := Lib.hid ht
    have HROW := Lib.hid hrow
    have HOWN := Lib.hid hown
    clear hb ht hrow hown hr cM4 cT4 cT5 cW5
    rcases Nat.lt_or_ge j 4 with hlt | hge
    · have hlt' : (j : Int) < 4 := by omega
      have htk : tailB.take (j + 1) = tailB.take j ++ [tailB.getD j 0] := by
        match j, hlt with
        | 0, _ => rfl
        | 1, _ => rfl
        | 2, _ => rfl
        | 3, _ => rfl
      obtain ⟨y, hy⟩ : ∃ y, y = tailB.getD j 0 := ⟨_, rfl⟩
      have hval : IntKind.u8.wrap (670 / 2 ^ min (IntKind.u64.wrap (IntKind.i64.wrap (8 * (j : Int)))).toNat 32) = (y.toNat : Int) := by
        rw [hy]
        match j, hlt with
        | 0, _ => decide +kernel
        | 1, _ => decide +kernel
        | 2, _ => decide +kernel
        | 3, _ => decide +kernel
      rw [← hy] at htk
      have hn10 : n = 6 + j := by rw [HN.out]; match j, hlt with | 0, _ => rfl | 1, _ => rfl | 2, _ => rfl | 3, _ => rfl
      have HVAL := Lib.hid hval
      have HTK := Lib.hid htk
      have hsmall : n ≤ 10 := by omega
      clear hval htk hy hn10
      go_wp2_with fail
      refine wp_region_kept 12 (fun b w' => w'.cell? ⟨w3.heap.size + 1, 0, none⟩ = some (.pointer (some ⟨w3.heap.size, 0, none⟩)) ∧ (b = false → w'.cell? ⟨w3.heap.size, 0, none⟩ = some (.slice sa n sc))) (by kernel_rfl) ⟨cT0, fun _ => cW0⟩ (fun hHeld => ?_)
      (refine wpAnyK_take (i := 0) (v := ?_) rfl (by rfl) (by kernel_rfl) (by kernel_rfl) (by kernel_rfl) (fun _ _ _ h => h) (Or.inl ⟨by rfl, ?_⟩) (by assumption) (fun hHeld => ?_); rotate_left; (· intro w hSw; obtain ⟨_, hSw, _⟩ := hSw; go_simp; (try with_reducible rfl)); (try simp only [Act.put, List.getElem_toArray, List.getElem_cons_zero, List.getElem_cons_succ, List.setIfInBounds_toArray, List.set_cons_zero, List.set_cons_succ]))
      (refine wpAnyK_take (i := 1) (v := ?_) rfl (by rfl) (by kernel_rfl) (by kernel_rfl) (by kernel_rfl) (fun _ _ _ h => h) (Or.inl ⟨by rfl, ?_⟩) (by assumption) (fun hHeld => ?_); rotate_left; (· intro w hSw; obtain ⟨_, hSw, _⟩ := hSw; go_simp; (try with_reducible rfl)); (try simp only [Act.put, List.getElem_toArray, List.getElem_cons_zero, List.getElem_cons_succ, List.setIfInBounds_toArray, List.set_cons_zero, List.set_cons_succ]))
      (refine wpAnyK_take (i := 2) (v := ?_) rfl (by rfl) (by kernel_rfl) (by kernel_rfl) (by kernel_rfl) (fun _ _ _ h => h) (Or.inl ⟨by rfl, ?_⟩) (by assumption) (fun hHeld => ?_); rotate_left; (· intro w hSw; obtain ⟨_, hSw, _⟩ := hSw; go_simp; (try with_reducible rfl)); (try simp only [Act.put, List.getElem_toArray, List.getElem_cons_zero, List.getElem_cons_succ, List.setIfInBounds_toArray, List.set_cons_zero, List.set_cons_succ]))
      (refine wpAnyK_take (i := 3) (v := ?_) rfl (by rfl) (by kernel_rfl) (by kernel_rfl) (by kernel_rfl) (fun _ _ _ h => h) (Or.inl ⟨by rfl, ?_⟩) (by assumption) (fun hHeld => ?_); rotate_left; (· intro w hSw; obtain ⟨_, hSw, _⟩ := hSw; go_simp; (try with_reducible rfl)); (try simp only [Act.put, List.getElem_toArray, List.getElem_cons_zero, List.getElem_cons_succ, List.setIfInBounds_toArray, List.set_cons_zero, List.set_cons_succ]))
      (refine wpAnyK_early (i := 4) (v := ?_) rfl (by rfl) (by kernel_rfl) (by kernel_rfl) (by kernel_rfl) (by kernel_rfl) (fun _ _ _ h => h) (Or.inl ⟨by rfl, ?_⟩) (by assumption) (fun hHeld => ?_); rotate_left; (· intro w hSw; obtain ⟨hS1, hS2⟩ := hSw; have hS3 := hS2 rfl; clear hS2; go_simp; (try with_reducible rfl)); (try simp only [Act.put, List.getElem_toArray, List.getElem_cons_zero, List.getElem_cons_succ, List.setIfInBounds_toArray, List.set_cons_zero, List.set_cons_succ]))
      (refine wpAnyK_take (i := 5) (v := ?_) rfl (by rfl) (by kernel_rfl) (by kernel_rfl) (by kernel_rfl) (fun _ _ _ h => h) (Or.inl ⟨by rfl, ?_⟩) (by assumption) (fun hHeld => ?_); rotate_left; (· intro w hSw; obtain ⟨_, hSw, _⟩ := hSw; go_simp; (try with_reducible rfl)); (try simp only [Act.put, List.getElem_toArray, List.getElem_cons_zero, List.getElem_cons_succ, List.setIfInBounds_toArray, List.set_cons_zero, List.set_cons_succ]))
      (refine wpAnyK_take (i := 6) (v := ?_) rfl (by rfl) (by kernel_rfl) (by kernel_rfl) (by kernel_rfl) (fun _ _ _ h => h) (Or.inl ⟨by rfl, ?_⟩) (by assumption) (fun hHeld => ?_); rotate_left; (· intro w hSw; obtain ⟨_, hSw, _⟩ := hSw; go_simp; (try with_reducible rfl)); (try simp only [Act.put, List.getElem_toArray, List.getElem_cons_zero, List.getElem_cons_succ, List.setIfInBounds_toArray, List.set_cons_zero, List.set_cons_succ]))
      (refine wpAnyK_take (i := 7) (v := ?_) rfl (by rfl) (by kernel_rfl) (by kernel_rfl) (by kernel_rfl) (fun _ _ _ h => h) (Or.inl ⟨by rfl, ?_⟩) (by assumption) (fun hHeld => ?_); rotate_left; (· intro w hSw; obtain ⟨_, hSw, _⟩ := hSw; go_simp; (try with_reducible rfl)); (try simp only [Act.put, List.getElem_toArray, List.getElem_cons_zero, List.getElem_cons_succ, List.setIfInBounds_toArray, List.set_cons_zero, List.set_cons_succ]))
      (refine wpAnyK_take (i := 8) (v := ?_) rfl (by rfl) (by kernel_rfl) (by kernel_rfl) (by kernel_rfl) (fun _ _ _ h => h) (Or.inl ⟨by rfl, ?_⟩) (by assumption) (fun hHeld => ?_); rotate_left; (· intro w hSw; obtain ⟨_, hSw, _⟩ := hSw; go_simp; (try with_reducible rfl)); (try simp only [Act.put, List.getElem_toArray, List.getElem_cons_zero, List.getElem_cons_succ, List.setIfInBounds_toArray, List.set_cons_zero, List.set_cons_succ]))
      (refine wpAnyK_take (i := 9) (v := ?_) rfl (by rfl) (by kernel_rfl) (by kernel_rfl) (by kernel_rfl) (fun _ _ _ h => h) (Or.inl ⟨by rfl, ?_⟩) (by assumption) (fun hHeld => ?_); rotate_left; (· intro w hSw; obtain ⟨_, hSw, _⟩ := hSw; go_simp; (try with_reducible rfl)); (try simp only [Act.put, List.getElem_toArray, List.getElem_cons_zero, List.getElem_cons_succ, List.setIfInBounds_toArray, List.set_cons_zero, List.set_cons_succ]))
      (refine wpAnyK_take (i := 10) (v := ?_) rfl (by rfl) (by kernel_rfl) (by kernel_rfl) (by kernel_rfl) (fun _ _ _ h => h) (Or.inl ⟨by rfl, ?_⟩) (by assumption) (fun hHeld => ?_); rotate_left; (· intro w hSw; obtain ⟨_, hSw, _⟩ := hSw; go_simp; (try with_reducible rfl)); (try simp only [Act.put, List.getElem_toArray, List.getElem_cons_zero, List.getElem_cons_succ, List.setIfInBounds_toArray, List.set_cons_zero, List.set_cons_succ]))
      rw [HVAL.out]
      refine wpAnyK_step (i := 11) rfl (by kernel_rfl) (fun K' hK => ?_)
      go_simp
      refine hK.out _ _ ⟨(bRdCell (bAlloc (Below.refl _ _) _) _ hzT 0).trans cT0, fun _ => (bRdCell (bAlloc (Below.refl _ _) _) _ hzW 0).trans cW0⟩ (fun hHeld => ?_)
      (try simp only [Act.put, List.getElem_toArray, List.getElem_cons_zero, List.getElem_cons_succ, List.setIfInBounds_toArray, List.set_cons_zero, List.set_cons_succ])
      refine wpAnyK_step (i := 12) rfl (by kernel_rfl) (fun K2 hK2 => ?_)
      refine step_append_lies _ (by rfl) _ _ 23 (by rfl) w.heap.size 5 i0 (.int .u8 0) 1 1 Tryz.underlying23 hin iz0 iz1 iz2 rfl (by decide) (.slice sa n sc) n (([100, 109, 116, 1, 0, 0] ++ tailB.take j).map byteV) (by rfl) ((HOWN.out.alloc (.cells #[.int .u8 y.toNat] 5)).drew)
        ⟨wr.heap.size, 0, none⟩ 1 1 [.int .u8 y.toNat] (by rfl) (by simp) (World.news_of_block (cs := #[.int .u8 y.toNat]) (t := 5) (fr := (0, 0)) (heap_alloc_new wr _)) (by simp [Value.oneCell']) (by decide) (by unfold maxLen; omega) (by omega) (by simp; omega) _ rfl ?_
      intro gg cap w7 hown7 hgrow hat hlt7
      have hA := HOWN.out.alloc (.cells #[.int .u8 y.toNat] 5)
      have rW := (Below.heap_alloc wr (.cells #[.int .u8 y.toNat] 5) _ hzW).trans HROW.out
      have rT := (Below.heap_alloc wr (.cells #[.int .u8 y.toNat] 5) _ hzT).trans HT.out
      have h7W := (hgrow.block _ (Array.getElem?_eq_some_iff.1 rW).1 (own_ne hA rW writer_ne)).trans rW
      have h7T := (hgrow.block _ (Array.getElem?_eq_some_iff.1 rT).1 (own_ne hA rT ptr_ne)).trans rT
      have f7W : ∀ j, w7.frozen? ⟨w3.heap.size, j, none⟩ = false := fun j => frozen_of_row w7 _ j _ _ h7W
      have c7W := bRow h7W
      have c7T := bRow h7T
      have HO7 := Lib.hid hown7
      have H7W := Lib.hid h7W
      have H7T := Lib.hid h7T
      have HB7 := Lib.hid ((HB.out.alloc hsz (.cells #[.int .u8 y.toNat] 5)).drew.grown hgrow (by simp; omega) (fun k hk => (hA.lt k hk).1))
      clear hA rW rT h7W h7T hown7
      refine hK2.out _ _ ⟨c7T 0, fun h => by cases h⟩ (fun hHeld => ?_)
      (try simp only [Act.put, List.getElem_toArray, List.getElem_cons_zero, List.getElem_cons_succ, List.setIfInBounds_toArray, List.set_cons_zero, List.set_cons_succ])
      (refine wpAnyK_take (i := 13) (v := ?_) rfl (by rfl) (by kernel_rfl) (by kernel_rfl) (by kernel_rfl) (fun _ _ _ h => h) (Or.inl ⟨by rfl, ?_⟩) (by assumption) (fun hHeld => ?_); rotate_left; (· intro w hSw; obtain ⟨_, hSw, _⟩ := hSw; go_simp; (try with_reducible rfl)); (try simp only [Act.put, List.getElem_toArray, List.getElem_cons_zero, List.getElem_cons_succ, List.setIfInBounds_toArray, List.set_cons_zero, List.set_cons_succ]))
      (refine wpAnyK_take (i := 14) (v := ?_) rfl (by rfl) (by kernel_rfl) (by kernel_rfl) (by kernel_rfl) (fun _ _ _ h => h) (Or.inl ⟨by rfl, ?_⟩) (by assumption) (fun hHeld => ?_); rotate_left; (· intro w hSw; obtain ⟨_, hSw, _⟩ := hSw; go_simp; (try with_reducible rfl)); (try simp only [Act.put, List.getElem_toArray, List.getElem_cons_zero, List.getElem_cons_succ, List.setIfInBounds_toArray, List.set_cons_zero, List.set_cons_succ]))
      refine wpAnyK_step (i := 15) rfl (by kernel_rfl) (fun K3 hK3 => ?_)
      go_simp
      refine hK3.out _ _ ⟨(World.cell?_setCell_far _ _ _ _ (by simp)).trans (c7T 0), fun h => by cases h⟩ (fun hHeld => ?_)
      refine wpAnyK_done (by kernel_rfl) ?_ _
      go_wp2_with fail
      go_roundw
      case rel =>
        refine ⟨j + 1, by omega, by go_num, ⟨hBW, ?_, some ⟨gg, 0, none⟩, cap, ?_, ?_⟩, ?_, ?_⟩
        · have := HB7.out.size; simp; omega
        · rw [heap_setCell_same _ _ _ _ _ _ H7W.out, HTK.out]; simp [HN.out]
        · have h := ownsRow_setCell_other (a := ⟨w3.heap.size, 0, none⟩) HO7.out (Ne.symm (own_ne HO7.out H7W.out writer_ne)) (.slice (some ⟨gg, 0, none⟩) (n + 1) cap)
          rw [HTK.out]
          have hl : ([100, 109, 116, 1, 0, 0] ++ (tailB.take j ++ [y])).length = n + 1 := by rw [HN.out]; simp
          rw [hl]
          simpa using h
        · exact HB7.out.setCell hBW _
        · rw [Below.heap_setCell _ _ _ _ (by simp)]; exact H7T.out
      case measure => simp [intOf]; omega
    · have : j = 4 := by omega
      subst this
      go_wp2_with fail
      go_ret
      have hl : n = 10 := HN.out
      subst hl
      exact ⟨HB.out, sa, sc, rfl, HOWN.out⟩
end Go.Proofs.YtligbbhdbpjdjaaGreatDoor
