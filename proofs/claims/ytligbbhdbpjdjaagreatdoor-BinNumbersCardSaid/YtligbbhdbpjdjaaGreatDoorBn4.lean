/- The writer of package bin: what it writes. -/
import Derived.Test.YtligbbhdbpjdjaaGreatDoorBnK
import Derived.OneCell
namespace Go.Proofs.YtligbbhdbpjdjaaGreatDoor
open Go Go.RowKit Go.Sort
set_option linter.unusedVariables false
set_option linter.unusedSimpArgs false

/-- A writer at block Wb has written these bytes, in memory from B on. -/
def Wrote (B Wb : Nat) (mv : Value) (bs : List UInt8) (w : World) : Prop :=
  B ≤ Wb ∧ B ≤ w.heap.size ∧ ∃ sa sc, w.heap[Wb]? = some (.cells #[.slice sa bs.length sc, mv] 72 (0, 0)) ∧ w.ownsRow B 5 1 (.slice sa bs.length sc) bs.length (bs.map byteV)
/-- What is neither the writer's nor bytes is as it was. -/
def KeptBut (Wb : Nat) (w w' : World) : Prop := ∀ b o, w.heap[b]? = some o → b ≠ Wb → (∀ cs, o ≠ .cells cs 5 (0, 0)) → w'.heap[b]? = some o
theorem KeptBut.refl (Wb : Nat) (w : World) : KeptBut Wb w w := fun _ _ h _ _ => h
theorem KeptBut.trans {Wb : Nat} {a b c : World} (h : KeptBut Wb a b) (k : KeptBut Wb b c) : KeptBut Wb a c := fun i o ho hi hc => k i o (h i o ho hi hc) hi hc
def PutPost (B Wb : Nat) (mv : Value) (bs : List UInt8) (w : World) (e : Ending) (w' : World) : Prop :=
  e = .returned (.tuple #[]) ∧ Wrote B Wb mv bs w' ∧ Below B w w' ∧ KeptBut Wb w w'

theorem own_ne {W : World} {base : Nat} {v : Value} {n : Nat} {xs : List Value} (h : W.ownsRow base 5 1 v n xs) {b : Nat} {o : Obj} (hb : W.heap[b]? = some o) (ho : ∀ cs, o ≠ .cells cs 5 (0, 0)) : some b ≠ v.ownBlock := by
  rcases h.2 with ⟨rfl, h2⟩ | ⟨g, cap, cur, rfl, h2, h3, h4⟩
  · simp [Value.ownBlock]
  · intro he
    simp only [Value.ownBlock, Option.some.injEq] at he
    subst he
    rw [h3] at hb
    cases hb
    exact ho _ rfl
theorem kept_grown {w w' : World} {Wb : Nat} {base : Nat} {v : Value} {n : Nat} {xs : List Value} (h : w.ownsRow base 5 1 v n xs) (hg : w.grownBy w' v.ownBlock) : KeptBut Wb w w' := fun b o ho _ hc =>
  (hg.block b (Array.getElem?_eq_some_iff.1 ho).1 (own_ne h ho hc)).trans ho
theorem kept_below {w w' : World} {Wb : Nat} (h : Below w.heap.size w w') : KeptBut Wb w w' := fun b o ho _ _ => (h.block b (Array.getElem?_eq_some_iff.1 ho).1).trans ho
theorem kept_set {w : World} {Wb j : Nat} {u : Value} : KeptBut Wb w (w.setCell ⟨Wb, j, none⟩ u) := fun b o ho hb _ => (Below.heap_setCell w ⟨Wb, j, none⟩ u b hb).trans ho
theorem writer_ne {a : Array Value} : ∀ cs, Obj.cells a 72 (0, 0) ≠ .cells cs 5 (0, 0) := fun cs h => by injection h with _ h2; exact absurd h2 (by decide)
set_option maxRecDepth 100000 in
set_option maxHeartbeats 4000000 in
theorem put_b (B Wb Ab : Nat) (mv : Value) (bs : List UInt8) (k : Nat) (hk : k < 9223372036854775808) (w : World) (hlen : bs.length ≤ 1000000)
    (hw : Wrote B Wb mv bs w) (hab : w.cell? ⟨Ab, 0, none⟩ = some (.int .i64 k)) :
    Calls Tryz.prog 33 #[.pointer (some ⟨Wb, 0, none⟩), .slice (some ⟨Ab, 0, none⟩) 1 1] w (PutPost B Wb mv (bs ++ numB k) w) := by
  obtain ⟨hB, hBw, sa, sc, hwb, hown⟩ := hw
  obtain ⟨i0, hin, hz0, hz1, hz2⟩ := info_parts (show (Tryz.prog.info? 5).map (fun i => (i.zero, i.size, i.bytes)) = some (some (.int .u8 0), 1, 1) by kernel_rfl)
  have cW0 : w.cell? ⟨Wb, 0, none⟩ = some (.slice sa bs.length sc) := bRow hwb 0
  have hk' : (k : Int) < 9223372036854775808 := by omega
  have HOWN := Lib.hid hown
  have HWB := Lib.hid hwb
  have hlt := (Array.getElem?_eq_some_iff.1 hwb).1
  clear hown hwb
  go_enter Tryz.func33, Tryz.ntmps33
  go_wp2_with fail
  go_loopw [8] (fun iv wr => (iv = .int .i64 0 ∧ wr = w) ∨ (iv = .int .i64 1 ∧ RowKit.Hid (PutPost B Wb mv (bs ++ numB k) w (.returned (.tuple #[])) wr))) (fun iv _ => 1 - (intOf iv).toNat)
  case atStart => exact .inl ⟨rfl, rfl⟩
  case round =>
    rcases hrel with ⟨rfl, rfl⟩ | ⟨rfl, h⟩
    · go_wp2_with fail
      refine wp_region_kept 8 (fun b w' => match b with | false => w'.cell? ⟨Wb, 0, none⟩ = some (.slice sa bs.length sc) | true => True) (by kernel_rfl) cW0 (fun hHeld => ?_)
      (refine wpAnyK_take (i := 0) (v := ?_) rfl (by rfl) (by kernel_rfl) (by kernel_rfl) (by kernel_rfl) (fun _ _ _ h => h) (Or.inl ⟨by rfl, ?_⟩) (by assumption) (fun hHeld => ?_); rotate_left; (· intro w hSw; go_simp; (try with_reducible rfl)); (try simp only [Act.put, List.getElem_toArray, List.getElem_cons_zero, List.getElem_cons_succ, List.setIfInBounds_toArray, List.set_cons_zero, List.set_cons_succ]))
      (refine wpAnyK_take (i := 1) (v := ?_) rfl (by rfl) (by kernel_rfl) (by kernel_rfl) (by kernel_rfl) (fun _ _ _ h => h) (Or.inl ⟨by rfl, ?_⟩) (by assumption) (fun hHeld => ?_); rotate_left; (· intro w hSw; go_simp; (try with_reducible rfl)); (try simp only [Act.put, List.getElem_toArray, List.getElem_cons_zero, List.getElem_cons_succ, List.setIfInBounds_toArray, List.set_cons_zero, List.set_cons_succ]))
      (refine wpAnyK_take (i := 2) (v := ?_) rfl (by rfl) (by kernel_rfl) (by kernel_rfl) (by kernel_rfl) (fun _ _ _ h => h) (Or.inl ⟨by rfl, ?_⟩) (by assumption) (fun hHeld => ?_); rotate_left; (· intro w hSw; go_simp; (try with_reducible rfl)); (try simp only [Act.put, List.getElem_toArray, List.getElem_cons_zero, List.getElem_cons_succ, List.setIfInBounds_toArray, List.set_cons_zero, List.set_cons_succ]))
      (refine wpAnyK_take (i := 3) (v := ?_) rfl (by rfl) (by kernel_rfl) (by kernel_rfl) (by kernel_rfl) (fun _ _ _ h => h) (Or.inl ⟨by rfl, ?_⟩) (by assumption) (fun hHeld => ?_); rotate_left; (· intro w hSw; go_simp; (try with_reducible rfl)); (try simp only [Act.put, List.getElem_toArray, List.getElem_cons_zero, List.getElem_cons_succ, List.setIfInBounds_toArray, List.set_cons_zero, List.set_cons_succ]))
      (refine wpAnyK_early (i := 4) (v := ?_) rfl (by rfl) (by kernel_rfl) (by kernel_rfl) (by kernel_rfl) (by kernel_rfl) (fun _ _ _ h => h) (Or.inl ⟨by rfl, ?_⟩) (by assumption) (fun hHeld => ?_); rotate_left; (· intro w hSw; (try dsimp only at hSw); go_simp; (try with_reducible rfl)); (try simp only [Act.put, List.getElem_toArray, List.getElem_cons_zero, List.getElem_cons_succ, List.setIfInBounds_toArray, List.set_cons_zero, List.set_cons_succ]))
      (refine wpAnyK_take (i := 5) (v := ?_) rfl (by rfl) (by kernel_rfl) (by kernel_rfl) (by kernel_rfl) (fun _ _ _ h => h) (Or.inl ⟨by rfl, ?_⟩) (by assumption) (fun hHeld => ?_); rotate_left; (· intro w hSw; go_simp; (try with_reducible rfl)); (try simp only [Act.put, List.getElem_toArray, List.getElem_cons_zero, List.getElem_cons_succ, List.setIfInBounds_toArray, List.set_cons_zero, List.set_cons_succ]))
      (refine wpAnyK_take (i := 6) (v := ?_) rfl (by rfl) (by kernel_rfl) (by kernel_rfl) (by kernel_rfl) (fun _ _ _ h => h) (Or.inl ⟨by rfl, ?_⟩) (by assumption) (fun hHeld => ?_); rotate_left; (· intro w hSw; go_simp; (try with_reducible rfl)); (try simp only [Act.put, List.getElem_toArray, List.getElem_cons_zero, List.getElem_cons_succ, List.setIfInBounds_toArray, List.set_cons_zero, List.set_cons_succ]))
      refine wpAnyK_step (i := 7) rfl (by kernel_rfl) (fun K' hK => ?_)
      go_simp
      go_at_call 5
      rw [wrap_small (q := k) (by omega)]
      refine (number_b k (by omega) _).mono ?_
      rintro e w2 ⟨hb2, sa2, sc2, rfl, hown2⟩
      dsimp only
      have hb2 : Below wr.heap.size wr w2 := ⟨hb2.os, hb2.tape, hb2.output, hb2.size, hb2.block⟩
      have h2W : w2.heap[Wb]? = _ := (hb2.block Wb hlt).trans HWB.out
      have hown2' : w2.ownsRow B _ 1 _ _ _ := bOwn_below (W := wr) HOWN.out hb2
      have hln := numB_len64 (n := k) (by omega)
      have hps : 0 < (numB k).length := List.length_pos_iff.2 (numB_ne k)
      obtain ⟨g2, rfl, hg2, hg2', hcells⟩ := own_some hown2 hps
      have hsz2 : wr.heap.size ≤ w2.heap.size := hb2.size
      have HC := Lib.hid hcells
      have HO := Lib.hid hown2'
      have HW2 := Lib.hid h2W
      clear hcells hown2' h2W hown2
      refine hK.out _ _ ((bRdCell hb2 Wb hlt 0).trans cW0) (fun hHeld => ?_)
      (try simp only [Act.put, List.getElem_toArray, List.getElem_cons_zero, List.getElem_cons_succ, List.setIfInBounds_toArray, List.set_cons_zero, List.set_cons_succ])
      refine wpAnyK_step (i := 8) rfl (by kernel_rfl) (fun K2 hK2 => ?_)
      refine step_append_lies _ (by rfl) _ _ 23 (by rfl) B 5 i0 (.int .u8 0) 1 1 Tryz.underlying23 hin hz0 hz1 hz2 rfl (by decide) (.slice sa bs.length sc) bs.length (bs.map byteV) (by rfl) HO.out
        ⟨g2, 0, none⟩ (numB k).length sc2 ((numB k).map byteV) (by rfl) (by simp) HC.out (by intro u hu; simp only [List.mem_map] at hu; obtain ⟨x, -, rfl⟩ := hu; rfl) hps (by unfold maxLen; omega) (by omega) (by omega) _ rfl ?_
      intro gg cap w3 hown3 hgrow hat hlt3
      have h3W : w3.heap[Wb]? = _ := (hgrow.block Wb (Array.getElem?_eq_some_iff.1 HW2.out).1 (own_ne HO.out HW2.out writer_ne)).trans HW2.out
      have f3W : ∀ j, w3.frozen? ⟨Wb, j, none⟩ = false := fun j => frozen_of_row w3 Wb j _ _ h3W
      have c3W := bRow h3W
      have HOWN3 := Lib.hid hown3
      have H3W := Lib.hid h3W
      have HB3 := Lib.hid ((hb2.mono (B' := B) hBw).grown hgrow (by omega) (fun k hk => (HO.out.lt k hk).1))
      have HK3 := Lib.hid (((kept_below hb2 : KeptBut Wb wr w2)).trans (kept_grown HO.out hgrow))
      clear hown3 h3W
      refine hK2.out _ _ trivial (fun _ => ?_)
      (try simp only [Act.put, List.getElem_toArray, List.getElem_cons_zero, List.getElem_cons_succ, List.setIfInBounds_toArray, List.set_cons_zero, List.set_cons_succ])
      (refine wpAnyK_take (i := 9) (v := ?_) rfl (by rfl) (by kernel_rfl) (by kernel_rfl) (by kernel_rfl) (fun _ _ _ h => h) (Or.inl ⟨by rfl, ?_⟩) (by assumption) (fun hHeld => ?_); rotate_left; (· intro w hSw; go_simp; (try with_reducible rfl)); (try simp only [Act.put, List.getElem_toArray, List.getElem_cons_zero, List.getElem_cons_succ, List.setIfInBounds_toArray, List.set_cons_zero, List.set_cons_succ]))
      (refine wpAnyK_take (i := 10) (v := ?_) rfl (by rfl) (by kernel_rfl) (by kernel_rfl) (by kernel_rfl) (fun _ _ _ h => h) (Or.inl ⟨by rfl, ?_⟩) (by assumption) (fun hHeld => ?_); rotate_left; (· intro w hSw; go_simp; (try with_reducible rfl)); (try simp only [Act.put, List.getElem_toArray, List.getElem_cons_zero, List.getElem_cons_succ, List.setIfInBounds_toArray, List.set_cons_zero, List.set_cons_succ]))
      refine wpAnyK_step (i := 11) rfl (by kernel_rfl) (fun K3 hK3 => ?_)
      go_simp
      refine hK3.out _ _ trivial (fun _ => ?_)
      refine wpAnyK_done (by kernel_rfl) ?_ _
      go_wp2_with fail
      go_roundw
      case rel =>
        refine .inr ⟨rfl, rfl, ⟨hB, ?_, some ⟨gg, 0, none⟩, cap, ?_, ?_⟩, ?_, ?_⟩
        · have := HB3.out.size; simp; omega
        · rw [heap_setCell_same _ _ _ _ _ _ H3W.out]; simp
        · have h := ownsRow_setCell_other (a := ⟨Wb, 0, none⟩) HOWN3.out (Ne.symm (own_ne HOWN3.out H3W.out writer_ne)) (.slice (some ⟨gg, 0, none⟩) (bs.length + (numB k).length) cap)
          simpa using h
        · exact HB3.out.setCell hB _
        · exact HK3.out.trans kept_set
      case measure => simp [intOf]
    · go_wp2_with fail
      go_end0
      exact h
end Go.Proofs.YtligbbhdbpjdjaaGreatDoor
