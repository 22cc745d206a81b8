/- The reader of package bin takes bytes. -/
import Derived.Test.YtligbbhdbpjdjaaGreatDoorBn4
import Derived.Deep.OwnRows
import Derived.Laws.CopyOwn
namespace Go.Proofs.YtligbbhdbpjdjaaGreatDoor
open Go Go.RowKit Go.Sort
set_option linter.unusedVariables false
set_option linter.unusedSimpArgs false

def ReadsAt (Rb : Nat) (a : Addr) (len cap : Nat) (tx dv : Value) (w : World) : Prop := w.heap[Rb]? = some (.cells #[.slice (some a) len cap, tx, .bool false, dv] 52 (0, 0))
def KeptR (Rb : Nat) (w w' : World) : Prop := w.heap.size ≤ w'.heap.size ∧ (∀ b o, w.heap[b]? = some o → b ≠ Rb → w'.heap[b]? = some o) ∧ ∀ B, B ≤ Rb → B ≤ w.heap.size → Below B w w'
theorem KeptR.trans {Rb : Nat} {a b c : World} (h : KeptR Rb a b) (k : KeptR Rb b c) : KeptR Rb a c :=
  ⟨Nat.le_trans h.1 k.1, fun i o ho hi => k.2.1 i o (h.2.1 i o ho hi) hi, fun B h1 h2 => (h.2.2 B h1 h2).trans (k.2.2 B h1 (Nat.le_trans h2 h.1))⟩
theorem KeptR.refl (Rb : Nat) (w : World) : KeptR Rb w w := ⟨Nat.le_refl _, fun _ _ h _ => h, fun B _ _ => Below.refl _ _⟩
theorem KeptR.below {Rb : Nat} {w w' : World} (h : Below w.heap.size w w') : KeptR Rb w w' := ⟨h.size, fun b o ho _ => (h.block b (Array.getElem?_eq_some_iff.1 ho).1).trans ho, fun B _ h2 => h.mono h2⟩

set_option maxRecDepth 100000 in
set_option maxHeartbeats 4000000 in
theorem take_b (Rb g off n len cap : Nat) (tx dv : Value) (bs : List UInt8) (w : World) (hn : bs.length = n) (hpos : 0 < n) (hlt : n < len) (hlc : len ≤ cap) (hcap : cap ≤ 1000000) (hgR : g ≠ Rb)
    (hr : ReadsAt Rb ⟨g, off, none⟩ len cap tx dv w) (hbs : ∀ j (hj : j < bs.length), w.cell? ⟨g, off + j, none⟩ = some (byteV bs[j])) :
    Calls Tryz.prog 22 #[.pointer (some ⟨Rb, 0, none⟩), .int .i64 n] w fun e w' => ∃ sa sc, e = .returned (.slice sa n sc) ∧ ByteSl w' sa bs ∧ ReadsAt Rb ⟨g, off + n, none⟩ (len - n) (cap - n) tx dv w' ∧ KeptR Rb w w' := by
  have cR0 := bRow hr 0
  have cR2 := bRow hr 2
  simp only [List.getElem?_toArray, List.getElem?_cons_zero, List.getElem?_cons_succ] at cR0 cR2
  have fR : ∀ j, w.frozen? ⟨Rb, j, none⟩ = false := fun j => frozen_of_row w Rb j _ _ hr
  have hzR := (Array.getElem?_eq_some_iff.1 hr).1
  have HR := Lib.hid hr
  have HBS := Lib.hid hbs
  have hn0 : (0 : Int) ≤ (n : Int) := Int.natCast_nonneg _
  have hnl : (n : Int) ≤ (len : Int) := by omega
  have hnc : (n : Int) ≤ (cap : Int) := by omega
  have hmk := run_make_row' (P := Tryz.prog) 23 5 (.int .u8 0) 1 Tryz.underlying23 (by kernel_rfl) rfl .i64 .i64 n (by omega) (by omega) w
  have hcp := run_copy_row (P := Tryz.prog) (w.alloc (.cells (madeCells #[.int .u8 0] n) 5)) 23 23 3 5 w.heap.size 0 n n ⟨g, off, none⟩ n n (madeCells #[.int .u8 0] n) 5 (bs.map byteV) Tryz.underlying23 (by kernel_rfl) (heap_alloc_new _ _) (by rw [List.length_map, hn]; exact (Nat.min_self n).symm)
    (by
      intro t u hj
      have hadd : (⟨g, off, none⟩ : Addr).add t = ⟨g, off + t, none⟩ := by unfold Addr.add; simp
      rw [hadd]
      rw [List.getElem?_map] at hj
      obtain ⟨x, hx, rfl⟩ := Option.map_eq_some_iff.1 hj
      obtain ⟨hl, rfl⟩ := List.getElem?_eq_some_iff.1 hx
      have h := HBS.out t hl
      exact (bRdCell (bAlloc (Below.refl w.heap.size w) _) g (World.block_lt_of_cell? w _ h) (off + t)).trans h)
    (by simp [madeCells, hn]) (by intro u hu; simp only [List.mem_map] at hu; obtain ⟨x, -, rfl⟩ := hu; rfl)
  generalize hw3 : World.setRow _ _ _ = w3 at hcp
  have hown3 : w3.heap[w.heap.size]? = some (.cells (bs.map byteV).toArray 5 (0, 0)) := by
    rw [← hw3, setRow_heap _ _ _ _ 5 (0, 0) (heap_alloc_new _ _)]
    simp [madeCells, hn]
  have h3R : w3.heap[Rb]? = some (.cells #[.slice (some ⟨g, off, none⟩) len cap, tx, .bool false, dv] 52 (0, 0)) := by
    rw [← hw3]
    exact (setRow_other _ _ _ _ (by omega)).trans ((Below.heap_alloc _ _ _ hzR).trans HR.out)
  have hk3 : KeptR Rb w w3 := by
    rw [← hw3]
    exact KeptR.below (below_setRow (bAlloc (Below.refl w.heap.size w) _) (Nat.le_refl _) _)
  have c3R0 := bRow h3R 0
  simp only [List.getElem?_toArray, List.getElem?_cons_zero, List.getElem?_cons_succ] at c3R0
  have f3R : ∀ j, w3.frozen? ⟨Rb, j, none⟩ = false := fun j => frozen_of_row w3 Rb j _ _ h3R
  have HO3 := Lib.hid hown3
  have H3R := Lib.hid h3R
  have HK3 := Lib.hid hk3
  clear hw3 hown3 h3R hk3
  clear hr hbs
  go_enter Tryz.func22, Tryz.ntmps22
  go_wp2_with fail
  go_ret
  refine ⟨some ⟨w.heap.size, 0, none⟩, n, rfl, ?_, ?_, ?_⟩
  · have hz := (Array.getElem?_eq_some_iff.1 HO3.out).1
    refine .inr ⟨w.heap.size, 0, rfl, by simpa using hz, fun j hj => ?_⟩
    refine (World.cell?_setCell_far _ _ _ _ (by simp; omega)).trans ?_
    rw [Nat.zero_add, bRow HO3.out]
    simp [hj]
  · unfold ReadsAt
    rw [heap_setCell_same _ _ _ _ _ _ H3R.out]
    simp
  · exact HK3.out.trans ⟨by simp, fun b o ho hb => (Below.heap_setCell w3 ⟨Rb, 0, none⟩ _ b hb).trans ho, fun B h1 _ => (Below.refl B w3).setCell h1 _⟩
end Go.Proofs.YtligbbhdbpjdjaaGreatDoor
