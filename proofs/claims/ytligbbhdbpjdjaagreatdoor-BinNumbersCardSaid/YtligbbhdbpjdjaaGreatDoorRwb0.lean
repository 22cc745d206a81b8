/- What every row of this seat uses: bin.head as the row lays it. -/
import Derived.Test.YtligbbhdbpjdjaaGreatDoorBnD
import Derived.Test.YtligbbhdbpjdjaaGreatDoorCards
import Derived.Test.YtligbbhdbpjdjaaGreatDoorTie
import Derived.WalkKit
import Derived.ProofKit
import Derived.OpenShut
import Derived.SizedLaws
import Derived.ChangeSlices
import Derived.Deep.DeepHandedRow
import Derived.Deep.DeepWitnessRowRef
import Derived.Lib.LaidU8
namespace Go.Proofs.YtligbbhdbpjdjaaGreatDoor
open Go.ChangeShapes Go.WideShapes Go.ChangeAt Go.RowKit
set_option linter.unusedVariables false
set_option linter.unusedSimpArgs false

theorem own : ownKnob Tryz.prog.godebug = none := by kernel_rfl
abbrev laidList : List (String × DataW Unit) := Rows.binReadsRow.laid
theorem addr_plain {W : World} {a : Addr} {n : Nat} {f : Nat → Value} (hcell : ∀ i, i < n → W.cell? (a.add i) = some (f i)) (hn : 0 < n) : ∃ g off, a = ⟨g, off, none⟩ ∧ g < W.heap.size ∧ ∀ j, j < n → W.cell? ⟨g, off + j, none⟩ = some (f j) := by
  obtain ⟨g, off, vw⟩ := a
  have h0 := hcell 0 hn
  have hvw : vw = none ∧ g < W.heap.size := by
    cases hb : W.heap[g]? with
    | none => cases vw <;> simp [World.cell?, Addr.add, hb] at h0
    | some o =>
      refine ⟨?_, (Array.getElem?_eq_some_iff.1 hb).1⟩
      cases vw with
      | none => rfl
      | some u => cases o <;> simp [World.cell?, Addr.add, hb] at h0
  obtain ⟨rfl, hg⟩ := hvw
  refine ⟨g, off, rfl, hg, fun j hj => ?_⟩
  have had : (Addr.mk g off none).add j = ⟨g, off + j, none⟩ := by
    unfold Addr.add; split
    · rename_i h; subst h; rfl
    · rfl
  rw [← had]; exact hcell j hj
theorem head_of {W : World} (h : laidMetH Tryz.prog laidList W) : HeadAt W := by
  have h : laidMet Tryz.prog laidList W := h
  obtain ⟨g, t, cs, fuel, p, h1, h2, h3, h4⟩ := Lib.laidMet.reads h (n := "demotic/bin.head") (d := Rows.laid_demotic_bin_head) (List.mem_cons_of_mem _ (List.mem_cons_of_mem _ (List.mem_cons_of_mem _ (List.mem_cons_self ..))))
  obtain rfl : g = 0 := Option.some.inj (h1.symm.trans (by kernel_rfl))
  obtain rfl : t = 23 := Option.some.inj (h2.symm.trans (by kernel_rfl))
  rcases open_ints Tryz.underlying23 Tryz.underlying5 (by kernel_rfl) h4 with ⟨_, hx⟩ | ⟨a, len, cap, zs, hcs, -, hl, hm, hz, hx, hcell, hw⟩
  · simp [Rows.laid_demotic_bin_head] at hx
  · have h5 := congrArg Prod.fst hx
    simp only [if_true] at hz
    simp only [Rows.laid_demotic_bin_head, lits, DataW.slice.injEq] at h5
    obtain ⟨h6, h7⟩ := h5
    have hdz : zs.length ≤ len := by
      have := congrArg List.length h7
      simp at this
      omega
    rw [List.take_of_length_le hdz] at h6
    have hz4 : zs = [100, 109, 116, 1] := by
      rcases zs with _ | ⟨z0, _ | ⟨z1, _ | ⟨z2, _ | ⟨z3, _ | ⟨z4, r⟩⟩⟩⟩⟩ <;> simp at h6
      obtain ⟨rfl, rfl, rfl, rfl⟩ := h6
      rfl
    subst hz4
    have hc4 : cap = 4 := by simpa using hz.symm
    have hl4 : len = 4 := by simp at hdz; omega
    subst hl4
    obtain ⟨g, off, rfl, hg, hcl⟩ := addr_plain hcell (by decide)
    have h8 : W.cell? ⟨0, 0, none⟩ = some (.slice (some ⟨g, off, none⟩) 4 cap) := by
      have := World.var?_cell h1 h3 0
      rw [this]
      have h9 : cs = #[.slice (some ⟨g, off, none⟩) 4 cap] := Array.ext' hcs
      rw [h9]; rfl
    refine ⟨g, off, cap, h8, World.block_lt_of_cell? W _ h8, .inr ⟨g, off, rfl, hg, fun j hj => ?_⟩⟩
    have hj4 : j < 4 := hj
    rw [hcl j hj4]
    match j, hj4 with
    | 0, _ => rfl
    | 1, _ => rfl
    | 2, _ => rfl
    | 3, _ => rfl
/-- A datum's cells. -/
def flat : DataW Unit → List Value
  | .lit (.int k n) => [.int k n]
  | .agg l => flats l
  | _ => []
where flats : List (DataW Unit) → List Value
  | [] => []
  | x :: l => flat x ++ flats l
noncomputable def layOne (w : World) (x : String × DataW Unit) : World :=
  match Tryz.prog.globalNamed x.1 with
  | some g => { w with heap := w.heap.modify g fun
      | .cells _ t frozen => .cells (flat x.2).toArray t frozen
      | o => o }
  | none => w
noncomputable def layHead (w : World) : World :=
  { w with heap := (w.heap.modify 0 fun
      | .cells _ t frozen => .cells #[.slice (some ⟨w.heap.size, 0, none⟩) 4 4] t frozen
      | o => o).push (.cells #[.int .u8 100, .int .u8 109, .int .u8 116, .int .u8 1] 5 (0, 0)) }
/-- A WORLD FOR THE WITNESS: the settled one, the tables holding what their initialisers lay. -/
noncomputable def laidWorld (os : Os) : World := layHead ((laidList.take 3).foldl layOne (World.holding Tryz.prog os ⟨#[], #[], []⟩))
section
variable {H : Type} {enc : TypeId × Value → H} {W : World}
theorem bytes_of {t e : TypeId} {a : Option Addr} {n c : Nat} {d : DataW H} {p : List MemPlace} (ht : Tryz.prog.underlying t = some (.slice e)) (he : Tryz.prog.underlying e = some (.int .u8)) (hc : Tryz.prog.cellsOf e = 1)
    (hx : DataW.Trod enc Tryz.prog W 0 (fun _ => true) true t (.slice a n c) d p) : ∃ bs : List UInt8, n = bs.length ∧ ByteSl W a bs ∧ bs.length ≤ 9223372036854775807 := by
  obtain ⟨fuel, hf⟩ := hx
  rcases open_ints ht he hc hf with ⟨hcs, hx⟩ | ⟨a1, len, cap, zs, hcs, -, hl, hm, hz, hx, hcell, hwz⟩
  · simp [Value.cells] at hcs
    obtain ⟨rfl, rfl, rfl⟩ := hcs
    exact ⟨[], rfl, .inl rfl, by simp⟩
  · simp [Value.cells] at hcs
    obtain ⟨rfl, rfl, rfl⟩ := hcs
    have hz' : zs.length = c := by simpa using hz
    have hml : maxLen = 9223372036854775807 := rfl
    refine ⟨(zs.take n).map fun z => UInt8.ofNat z.toNat, by simp; omega, ?_, by simp; omega⟩
    rcases Nat.eq_zero_or_pos n with rfl | hpos
    · exact .inl rfl
    · obtain ⟨g, off, rfl, hg, hcl⟩ := addr_plain hcell (by omega)
      refine .inr ⟨g, off, rfl, hg, fun j hj => ?_⟩
      have hj' : j < n := by simp at hj; omega
      have hjz : j < zs.length := by omega
      rw [hcl j hjz]
      have hw := hwz zs[j] (List.getElem_mem hjz)
      have hb : 0 ≤ zs[j] ∧ zs[j] < 256 := by
        have := bounds_u8 hw
        omega
      have hgd : zs.getD j 0 = zs[j] := by rw [List.getD_eq_getElem?_getD, List.getElem?_eq_getElem hjz, Option.getD_some]
      rw [hgd]
      simp only [List.getElem_map, List.getElem_take, byteV]
      have h2 : (UInt8.ofNat zs[j].toNat).toNat = zs[j].toNat := by rw [UInt8.toNat_ofNat']; omega
      rw [h2, Int.toNat_of_nonneg hb.1]
end
end Go.Proofs.YtligbbhdbpjdjaaGreatDoor
