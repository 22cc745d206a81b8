/- What every row of the chapter uses: the library's variables as the row lays them, the world of the witness, arguments that are slices. -/
import Derived.Test.YthgiianmfehcaaaDoorAw1
import Derived.Test.YthgiianmfehcaaaDoorPost
import Derived.Test.YthgiianmfehcaaaDoorCards
import Derived.Test.YthgiianmfehcaaaDoorTie
import Derived.WalkKit
import Derived.ProofKit
import Derived.OpenShut
import Derived.SizedLaws
import Derived.SliceStrings
import Derived.Deep.DeepHandedRow
import Derived.Lib.LaidTab
namespace Go.Proofs.YthgiianmfehcaaaDoor
open Go.ChangeShapes Go.WideShapes Go.ChangeAt Go.RowKit
set_option linter.unusedVariables false
set_option linter.unusedSimpArgs false

theorem own : ownKnob Tryd.prog.godebug = none := by kernel_rfl
theorem laid_tail {P : Program} {W : World} {x : String × DataW Unit} {rest : List (String × DataW Unit)} (h : laidMet P (x :: rest) W) : laidMet P rest W := by
  obtain ⟨ps, ⟨g', t', cs, fuel, p, q, hg', ht', hvar, hd, hq, hrest⟩, h2⟩ := h
  subst hrest
  exact ⟨q, hq, (List.nodup_append.1 h2.1).2.1, fun b off hm => h2.2 b off (List.mem_append_right _ hm)⟩
abbrev laidList : List (String × DataW Unit) := Rows.typesMakesRow.laid
theorem pow_of {W : World} (h : laidMetH Tryd.prog laidList W) : Pow W :=
  Lib.tabIs_of_head (g := 1) (t := 139) (e := 36) (n := 20) (rest := [("unicode/utf8.acceptRanges", Rows.laid_unicode_utf8_acceptRanges), ("unicode/utf8.first", Rows.laid_unicode_utf8_first)]) (by kernel_rfl) (by kernel_rfl) (by kernel_rfl) (by kernel_rfl) (by kernel_rfl) (by kernel_rfl) (laid_tail (laid_tail (show laidMet Tryd.prog laidList W from h)))
theorem glob_of {W : World} (h : laidMetH Tryd.prog laidList W) (hsh : W.ShapedOpen Tryd.prog) : Glob W := by
  obtain ⟨m, hm⟩ := Tryd.laysM138.s1_3 W hsh
  refine ⟨pow_of h, ⟨m, hm⟩, ?_⟩
  rcases Nat.eq_zero_or_pos W.heap.size with h0 | h0
  · exfalso
    have : W.heap[0]? = none := Array.getElem?_eq_none (by omega)
    have hm' : W.cell? ⟨0, 0, none⟩ = some (.int .i64 m) := hm
    simp [World.cell?, this] at hm'
  · exact h0

section
variable {H : Type} {enc : TypeId × Value → H} {W : World}
theorem addr_plain {a : Addr} {n : Nat} {f : Nat → Value} (hcell : ∀ i, i < n → W.cell? (a.add i) = some (f i)) (hn : 0 < n) : ∃ g off, a = ⟨g, off, none⟩ ∧ g < W.heap.size ∧ ∀ j, j < n → W.cell? ⟨g, off + j, none⟩ = some (f j) := by
  obtain ⟨g, off, vw⟩ := a
  have h0 := hcell 0 hn
  have hvw : vw = none ∧ g < W.heap.size := by
    cases hb : W.heap[g]? with
    | none => cases vw <;> simp [World.cell?, Addr.add, hb] at h0
    | some o =>
      refine ⟨?_, blkLt hb⟩
      cases vw with
      | none => rfl
      | some u => cases o <;> simp [World.cell?, Addr.add, hb] at h0
  obtain ⟨rfl, hg⟩ := hvw
  refine ⟨g, off, rfl, hg, fun j hj => ?_⟩
  have had : (Addr.mk g off none).add j = ⟨g, off + j, none⟩ := by
    unfold Addr.add; split
    · rename_i h; subst h; rfl
    · rfl
  rw [← had]; exact hcell j hj
theorem ints_of {t e : TypeId} {a : Option Addr} {n c : Nat} {d : DataW H} {p : List MemPlace} (ht : Tryd.prog.underlying t = some (.slice e)) (he : Tryd.prog.underlying e = some (.int .i64)) (hc : Tryd.prog.cellsOf e = 1)
    (hx : DataW.Trod enc Tryd.prog W 0 (fun _ => true) true t (.slice a n c) d p) : ∃ zs : List Int, n = zs.length ∧ IntSl W a zs ∧ (∀ z ∈ zs, -9223372036854775808 ≤ z ∧ z ≤ 9223372036854775807) ∧ zs.length ≤ 9223372036854775807 := by
  obtain ⟨fuel, hf⟩ := hx
  rcases open_ints ht he hc hf with ⟨hcs, hx⟩ | ⟨a1, len, cap, zs, hcs, -, hl, hm, hz, hx, hcell, hwz⟩
  · simp [Value.cells] at hcs
    obtain ⟨rfl, rfl, rfl⟩ := hcs
    exact ⟨[], rfl, .inl rfl, by simp, by simp⟩
  · simp [Value.cells] at hcs
    obtain ⟨rfl, rfl, rfl⟩ := hcs
    have hz' : zs.length = c := by simpa using hz
    have hml : maxLen = 9223372036854775807 := rfl
    have hr64 : ∀ z ∈ zs, -9223372036854775808 ≤ z ∧ z ≤ 9223372036854775807 := fun z h => bounds_i64 (hwz z h)
    refine ⟨zs.take n, by simp; omega, ?_, fun z h => hr64 z (List.mem_of_mem_take h), by simp; omega⟩
    rcases Nat.eq_zero_or_pos n with rfl | hpos
    · exact .inl rfl
    · obtain ⟨g, off, rfl, hg, hcl⟩ := addr_plain hcell (by omega)
      refine .inr ⟨g, off, rfl, hg, fun j hj => ?_⟩
      have hj' : j < n := by simp at hj; omega
      have := hcl j (by omega)
      rw [this]
      simp [hj']
end

/-- A datum's cells. -/
def flat : DataW Unit → List Value
  | .lit (.int k n) => [.int k n]
  | .agg l => flats l
  | _ => []
where flats : List (DataW Unit) → List Value
  | [] => []
  | x :: l => flat x ++ flats l
noncomputable def layOne (w : World) (x : String × DataW Unit) : World :=
  match Tryd.prog.globalNamed x.1 with
  | some g => { w with heap := w.heap.modify g fun
      | .cells _ t frozen => .cells (flat x.2).toArray t frozen
      | o => o }
  | none => w
/-- A WORLD FOR THE WITNESS: the settled one, the tables holding what their initialisers lay. -/
noncomputable def laidWorld (os : Os) : World := laidList.foldl layOne (World.holding Tryd.prog os ⟨#[], #[], []⟩)
end Go.Proofs.YthgiianmfehcaaaDoor
