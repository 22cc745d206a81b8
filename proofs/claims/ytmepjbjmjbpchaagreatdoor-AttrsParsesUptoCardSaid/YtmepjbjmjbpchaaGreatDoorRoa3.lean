/- The library's variables as a row lays them, those of errors too. -/
import Derived.Test.YtmepjbjmjbpchaaGreatDoorMg23
import Derived.Test.YtmepjbjmjbpchaaGreatDoorMg32
import Derived.LaidLaws
namespace Go.Proofs.YtmepjbjmjbpchaaGreatDoor
open Go.ChangeShapes Go.WideShapes Go.ChangeAt Go.RowKit
set_option linter.unusedVariables false
set_option linter.unusedSimpArgs false

theorem err_head {P : Program} {W : World} {name nm : String} {d : DataW Unit} {rest : List (String × DataW Unit)} {g : Nat} {t : TypeId} {ms : Array (String × TypeId)} (hg : P.globalNamed name = some g) (hty : (P.globals[g]?).map (·.type) = some t)
    (hi : P.underlying t = some (.interface ms)) (h : laidMet P ((name, .iface nm d) :: rest) W) : ∃ u v, W.cell? ⟨g, 0, none⟩ = some (.iface u v) := by
  obtain ⟨ps, ⟨g', t', cs, fuel, p, q, hg', ht', hvar, hd, _, _⟩, _⟩ := h
  obtain rfl := Option.some.inj (hg.symm.trans hg')
  obtain rfl := Option.some.inj (hty.symm.trans ht')
  obtain ⟨f2, u, v, hcs, -, -⟩ := iface_of_trod hi hd
  have h0 := World.var?_cell hg hvar 0
  refine ⟨u, v, h0.trans ?_⟩
  have : cs[0]? = cs.toList[0]? := by simp
  rw [this, hcs]; rfl
theorem cell_lt {W : World} {g o : Nat} {v : Value} (h : W.cell? ⟨g, o, none⟩ = some v) : g < W.heap.size := by
  rcases Nat.lt_or_ge g W.heap.size with h0 | h0
  · exact h0
  · exfalso
    have : W.heap[g]? = none := Array.getElem?_eq_none h0
    simp [World.cell?, this] at h
theorem globE_of {W : World} (h : laidMetH Tryz.prog laidList W) (hsh : W.ShapedOpen Tryz.prog) : GlobE W := by
  have hl : laidMet Tryz.prog laidList W := h
  have h1 := laid_tail (laid_tail (laid_tail (laid_tail hl)))
  obtain ⟨u1, v1, c1⟩ := err_head (g := 2) (t := 105) (by kernel_rfl) (by kernel_rfl) Tryz.underlying105 h1
  obtain ⟨u2, v2, c2⟩ := err_head (g := 1) (t := 105) (by kernel_rfl) (by kernel_rfl) Tryz.underlying105 (laid_tail h1)
  have p1 := cell_lt c1
  have p2 := cell_lt c2
  exact ⟨glob_of h hsh, ⟨_, c2, .inr ⟨_, _, rfl⟩⟩, ⟨_, c1, .inr ⟨_, _, rfl⟩⟩, by omega⟩
end Go.Proofs.YtmepjbjmjbpchaaGreatDoor

