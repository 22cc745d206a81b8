/- The bound of a row of attributes that came in. -/
import Derived.Test.YtmepjbjmjbpchaaGreatDoorMg26
namespace Go.Proofs.YtmepjbjmjbpchaaGreatDoor
open Go Go.RowKit Go.ChangeShapes Go.WideShapes
set_option linter.unusedVariables false
set_option linter.unusedSimpArgs false
section
variable {H : Type} {enc : TypeId × Value → H} {W : World}
theorem attrs_cap {n : Nat} {v : Value} {x : DataW H × List MemPlace} (hx : DataW.trod enc Tryz.prog W 0 (fun _ => true) true n 22 [v] = some x) {p : Option Addr} {k c : Nat} (hv : v = .slice p k c) : c ≤ 9223372036854775807 := by
  subst hv
  rcases Go.Deep.open_slice Tryz.underlying22 hx with ⟨hcs, -⟩ | ⟨a, len, cap, m, k, D, Pl, hcs, -, hl, hm, -, -, -⟩
  · simp at hcs
    obtain ⟨-, -, rfl⟩ := hcs
    omega
  · simp only [List.cons.injEq, and_true, Value.slice.injEq] at hcs
    obtain ⟨-, -, rfl⟩ := hcs
    unfold maxLen at hm
    exact hm
end
end Go.Proofs.YtmepjbjmjbpchaaGreatDoor

