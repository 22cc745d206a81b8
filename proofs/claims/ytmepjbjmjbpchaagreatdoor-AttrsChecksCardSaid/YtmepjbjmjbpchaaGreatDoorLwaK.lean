/- AttrsChecks: the law. -/
import Derived.Test.YtmepjbjmjbpchaaGreatDoorLwk2
import Derived.Test.YtmepjbjmjbpchaaGreatDoorRoa2
namespace Go.Proofs.YtmepjbjmjbpchaaGreatDoor
open Go Go.RowKit Go.Sort
set_option linter.unusedVariables false
set_option linter.unusedSimpArgs false

theorem checks_law (p : Option Addr) (c : Nat) (l : List Atr) (s : ByteArray) (w : World) (hg : Glob w) (hs : AtrSl w p l) (hc : l.length ≤ c) (hcm : c ≤ 9223372036854775807) (hl : l.length ≤ 100000000000000) :
    Calls Tryz.prog 11 #[.slice p l.length c, .string s] w fun e w' => e = .returned (.bool true) ∧ Below w.heap.size w w' := by
  cases h0 : rightL l with
  | false => exact checks_A p c l s w hg hs hc hl h0
  | true =>
    cases h1 : foundB l s with
    | false => exact checks_B p c l s w hg hs hc hl h0 h1
    | true =>
      obtain ⟨hlt, -⟩ := found_at h1
      obtain ⟨g, off, rfl, hzg, -⟩ := hs.row hlt
      by_cases hf : c = lowerB l s + 1
      · exact checks_D g off c (lowerB l s) l.length l s w hg hs hzg hc hcm h0 h1 rfl hlt rfl ⟨by omega, by omega⟩
      · exact checks_C g off c (lowerB l s) l.length l s w hg hs hzg hc hcm h0 h1 rfl hlt rfl hf
end Go.Proofs.YtmepjbjmjbpchaaGreatDoor

