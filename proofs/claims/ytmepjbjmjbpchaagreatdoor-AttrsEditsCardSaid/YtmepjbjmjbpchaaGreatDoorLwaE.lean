/- AttrsEdits: the law. -/
import Derived.Test.YtmepjbjmjbpchaaGreatDoorLwe1
import Derived.Test.YtmepjbjmjbpchaaGreatDoorLwe2
import Derived.Test.YtmepjbjmjbpchaaGreatDoorLwe3
namespace Go.Proofs.YtmepjbjmjbpchaaGreatDoor
open Go Go.RowKit Go.Sort
set_option linter.unusedVariables false
set_option linter.unusedSimpArgs false

theorem edits_law (p : Option Addr) (c : Nat) (l : List Atr) (x : Atr) (w : World) (hg : Glob w) (hs : AtrSl w p l) (hc : l.length ≤ c) (hl : l.length ≤ 100000000000000) (hx : x.Lies w) (fx : x.Fits) :
    Calls Tryz.prog 12 #[.slice p l.length c, x.val] w fun e w' => e = .returned (.bool true) ∧ Below w.heap.size w w' := by
  cases h0 : rightL l with
  | false => exact edits_A p c l x w hg hs hc hl hx fx h0
  | true =>
    by_cases hok : rightA x = true ∧ (setD (l.map Atr.dat) x.dat).length ≤ 100
    · cases hf : foundB l x.name with
      | true => exact edits_C p c l x w hg hs hc hl hx fx h0 hok hf
      | false => exact edits_D p c l x w hg hs hc hl hx fx h0 hok hf
    · exact edits_B p c l x w hg hs hc hl hx fx h0 hok
end Go.Proofs.YtmepjbjmjbpchaaGreatDoor

