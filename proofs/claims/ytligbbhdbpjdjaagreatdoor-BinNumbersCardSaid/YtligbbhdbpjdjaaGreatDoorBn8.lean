/- Encode of the empty module. -/
import Derived.Test.YtligbbhdbpjdjaaGreatDoorBn7
namespace Go.Proofs.YtligbbhdbpjdjaaGreatDoor
open Go Go.RowKit Go.Sort
set_option linter.unusedVariables false
set_option linter.unusedSimpArgs false

set_option maxRecDepth 100000 in
theorem encode_e (w : World) (hh : HeadAt w) : Calls Tryz.prog 17 #[emptyM] w fun e w' => Below w.heap.size w w' ∧ ∃ sa sc, e = .returned (.tuple #[.slice sa 10 sc, .int .i64 0]) ∧ ByteSl w' sa goldB := by
  have HH := Lib.hid hh
  clear hh
  go_enter Tryz.func17, Tryz.ntmps17
  go_wp2_with (first
    | (go_at_call 19
       refine (check_e _).mono ?_
       rintro e w2 ⟨rfl, hb2⟩
       have cM2 := bRow ((hb2.block w.heap.size (by simp)).trans (heap_alloc_new w _))
       have HB2 := Lib.hid (bNext (bAlloc (Below.refl w.heap.size w) _) hb2)
       clear hb2
       go_ways)
    | (go_at_call 20
       refine (encoded_e w2 (HH.out.below HB2.out)).mono ?_
       rintro e w3 ⟨hb3, sa, sc, rfl, hown⟩
       have HB3 := Lib.hid (bNext HB2.out hb3)
       have HS := Lib.hid (bytes_own hown).1
       have hl : goldB.length = 10 := rfl
       rw [hl]
       clear hb3 hown
       go_ways))
  go_ret2
  exact ⟨HB3.out, sa, sc, rfl, HS.out⟩
end Go.Proofs.YtligbbhdbpjdjaaGreatDoor
