/- AttrsEdits: merges that give the list back. -/
import Derived.Test.YtmepjbjmjbpchaaGreatDoorAe2
namespace Go.Proofs.YtmepjbjmjbpchaaGreatDoor
open Go Go.RowKit Go.Sort
set_option linter.unusedVariables false
set_option linter.unusedSimpArgs false

/-- A list that comes back with given data. -/
def LsPost (ds : List Dat) (w : World) (e : Ending) (w' : World) : Prop := ∃ sv cv n lv, e = .returned (.tuple #[.slice sv n cv, .int .i64 0]) ∧ n = lv.length ∧ n ≤ cv ∧ AtrSl w' sv lv ∧ lv.map Atr.dat = ds ∧ Below w.heap.size w w'
theorem merge_ls (p q : Option Addr) (c d n k : Nat) (l m : List Atr) (ds : List Dat) (w : World) (hs : AtrSl w p l) (hs2 : AtrSl w q m) (hn : n = l.length) (hk : k = m.length) (h1 : rightL l = true) (h2 : rightL m = true) (hd : mergeD (l.map Atr.dat) (m.map Atr.dat) = ds) (hlen : ds.length ≤ 100) :
    Calls Tryz.prog 18 #[.slice p n c, .slice q k d] w (LsPost ds w) := by
  have e1 := rightL_len h1
  have e2 := rightL_len h2
  rw [hn, hk]
  refine (merge_any p q c d l m w hs hs2 (by omega) (by omega)).mono fun e w' h => ?_
  obtain ⟨hb, h3⟩ := h
  rw [h1, h2, if_pos (show (true && true) = true from rfl), hd, if_neg (by omega)] at h3
  obtain ⟨v, lv, he, ho, hdv⟩ := h3
  obtain ⟨sv, cv, rfl, hnc, -⟩ := own_form ho.own
  exact ⟨sv, cv, lv.length, lv, he, rfl, hnc, ho.sl, hdv, hb⟩
end Go.Proofs.YtmepjbjmjbpchaaGreatDoor

