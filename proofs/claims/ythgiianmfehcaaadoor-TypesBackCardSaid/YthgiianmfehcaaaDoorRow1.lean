/- Arguments that are slices of strings. -/
import Derived.Test.YthgiianmfehcaaaDoorRow0
namespace Go.Proofs.YthgiianmfehcaaaDoor
open Go.ChangeShapes Go.WideShapes Go.ChangeAt Go.RowKit
set_option linter.unusedVariables false
set_option linter.unusedSimpArgs false
section
variable {H : Type} {enc : TypeId × Value → H} {W : World}
theorem weightsAll_mem {P : Program} {e : TypeId} : ∀ {ls : List ByteArray} {s : ByteArray}, s ∈ ls → s.data.toList.length ∈ DataW.weightsAll (H := H) P e (strs ls)
  | x :: ls, s, h => by
    rw [show (strs (x :: ls) : List (DataW H)) = .lit (.string x.data.toList) :: strs ls from rfl]
    simp only [DataW.weightsAll, DataW.weights]
    rcases List.mem_cons.1 h with rfl | h
    · simp
    · exact List.mem_append_right _ (weightsAll_mem h)
theorem strs_of {ts : List TypeId} {ds : List (DataW H)} {j : Nat} {t e : TypeId} {a : Option Addr} {n c : Nat} {d : DataW H} {p : List MemPlace} (ht : Tryd.prog.underlying t = some (.slice e)) (he : Tryd.prog.underlying e = some .string) (hc : Tryd.prog.cellsOf e = 1)
    (htj : ts[j]? = some t) (hdj : ds[j]? = some d) (hsz : (DataW.weightsEach Tryd.prog ts ds).all (· ≤ reachBytes) = true)
    (hx : DataW.Trod enc Tryd.prog W 0 (fun _ => true) true t (.slice a n c) d p) : ∃ zs : List ByteArray, n = zs.length ∧ StrSl W a zs ∧ (∀ s ∈ zs, s.size ≤ 140737488351232) ∧ zs.length ≤ c ∧ zs.length ≤ 9223372036854775807 := by
  obtain ⟨fuel, hf⟩ := hx
  rcases open_strings ht he hc hf with ⟨hcs, hx⟩ | ⟨a1, len, cap, zs, hcs, -, hl, hm, hz, hx, hcell, hwz⟩
  · simp [Value.cells] at hcs
    obtain ⟨rfl, rfl, rfl⟩ := hcs
    exact ⟨[], rfl, .inl rfl, by simp, by simp, by simp⟩
  · simp [Value.cells] at hcs
    obtain ⟨rfl, rfl, rfl⟩ := hcs
    have hz' : zs.length = c := by simpa using hz
    have hml : maxLen = 9223372036854775807 := rfl
    simp only [Prod.mk.injEq] at hx
    obtain ⟨rfl, -⟩ := hx
    refine ⟨zs.take n, by simp; omega, ?_, fun s hs => ?_, by simp; omega, by simp; omega⟩
    · rcases Nat.eq_zero_or_pos n with rfl | hpos
      · exact .inl rfl
      · obtain ⟨g, off, rfl, hg, hcl⟩ := addr_plain hcell (by omega)
        refine .inr ⟨g, off, rfl, hg, fun j hj => ?_⟩
        have hj' : j < n := by simp at hj; omega
        rw [hcl j (by omega)]
        rw [List.getElem_take, List.getD_eq_getElem?_getD, List.getElem?_eq_getElem (by omega), Option.getD_some]
    · have hmem := weightsAll_mem (H := H) (P := Tryd.prog) (e := e) hs
      have := List.all_eq_true.1 hsz _ (DataW.weights_mem_each htj hdj _ (by
        simp only [DataW.weights, ht]
        exact List.mem_cons_of_mem _ (List.mem_append_left _ hmem)))
      have h2 := of_decide_eq_true this
      have h3 : reachBytes = 140737488351232 := rfl
      have h4 : s.data.toList.length = s.size := by simp
      omega
end
end Go.Proofs.YthgiianmfehcaaaDoor
