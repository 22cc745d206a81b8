/- AttrsChecks: where an attribute stands; parts of a row of attributes. -/
import Derived.Test.YtmepjbjmjbpchaaGreatDoorAs0
namespace Go.Proofs.YtmepjbjmjbpchaaGreatDoor
open Go Go.RowKit Go.Sort
set_option linter.unusedVariables false
set_option linter.unusedSimpArgs false

theorem place_no {l : List Atr} (hr : Rises l) {s : ByteArray} (h : foundB l s = false) : placeInt l s = -1 := by
  have hn : placeOf l s = none := by
    unfold placeOf
    rw [List.findIdx?_eq_none_iff]
    intro a ha
    obtain ⟨j, hj, rfl⟩ := List.getElem_of_mem ha
    rw [decide_eq_false_iff_not]
    intro he
    by_cases h1 : j < lowerB l s
    · have := lower_lt h1
      rw [he, nm_irrefl] at this; cases this
    · have hle := lower_le l s
      have hlt : lowerB l s < l.length := by omega
      have h2 := lower_at hlt
      have h3 : (l[lowerB l s]'hlt).name ≠ s := by
        intro e
        unfold foundB at h
        rw [List.getElem?_eq_getElem hlt] at h
        simp only [e, decide_true] at h
        cases h
      have h4 : lowerB l s < j := by
        rcases Nat.lt_or_ge (lowerB l s) j with h5 | h5
        · exact h5
        · have h6 : lowerB l s = j := by omega
          have h7 : l[j] = l[lowerB l s]'hlt := by congr 1; exact h6.symm
          rw [h7] at he
          exact absurd he h3
      have h5 := hr (lowerB l s) j h4 hj
      rw [he, h2] at h5; cases h5
  unfold placeInt
  rw [hn]
theorem place_yes {l : List Atr} (hr : Rises l) {s : ByteArray} (h : foundB l s = true) : placeInt l s = (lowerB l s : Nat) := by
  obtain ⟨hlt, hn⟩ := found_at h
  have hs : placeOf l s = some (lowerB l s) := by
    unfold placeOf
    rw [List.findIdx?_eq_some_iff_getElem]
    refine ⟨hlt, by simpa using hn, fun j hj => ?_⟩
    simp only [decide_eq_true_eq]
    intro e
    have := lower_lt hj
    rw [e, nm_irrefl] at this; cases this
  unfold placeInt
  rw [hs]
theorem AtrSl.pieces {w : World} {g off : Nat} {l : List Atr} (h : AtrSl w (some ⟨g, off, none⟩) l) (k n : Nat) : AtrSl w (some ⟨g, off + k * 6, none⟩) ((l.drop k).take n) := by
  refine ⟨?_, fun a ha => h.lies a (List.mem_of_mem_drop (List.mem_of_mem_take ha)), fun a ha => h.fits a (List.mem_of_mem_drop (List.mem_of_mem_take ha))⟩
  rcases h.at' with h | ⟨g', off', he, h2, h3⟩
  · subst h; exact .inl (by simp)
  · cases he
    refine .inr ⟨g, off + k * 6, rfl, h2, fun j hj i hi => ?_⟩
    rw [List.length_take, List.length_drop] at hj
    rw [List.getElem_take, List.getElem_drop, ← h3 (k + j) (by omega) i hi]
    congr 2
    omega
theorem sl_news {w : World} {g off : Nat} {l : List Atr} (h : AtrSl w (some ⟨g, off, none⟩) l) : ∀ (t : Nat) (u : Value), (l.flatMap Atr.cells)[t]? = some u → w.cell? ((⟨g, off, none⟩ : Addr).add t) = some u := by
  intro t u hu
  have ht : t < l.length * 6 := by
    have := (List.getElem?_eq_some_iff.1 hu).1
    have h6 : ∀ m : List Atr, (m.flatMap Atr.cells).length = m.length * 6 := fun m => by
      induction m with
      | nil => rfl
      | cons a m ih => rw [List.flatMap_cons, List.length_append, ih, cells_len, List.length_cons]; omega
    rw [h6] at this; exact this
  rcases h.at' with h | ⟨g', off', he, h2, h3⟩
  · subst h; simp at ht
  · cases he
    have hj : t / 6 < l.length := by omega
    have h4 := h3 (t / 6) hj (t % 6) (by omega)
    rw [← flat_at hj (by omega), show t / 6 * 6 + t % 6 = t by omega, hu] at h4
    have hadd : (⟨g, off, none⟩ : Addr).add t = ⟨g, off + t, none⟩ := by
      unfold Addr.add; split
      · rename_i h0; subst h0; rfl
      · rfl
    rw [show off + t / 6 * 6 + t % 6 = off + t by omega] at h4
    rw [hadd, h4]
theorem cells_one {l : List Atr} : ∀ u ∈ l.flatMap Atr.cells, u.oneCell' = true := by
  intro u hu
  obtain ⟨a, -, ha⟩ := List.mem_flatMap.1 hu
  simp only [Atr.cells, List.mem_cons, List.not_mem_nil, or_false] at ha
  rcases ha with rfl | rfl | rfl | rfl | rfl | rfl <;> rfl
theorem six_len (m : List Atr) : (m.flatMap Atr.cells).length = m.length * 6 := by
  induction m with
  | nil => rfl
  | cons a m ih => rw [List.flatMap_cons, List.length_append, ih, cells_len, List.length_cons]; omega
theorem erase_parts {α : Type} (l : List α) (k : Nat) : l.take k ++ l.drop (k + 1) = l.eraseIdx k := (List.eraseIdx_eq_take_drop_succ l k).symm
end Go.Proofs.YtmepjbjmjbpchaaGreatDoor

