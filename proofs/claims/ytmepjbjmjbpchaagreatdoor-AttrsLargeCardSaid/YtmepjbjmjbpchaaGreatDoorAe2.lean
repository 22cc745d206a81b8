/- Lists with an attribute set: plain law. -/
import Derived.Test.YtmepjbjmjbpchaaGreatDoorMg26
namespace Go.Proofs.YtmepjbjmjbpchaaGreatDoor
open Go Go.RowKit Go.Sort
set_option linter.unusedVariables false
set_option linter.unusedSimpArgs false

theorem lowerD_cons (a : Dat) (l : List Dat) (s : ByteArray) : lowerD (a :: l) s = if nmLt a.name s then lowerD l s + 1 else 0 := by
  unfold lowerD; rw [List.takeWhile_cons]; split <;> simp
theorem foundD_cons (a : Dat) (l : List Dat) (s : ByteArray) : foundD (a :: l) s = if nmLt a.name s then foundD l s else decide (a.name = s) := by
  unfold foundD
  rw [lowerD_cons]
  by_cases h : nmLt a.name s = true
  · rw [if_pos h, if_pos h, List.getElem?_cons_succ]
  · rw [if_neg h, if_neg h]; rfl
theorem ins_last {d : Dat} : ∀ {l : List Dat}, (∀ a ∈ l, nmLt a.name d.name = true) → insD d l = l ++ [d]
  | [], _ => rfl
  | a :: l, h => by
    unfold insD
    rw [if_pos (h a (List.mem_cons_self ..)), ins_last fun b hb => h b (List.mem_cons_of_mem _ hb)]
    rfl
theorem merge_rise : ∀ (m acc : List Dat), RisesD (acc ++ m) → mergeD acc m = acc ++ m
  | [], acc, _ => by simp [mergeD]
  | d :: m, acc, h => by
    have h1 : setD acc d = acc ++ [d] := by
      rw [setD_eq]
      refine ins_last fun a ha => ?_
      have := (risesD_pw _).1 h
      exact (List.pairwise_append.1 this).2.2 a ha d (List.mem_cons_self ..)
    show mergeD (setD acc d) m = _
    rw [h1, merge_rise m (acc ++ [d]) (by rw [List.append_assoc]; exact h)]
    simp
theorem ins_mem {d : Dat} : ∀ {l : List Dat}, RisesD l → d ∈ l → insD d l = l
  | a :: l, h, hd => by
    have hp := (risesD_pw _).1 h
    rw [List.pairwise_cons] at hp
    unfold insD
    rcases List.mem_cons.1 hd with rfl | hd
    · rw [nm_irrefl]; simp
    · rw [if_pos (hp.1 d hd), ins_mem ((risesD_pw _).2 hp.2) hd]
theorem merge_sub : ∀ (m l : List Dat), RisesD l → (∀ d ∈ m, d ∈ l) → mergeD l m = l
  | [], l, _, _ => rfl
  | d :: m, l, h, hm => by
    show mergeD (setD l d) m = l
    rw [setD_eq, ins_mem h (hm d (List.mem_cons_self ..))]
    exact merge_sub m l h fun e he => hm e (List.mem_cons_of_mem _ he)
theorem ins_found (d : Dat) : ∀ l : List Dat, foundD (insD d l) d.name = true ∧ (insD d l)[lowerD (insD d l) d.name]? = some d
  | [] => by
    unfold insD
    rw [foundD_cons, lowerD_cons, nm_irrefl]
    simp
  | a :: l => by
    have ih := ins_found d l
    unfold insD
    split
    · rename_i h
      rw [foundD_cons, lowerD_cons, if_pos h, if_pos h]
      exact ⟨ih.1, by simpa using ih.2⟩
    · split
      · rw [foundD_cons, lowerD_cons, nm_irrefl]; simp
      · rw [foundD_cons, lowerD_cons, nm_irrefl]; simp
theorem ins_erase (d : Dat) : ∀ l : List Dat, foundD l d.name = false → (insD d l).eraseIdx (lowerD (insD d l) d.name) = l
  | [], _ => by
    unfold insD
    rw [lowerD_cons, nm_irrefl]
    rfl
  | a :: l, h => by
    rw [foundD_cons] at h
    unfold insD
    split
    · rename_i h1
      rw [if_pos h1] at h
      rw [lowerD_cons, if_pos h1, List.eraseIdx_cons_succ, ins_erase d l h]
    · rename_i h1
      rw [if_neg h1] at h
      rw [if_neg (by simpa using h), lowerD_cons, nm_irrefl]
      rfl
theorem ins_len_found (d : Dat) : ∀ l : List Dat, foundD l d.name = true → (insD d l).length = l.length
  | [], h => by cases h
  | a :: l, h => by
    rw [foundD_cons] at h
    unfold insD
    split
    · rename_i h1
      rw [if_pos h1] at h
      simp [ins_len_found d l h]
    · rename_i h1
      rw [if_neg h1] at h
      rw [if_pos (by simpa using h)]
      rfl
theorem rightL_of {l : List Atr} (h1 : l.length ≤ 100) (h2 : ∀ a ∈ l, rightA a = true) (h3 : Rises l) : rightL l = true := by
  unfold rightL
  rw [Bool.and_eq_true, List.all_eq_true]
  refine ⟨by simpa using h1, fun j hj => ?_⟩
  have hj' := List.mem_range.1 hj
  unfold okAt
  rw [List.getElem?_eq_getElem hj']
  simp only [h2 _ (List.getElem_mem hj'), Bool.true_and]
  cases j with
  | zero => rfl
  | succ k =>
    simp only [List.getElem?_eq_getElem (show k < l.length by omega)]
    exact h3 k (k + 1) (by omega) hj'
theorem rightL_set {l m : List Atr} {a : Atr} (hl : rightL l = true) (ha : rightA a = true) (hd : m.map Atr.dat = setD (l.map Atr.dat) a.dat) (hlen : m.length ≤ 100) : rightL m = true := by
  rw [setD_eq] at hd
  refine rightL_of hlen (fun b hb => ?_) ((risesD_iff m).2 (by rw [hd]; exact insD_rises (rises_dat hl)))
  have h1 : b.dat ∈ insD a.dat (l.map Atr.dat) := by rw [← hd]; exact List.mem_map_of_mem hb
  rw [rightA_D]
  rcases insD_mem h1 with h2 | h2
  · rw [h2, ← rightA_D]; exact ha
  · obtain ⟨c, hc, he⟩ := List.mem_map.1 h2
    rw [← he, ← rightA_D]
    exact rightL_mem hl c hc
end Go.Proofs.YtmepjbjmjbpchaaGreatDoor

