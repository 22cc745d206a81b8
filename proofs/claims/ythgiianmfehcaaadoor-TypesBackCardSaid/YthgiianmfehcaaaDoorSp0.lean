/- Plain laws of lists of types: the reference's cutting at commas is the cutting at a comma and a blank. -/
import Derived.Test.YthgiianmfehcaaaDoorRf7
import Derived.Test.YthgiianmfehcaaaDoorTyK
namespace Go.Proofs.YthgiianmfehcaaaDoor
open Go
set_option linter.unusedVariables false
set_option linter.unusedSimpArgs false

def isTy (l : List UInt8) : Bool := (readOf l).isSome
theorem elStr_no {b : Nat} (c : UInt8) (h1 : c ∉ [105, 110, 100, 101, 120]) (h2 : ∀ n, n < 10 → c ≠ UInt8.ofNat (48 + n)) : c ∉ elStr b := by
  unfold elStr
  split
  · exact h1
  · intro h
    rcases List.mem_cons.1 h with h | h
    · subst h; exact h1 (by simp)
    · rw [Lib.decDigits_eq] at h
      obtain ⟨t, -, ht⟩ := List.mem_map.1 h
      exact h2 _ (Nat.mod_lt _ (by decide)) ht.symm
theorem elemOf_no44 {l : List UInt8} {q : Pd} (h : elemOf l = some q) : (44 : UInt8) ∉ l := by
  rw [elemOf_str h]
  refine elStr_no 44 (by decide) ?_
  intro n hn h
  have := congrArg UInt8.toNat h
  rw [UInt8.toNat_ofNat'] at this
  simp at this; omega
theorem numOf_no44 {l : List UInt8} {n : Nat} (h : numOf l = some n) : (44 : UInt8) ∉ l := by
  intro hm
  have := numOf_all h 44 hm
  exact absurd this.1 (by decide)
theorem rest_no44 : ∀ (m : Nat) (l : List UInt8) (ext : List Nat) (r : List Nat × Nat), l.length ≤ m → shapeP ext (partsOf l) = some r → (44 : UInt8) ∉ l
  | m, l, ext, r, hm, h => by
    by_cases h0 : l = [105, 110, 100, 101, 120] ∨ cutOf 120 l = none
    · rw [partsOf_last h0] at h
      simp only [shapeP] at h
      split at h
      · rename_i e he; exact elemOf_no44 he
      · cases h
    · cases hc : cutOf 120 l with
      | none => exact absurd (.inr hc) h0
      | some p =>
        obtain ⟨x, y⟩ := p
        have hlen := cutOf_len hc
        obtain ⟨-, hxy, -⟩ := cutOf_some _ _ _ _ hc
        obtain ⟨m', rfl⟩ : ∃ m', m = m' + 1 := ⟨m - 1, by omega⟩
        rw [partsOf_more (fun h => h0 (.inl h)) hc] at h
        simp only [shapeP] at h
        split at h
        · rename_i n hn
          split at h
          · have ih := rest_no44 m' y _ r (by omega) h
            rw [hxy]
            intro hm
            rw [List.mem_append, List.mem_cons] at hm
            rcases hm with hm | hm | hm
            · exact numOf_no44 hn hm
            · exact absurd hm (by decide)
            · exact ih hm
          · cases h
        · cases h
theorem nameOf_no44 {l : List UInt8} (h : nameOf l = true) : (44 : UInt8) ∉ l := by
  intro hm
  simp only [nameOf, Bool.and_eq_true, List.all_eq_true] at h
  have := h.2 44 hm
  exact absurd this (by decide)
theorem foreignOf_no44 {l : List UInt8} {q : Pd} (h : foreignOf l = some q) : (44 : UInt8) ∉ l := by
  unfold foreignOf at h
  split at h
  · rename_i hp
    split at h
    · cases h
    · rename_i x y hc
      obtain ⟨-, hxy, -⟩ := cutOf_some _ _ _ _ hc
      split at h
      · rename_i hn
        rw [Bool.and_eq_true] at hn
        have hp1 := hp.1
        match l, hp1, hxy with
        | [], hp1, hxy => simp [Lib.hasPrefix, List.isPrefixOf] at hp1
        | c :: l, hp1, hxy =>
          simp [Lib.hasPrefix, List.isPrefixOf] at hp1
          subst hp1
          simp only [List.tail_cons] at hxy
          rw [hxy]
          intro hm
          rcases List.mem_cons.1 hm with hm | hm
          · exact absurd hm (by decide)
          · rw [List.mem_append, List.mem_cons] at hm
            rcases hm with hm | hm | hm
            · exact nameOf_no44 hn.1 hm
            · exact absurd hm (by decide)
            · exact nameOf_no44 hn.2 hm
      · cases h
  · cases h
theorem cells_no44 {l p : List UInt8} {k : Nat} {q : Pd} (hp : Lib.hasPrefix (l.take (l.length - 1)) p = true) (hp4 : p.length = 4) (hpn : (44 : UInt8) ∉ p) (hs : Lib.hasSuffix l [62] = true) (h : shapeOf k ((l.take (l.length - 1)).drop 4) = some q) : (44 : UInt8) ∉ l := by
  unfold shapeOf at h
  rw [Option.map_eq_some_iff] at h
  obtain ⟨r, hr, -⟩ := h
  have h1 := rest_no44 _ _ _ _ (Nat.le_refl _) hr
  have hne : l ≠ [] := by intro e; subst e; simp [Lib.hasSuffix, List.isSuffixOf, List.isPrefixOf] at hs
  rw [suffix_iff hne] at hs
  have hlast := eq_of_beq hs
  have hpre : (l.take (l.length - 1)).take 4 = p := by
    rw [prefix_take, hp4] at hp; exact eq_of_beq hp
  intro hm
  have hl : l = p ++ (l.take (l.length - 1)).drop 4 ++ [62] := by
    rw [← hpre, List.take_append_drop, ← List.dropLast_eq_take, ← hlast, List.dropLast_concat_getLast]
  rw [hl, List.mem_append, List.mem_append, List.mem_singleton] at hm
  rcases hm with (hm | hm) | hm
  · exact hpn hm
  · exact h1 hm
  · exact absurd hm (by decide)
theorem isTy_no44 {l : List UInt8} (h : isTy l = true) : (44 : UInt8) ∉ l := by
  unfold isTy at h
  obtain ⟨q, hq⟩ := Option.isSome_iff_exists.1 h
  clear h
  unfold readOf at hq
  split at hq
  · rename_i p hp; exact elemOf_no44 hp
  · split at hq
    · rename_i hs
      split at hq
      · rename_i hp; exact cells_no44 hp rfl (by decide) hs hq
      · split at hq
        · rename_i hp; exact cells_no44 hp rfl (by decide) hs hq
        · exact foreignOf_no44 hq
    · exact foreignOf_no44 hq

/-- The reference's `Split`, between the brackets. -/
def rsplit (l : List UInt8) : Option (List (List UInt8)) :=
  match h : cutOf 44 l with
  | none => if isTy l then some [l] else none
  | some (x, y) =>
    if isTy x then
      if y.head? = some 32 then (rsplit y.tail).map (x :: ·) else none
    else none
termination_by l.length
decreasing_by have := cutOf_len h; simp; omega
theorem rsplit_last {l : List UInt8} (h : cutOf 44 l = none) : rsplit l = if isTy l then some [l] else none := by
  unfold rsplit
  split
  · rfl
  · rename_i h'; rw [h] at h'; cases h'
theorem rsplit_more {l x y : List UInt8} (h : cutOf 44 l = some (x, y)) : rsplit l = if isTy x then if y.head? = some 32 then (rsplit y.tail).map (x :: ·) else none else none := by
  rw [rsplit]
  split
  · rename_i h'; rw [h] at h'; cases h'
  · rename_i h'; rw [h] at h'; cases h'; rfl
def piecesL (l : List UInt8) : List (List UInt8) := Lib.split l [44, 32]
theorem pieces_data (b : ByteArray) : (piecesOf b).map (·.data.toList) = piecesL b.data.toList := by
  unfold piecesOf piecesL Lib.split
  rw [Lib.splitB_data]
theorem piecesL_miss {l : List UInt8} (h : Lib.index l [44, 32] = -1) : piecesL l = [l] := by
  unfold piecesL Lib.split
  rw [Lib.count_miss h, Lib.splitK]
theorem piecesL_hit {l : List UInt8} {i : Nat} (h : Lib.index l [44, 32] = i) : piecesL l = l.take i :: piecesL (l.drop (i + 2)) := by
  unfold piecesL Lib.split
  rw [Lib.count_hit (by simp) h, Nat.add_comm 1]
  rw [Lib.splitK, if_neg (by rw [h, beq_iff_eq]; omega), h]
  rfl
theorem occ_at {l : List UInt8} {j : Nat} (h : Lib.occAt l [44, 32] j = true) : l[j]? = some 44 ∧ l[j + 1]? = some 32 := by
  unfold Lib.occAt at h
  match hd : l.drop j, h with
  | [], h => simp [List.isPrefixOf] at h
  | [a], h => simp [List.isPrefixOf] at h
  | a :: b :: r, h =>
    simp [List.isPrefixOf] at h
    obtain ⟨rfl, rfl⟩ := h
    have h0 : l[j]? = (l.drop j)[0]? := by simp
    have h1 : l[j + 1]? = (l.drop j)[1]? := by simp
    rw [h0, h1, hd]; simp
theorem index_cut {x z : List UInt8} (h : (44 : UInt8) ∉ x) : Lib.index (x ++ 44 :: 32 :: z) [44, 32] = x.length := by
  refine Lib.index_first (by simp) ?_ ?_
  · simp [Lib.occAt, List.isPrefixOf]
  · intro j hj
    rw [Bool.eq_false_iff]
    intro ho
    have := (occ_at ho).1
    rw [List.getElem?_append_left hj] at this
    exact h (List.mem_of_getElem? this)
theorem rsplit_eq : ∀ (m : Nat) (l : List UInt8), l.length ≤ m → rsplit l = if (piecesL l).all isTy then some (piecesL l) else none
  | m, l, hm => by
    cases hc : cutOf 44 l with
    | none =>
      have hn : Lib.index l [44, 32] = -1 := by
        refine Lib.index_none fun j hj => ?_
        rw [Bool.eq_false_iff]
        intro ho
        have h44 := List.mem_of_getElem? (occ_at ho).1
        have := cutOf_take l 44 l.length (by
          intro x hx he
          subst he
          have hi := cutOf_none _ _ hc
          exact absurd hi (by
            have : ∀ (l : List UInt8), (44 : UInt8) ∈ l → cutOf 44 l ≠ none := by
              intro l
              induction l with
              | nil => simp
              | cons a l ih =>
                intro hm
                simp only [cutOf]
                split
                · simp
                · rename_i hne
                  rcases List.mem_cons.1 hm with h | h
                  · exact absurd h.symm hne
                  · simpa using ih h
            exact absurd hc (this l h44))) (by simp)
        have : ∀ (l : List UInt8), (44 : UInt8) ∈ l → cutOf 44 l ≠ none := by
          intro l
          induction l with
          | nil => simp
          | cons a l ih =>
            intro hm
            simp only [cutOf]
            split
            · simp
            · rename_i hne
              rcases List.mem_cons.1 hm with h | h
              · exact absurd h.symm hne
              · simpa using ih h
        exact this l h44 hc
      rw [rsplit_last hc, piecesL_miss hn]
      simp
    | some p =>
      obtain ⟨x, y⟩ := p
      have hlen := cutOf_len hc
      obtain ⟨-, hxy, hnx⟩ := cutOf_some _ _ _ _ hc
      obtain ⟨m', rfl⟩ : ∃ m', m = m' + 1 := ⟨m - 1, by omega⟩
      rw [rsplit_more hc]
      by_cases h32 : y.head? = some 32
      · obtain ⟨z, rfl⟩ : ∃ z, y = 32 :: z := by
          match y, h32 with
          | c :: z, h32 => simp at h32; subst h32; exact ⟨z, rfl⟩
        have hi : Lib.index l [44, 32] = x.length := by rw [hxy]; exact index_cut hnx
        have hd : l.drop (x.length + 2) = z := by rw [hxy]; simp [List.drop_append]
        have ht : l.take x.length = x := by rw [hxy]; simp
        rw [piecesL_hit hi, hd, ht, if_pos h32, List.tail_cons, rsplit_eq m' z (by simp at hlen; omega), List.all_cons]
        cases isTy x <;> cases (piecesL z).all isTy <;> simp
      · have hfirst : ∃ p r, piecesL l = p :: r ∧ (44 : UInt8) ∈ p := by
          by_cases hi : Lib.index l [44, 32] = -1
          · exact ⟨l, [], piecesL_miss hi, by rw [hxy]; simp⟩
          · have hge := Lib.index_ge l [44, 32]
            obtain ⟨i, hii⟩ : ∃ i : Nat, Lib.index l [44, 32] = i := ⟨(Lib.index l [44, 32]).toNat, by omega⟩
            refine ⟨_, _, piecesL_hit hii, ?_⟩
            have hocc : Lib.occAt l [44, 32] i = true := by
              rcases Lib.index_spec l [44, 32] with ⟨h, -⟩ | ⟨j, h, -, ho, -⟩
              · exact absurd h hi
              · obtain rfl : i = j := by omega
                exact ho
            obtain ⟨h1, h2⟩ := occ_at hocc
            have hgt : x.length < i := by
              rcases Nat.lt_trichotomy i x.length with h | h | h
              · rw [hxy, List.getElem?_append_left h] at h1
                exact absurd (List.mem_of_getElem? h1) hnx
              · subst h
                rw [hxy, List.getElem?_append_right (by omega)] at h2
                simp at h2
                exfalso; apply h32
                rw [List.head?_eq_getElem?]; exact h2
              · exact h
            have : l[x.length]? = some 44 := by rw [hxy]; simp
            rw [← List.getElem?_take_of_lt hgt] at this
            exact List.mem_of_getElem? this
        obtain ⟨p, r, hp, h44⟩ := hfirst
        have hnt : isTy p = false := by
          rw [Bool.eq_false_iff]; intro h; exact isTy_no44 h h44
        rw [if_neg h32, hp, List.all_cons, hnt]
        simp
end Go.Proofs.YthgiianmfehcaaaDoor
