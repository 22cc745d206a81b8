/- Package types: Join. -/
import Derived.Test.YthgiianmfehcaaaDoorTyI
import Derived.Test.YthgiianmfehcaaaDoorShelf
import Derived.Lib.Join
import Derived.Lib.SplitLaws
namespace Go.Proofs.YthgiianmfehcaaaDoor
open Go Go.RowKit Go.Sort
set_option linter.unusedVariables false
set_option linter.unusedSimpArgs false

theorem elemOf_len9 {l : List UInt8} {q : Pd} (h : elemOf l = some q) : l.length ≤ 9 := by
  unfold elemOf at h
  split at h
  · rename_i h1; rw [h1]; decide
  · split at h
    · split at h
      · rename_i n hn
        unfold numOf at hn
        split at hn
        · cases hn
        · rename_i h2
          have : l.tail.length ≤ 8 := by omega
          simp at this; omega
      · cases h
    · cases h
theorem shapeP_len : ∀ (m : Nat) (l : List UInt8) (ext : List Nat) (r : List Nat × Nat), l.length ≤ m → shapeP ext (partsOf l) = some r → ext.length ≤ 3 → l.length ≤ 9 + 9 * (3 - ext.length)
  | m, l, ext, r, hm, h, hl => by
    by_cases h0 : l = [105, 110, 100, 101, 120] ∨ cutOf 120 l = none
    · rw [partsOf_last h0] at h
      simp only [shapeP] at h
      split at h
      · rename_i e he; have := elemOf_len9 he; omega
      · cases h
    · cases hc : cutOf 120 l with
      | none => exact absurd (.inr hc) h0
      | some p =>
        obtain ⟨x, y⟩ := p
        have hlen := cutOf_len hc
        obtain ⟨m', rfl⟩ : ∃ m', m = m' + 1 := ⟨m - 1, by omega⟩
        rw [partsOf_more (fun h => h0 (.inl h)) hc] at h
        simp only [shapeP] at h
        split at h
        · rename_i n hn
          have hx : x.length ≤ 8 := by
            unfold numOf at hn
            split at hn
            · cases hn
            · omega
          split at h
          · rename_i hcnd
            have := shapeP_len m' y _ r (by omega) h (by simp; omega)
            simp at this; omega
          · cases h
        · cases h
theorem readOf_len {l : List UInt8} {q : Pd} (h : readOf l = some q) : l.length ≤ 60 := by
  have hfor : ∀ {l : List UInt8} {q : Pd}, foreignOf l = some q → l.length ≤ 60 := fun {l q} h => by
    unfold foreignOf at h
    split at h
    · rename_i h1; exact h1.2
    · cases h
  have hsh : ∀ {k : Nat} {q : Pd}, shapeOf k ((l.take (l.length - 1)).drop 4) = some q → l.length ≤ 60 := fun {k q} h => by
    unfold shapeOf at h
    rw [Option.map_eq_some_iff] at h
    obtain ⟨r, hr, -⟩ := h
    have := shapeP_len _ _ _ _ (Nat.le_refl _) hr (by simp)
    simp at this; omega
  unfold readOf at h
  split at h
  · rename_i p hp
    have := elemOf_len9 hp; omega
  · split at h
    · split at h
      · exact hsh h
      · split at h
        · exact hsh h
        · exact hfor h
    · exact hfor h
theorem goodTy_len {s : ByteArray} (h : badTy s = false) : s.data.toList.length ≤ 60 := by
  unfold badTy at h
  simp only [decide_eq_false_iff_not, Decidable.not_not] at h
  exact readOf_len (askOf_zero h).1
theorem lens_le (b : Nat) : ∀ (xs : List (List UInt8)), (∀ x ∈ xs, x.length ≤ b) → Lib.lens xs ≤ b * xs.length
  | [], _ => by simp [Lib.lens]
  | x :: r, h => by
    have h1 := lens_le b r fun y hy => h y (by simp [hy])
    have h2 := h x (by simp)
    have : Lib.lens (x :: r) = x.length + Lib.lens r := by simp [Lib.lens]
    rw [this]
    simp [Nat.mul_add]; omega
theorem join_le {ls : List ByteArray} (h : ls.any badTy = false) (hn : ls.length ≤ 100) : (Lib.join (ls.map (·.data.toList)) [44, 32]).length ≤ 10000 := by
  cases ls with
  | nil => simp [Lib.join_nil]
  | cons x r =>
    rw [List.map_cons, Lib.join_length]
    have := lens_le 60 ((x :: r).map (·.data.toList)) (by
      intro y hy
      rw [List.mem_map] at hy
      obtain ⟨z, hz, rfl⟩ := hy
      rw [List.any_eq_false] at h
      exact goodTy_len (by simpa using h z hz))
    rw [List.map_cons] at this
    simp at this hn ⊢
    omega
/-- `types.Join`. -/
def joinOf (ls : List ByteArray) : List UInt8 × Nat :=
  if ls.any badTy then ([], 10) else if 100 < ls.length then ([], 2) else (40 :: Lib.join (ls.map (·.data.toList)) [44, 32] ++ [41], 0)
theorem join_sl {w : World} {a : Option Addr} {ls : List ByteArray} (h : StrSl w a ls) (c : Nat) (hc : ls.length ≤ c) (hN : ls.length ≤ 100) (hl : (Lib.join (ls.map (·.data.toList)) [44, 32]).length ≤ 10000) :
    Calls Tryd.prog 68 #[.slice a ls.length c, .string ⟨#[44, 32]⟩] w fun e w' => ∃ t : ByteArray, e = .returned (.string t) ∧ Hid (t.data.toList = Lib.join (ls.map (·.data.toList)) [44, 32]) ∧ t.size ≤ 10000 ∧ Below w.heap.size w w' := by
  rcases h with rfl | ⟨g, off, rfl, h2, h3⟩
  · exact (Tryd.strings_Join_none a c ⟨#[44, 32]⟩ w).mono fun e w' ⟨he, hw⟩ => ⟨_, he, rfl, by simp [ByteArray.size], by rw [hw]; exact Below.refl _ _⟩
  · refine (Tryd.strings_Join g off c ls ⟨#[44, 32]⟩ w (fun j x hx => ?_) h2 (by omega) hc (by simpa using Nat.le_trans hl (by decide))).mono fun e w' ⟨he, hb⟩ => ⟨_, he, rfl, ?_, hb⟩
    · obtain ⟨hj, rfl⟩ := List.getElem?_eq_some_iff.1 hx
      exact h3 j hj
    · simpa [ByteArray.size] using hl
set_option maxRecDepth 100000 in
set_option maxHeartbeats 2000000 in
theorem joinT_any (a : Option Addr) (c : Nat) (ls : List ByteArray) (w : World) (hs : StrSl w a ls) (hlen : ls.length ≤ 9223372036854775807) (hc : ls.length ≤ c) (hl : ∀ s ∈ ls, s.size ≤ 140737488355328) :
    Calls Tryd.prog 40 #[.slice a ls.length c] w fun e w' => e = .returned (.tuple #[.string ⟨(joinOf ls).1.toArray⟩, .int .i64 (joinOf ls).2]) ∧ Below w.heap.size w w' := by
  have HC := Lib.hid (contains_join a c ls w hs hlen hl)
  have HS := Lib.hid hs
  clear hs hl
  cases hb : ls.any badTy with
  | true =>
    have hj : joinOf ls = ([], 10) := by rw [joinOf, if_pos hb]
    rw [hj]
    have HB := Lib.hid hb; clear hb hj
    go_enter Tryd.func40, Tryd.ntmps40
    go_wp2_with (go_at_call 54; refine HC.out.mono ?_; rintro e w1 ⟨rfl, hb1⟩; rw [HB.out])
    go_ret2
    exact ⟨rfl, hb1⟩
  | false =>
    by_cases hn : 100 < ls.length
    · have hj : joinOf ls = ([], 2) := by rw [joinOf, if_neg (by rw [hb]; simp), if_pos hn]
      rw [hj]
      have HB := Lib.hid hb; clear hb hj
      have hn' : (100 : Int) < (ls.length : Int) := by omega
      go_enter Tryd.func40, Tryd.ntmps40
      go_wp2_with (go_at_call 54; refine HC.out.mono ?_; rintro e w1 ⟨rfl, hb1⟩; rw [HB.out])
      go_ret2
      exact ⟨rfl, hb1⟩
    · have hj : joinOf ls = (40 :: Lib.join (ls.map (·.data.toList)) [44, 32] ++ [41], 0) := by rw [joinOf, if_neg (by rw [hb]; simp), if_neg hn]
      rw [hj]
      have HJ := Lib.hid (join_le hb (by omega))
      have HB := Lib.hid hb; clear hb hj
      have hn' : (ls.length : Int) ≤ 100 := by omega
      go_enter Tryd.func40, Tryd.ntmps40
      go_wp2_with (first
        | (go_at_call 54; refine HC.out.mono ?_; rintro e w1 ⟨rfl, hb1⟩; rw [HB.out])
        | (go_at_call 68; refine (join_sl (HS.out.below hb1) c hc (by omega) HJ.out).mono ?_; rintro e w2 ⟨t, rfl, ht, htl, hb2⟩))
      go_ret2
      refine ⟨?_, below_own' hb1 hb2⟩
      have e1 : (⟨#[40]⟩ ++ t ++ ⟨#[41]⟩ : ByteArray) = ⟨(40 :: Lib.join (ls.map fun x : ByteArray => x.data.toList) [44, 32] ++ [41]).toArray⟩ := by
        apply ByteArray.ext
        rw [← ht.out]
        apply Array.ext'
        simp
      exact congrArg (fun t => Ending.returned (.tuple #[.string t, .int .i64 0])) e1
end Go.Proofs.YthgiianmfehcaaaDoor
