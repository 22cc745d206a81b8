/- Texts of this claim, laid together: TyI, TyJ, Sl, At0, At6, Ac0, At1. -/
import Derived.Test.YtmepjbjmjbpchaaGreatDoorShelf
import Derived.Lib.Join
import Derived.Lib.SplitLaws
import Derived.WalkLawsBesides
import Derived.WalkSpells
import Derived.Test.YtmepjbjmjbpchaaGreatDoorMg0
import Derived.Test.YtmepjbjmjbpchaaGreatDoorMg3
section
/- Package types: lists of types, read by a property. -/
namespace Go.Proofs.YtmepjbjmjbpchaaGreatDoor
open Go Go.RowKit Go.Sort
set_option linter.unusedVariables false
set_option linter.unusedSimpArgs false

/-- A slice of strings that is read. -/
def StrSl (w : World) (a : Option Addr) (ls : List ByteArray) : Prop :=
  ls = [] ∨ ∃ g off, a = some ⟨g, off, none⟩ ∧ g < w.heap.size ∧ ∀ j (hj : j < ls.length), w.cell? ⟨g, off + j, none⟩ = some (.string ls[j])
theorem StrSl.below {w w1 : World} {a : Option Addr} {ls : List ByteArray} (h : StrSl w a ls) (hb : Below w.heap.size w w1) : StrSl w1 a ls := by
  rcases h with h | ⟨g, off, h1, h2, h3⟩
  · exact .inl h
  · exact .inr ⟨g, off, h1, Nat.lt_of_lt_of_le h2 hb.size, fun j hj => (rdCell hb g h2 (off + j)).trans (h3 j hj)⟩
theorem StrSl.at {w : World} {a : Option Addr} {ls : List ByteArray} (h : StrSl w a ls) {j : Nat} (hj : j < ls.length) : ∃ g off, a = some ⟨g, off, none⟩ ∧ w.cell? ⟨g, off + j, none⟩ = some (.string ls[j]) := by
  rcases h with rfl | ⟨g, off, h1, h2, h3⟩
  · simp at hj
  · exact ⟨g, off, h1, h3 j hj⟩
theorem below_own' {w W w2 : World} (h : Below w.heap.size w W) (hb : Below W.heap.size W w2) : Below w.heap.size w w2 := h.trans (hb.mono h.size)
def idxOf (P : ByteArray → Bool) (ls : List ByteArray) : Int := match ls.findIdx? P with | some i => i | none => -1

set_option maxRecDepth 100000 in
set_option maxHeartbeats 2000000 in
theorem indexFunc_any (P : ByteArray → Bool) (f : Nat) (hin : ∀ args w, (callFunc f args).run Tryz.prog w = .ok (.enter f args) w)
    (a : Option Addr) (c : Nat) (ls : List ByteArray) (hf : ∀ s ∈ ls, ∀ (w : World), Calls Tryz.prog f #[.string s] w fun e w' => e = .returned (.bool (P s)) ∧ Below w.heap.size w w')
    (w : World) (hs : StrSl w a ls) (hlen : ls.length ≤ 9223372036854775807) :
    Calls Tryz.prog 131 #[.slice a ls.length c, .func (.func f) #[] #[]] w fun e w' => e = .returned (.int .i64 (idxOf P ls)) ∧ Below w.heap.size w w' := by
  have HS := Lib.hid hs
  have HF := Lib.hid hf
  clear hs hf
  go_enter Tryz.func131, Tryz.ntmps131
  go_wp2_with fail
  go_loopw [8] (fun i wr => ∃ j : Nat, j ≤ ls.length ∧ i = .int .i64 j ∧ Below w.heap.size w wr ∧ ∀ t (ht : t < j) (hl : t < ls.length), P ls[t] = false) (fun i _ => ls.length - (intOf i).toNat)
  · exact ⟨0, Nat.zero_le _, rfl, Below.refl _ _, fun t ht => by omega⟩
  · obtain ⟨j, hj, rfl, hb, hno⟩ := hrel
    have HB := Lib.hid hb
    have HNO := Lib.hid hno
    clear hb hno
    rcases Nat.lt_or_ge j ls.length with hlt | hge
    · obtain ⟨g, off, rfl, hcell⟩ := (HS.out.below HB.out).at hlt
      obtain ⟨s, hs⟩ : ∃ s, s = ls[j] := ⟨_, rfl⟩
      rw [← hs] at hcell
      have hfs := HF.out s (by rw [hs]; exact List.getElem_mem _)
      have HFS := Lib.hid hfs
      have HSJ := Lib.hid hs
      clear hfs hs
      cases hp : P s with
      | true =>
        have HP := Lib.hid hp; clear hp
        go_wp2_with (refine (HFS.out _).mono ?_; rintro e w2 ⟨rfl, hb2⟩; rw [HP.out])
        go_ret
        refine ⟨?_, below_own' HB.out hb2⟩
        have : ls.findIdx? P = some j := by
          rw [List.findIdx?_eq_some_iff_getElem]
          exact ⟨hlt, by rw [← HSJ.out]; exact HP.out, fun t ht => by rw [HNO.out t ht (by omega)]; simp⟩
        simp only [idxOf, this]
        rfl
      | false =>
        have HP := Lib.hid hp; clear hp
        go_wp2_with (refine (HFS.out _).mono ?_; rintro e w2 ⟨rfl, hb2⟩; rw [HP.out])
        go_roundw
        · refine ⟨j + 1, hlt, by simp, below_own' HB.out hb2, fun t ht hl => ?_⟩
          rcases Nat.lt_or_ge t j with h | h
          · exact HNO.out t h hl
          · have : t = j := by omega
            subst this
            rw [← HSJ.out]; exact HP.out
        · simp [intOf]; omega
    · go_wp2_with fail
      go_ret
      refine ⟨?_, HB.out⟩
      have : ls.findIdx? P = none := by
        rw [List.findIdx?_eq_none_iff]
        intro x hx
        obtain ⟨t, ht, rfl⟩ := List.getElem_of_mem hx
        exact HNO.out t (by omega) ht
      simp only [idxOf, this]
      rfl

set_option maxRecDepth 100000 in
theorem containsFunc_any (P : ByteArray → Bool) (f : Nat) (hin : ∀ args w, (callFunc f args).run Tryz.prog w = .ok (.enter f args) w)
    (a : Option Addr) (c : Nat) (ls : List ByteArray) (hf : ∀ s ∈ ls, ∀ (w : World), Calls Tryz.prog f #[.string s] w fun e w' => e = .returned (.bool (P s)) ∧ Below w.heap.size w w')
    (w : World) (hs : StrSl w a ls) (hlen : ls.length ≤ 9223372036854775807) :
    Calls Tryz.prog 97 #[.slice a ls.length c, .func (.func f) #[] #[]] w fun e w' => e = .returned (.bool (ls.any P)) ∧ Below w.heap.size w w' := by
  have HI := Lib.hid (indexFunc_any P f hin a c ls hf w hs hlen)
  clear hf hs
  obtain ⟨i, hi⟩ : ∃ i, i = idxOf P ls := ⟨_, rfl⟩
  have hany : decide (0 ≤ i) = ls.any P := by
    rw [hi, idxOf]
    split
    · rename_i n hn
      rw [List.findIdx?_eq_some_iff_getElem] at hn
      obtain ⟨h1, h2, -⟩ := hn
      rw [Bool.eq_iff_iff]
      simp
      exact ⟨_, List.getElem_mem h1, h2⟩
    · rename_i hn
      rw [List.findIdx?_eq_none_iff] at hn
      rw [Bool.eq_iff_iff]
      simp
      exact hn
  rw [← hany]
  have HA := Lib.hid hi
  clear hi hany
  go_enter Tryz.func97, Tryz.ntmps97
  go_wp2_with (go_at_call 131; refine HI.out.mono ?_; rintro e w2 ⟨rfl, hb2⟩; rw [← HA.out])
  go_ret
  exact ⟨rfl, hb2⟩

/-- A type that is wrong. -/
def badTy (s : ByteArray) : Bool := decide ((askAny s.data.toList).2 ≠ 0)
set_option maxRecDepth 100000 in
theorem split1_any (s : ByteArray) (hs : s.size ≤ 140737488355328) (w : World) : Calls Tryz.prog 98 #[.string s] w fun e w' => e = .returned (.bool (badTy s)) ∧ Below w.heap.size w w' := by
  obtain ⟨n, hn⟩ : ∃ n, n = (askAny s.data.toList).2 := ⟨_, rfl⟩
  rw [show badTy s = decide (n ≠ 0) from by rw [badTy, hn]]
  have HN := Lib.hid hn; clear hn
  go_enter Tryz.func98, Tryz.ntmps98
  go_wp2_with (go_at_call 99; refine (check_any _ _ hs).mono ?_; rintro e w2 ⟨rfl, hb2⟩; rw [← HN.out])
  go_ret
  refine ⟨?_, hb2⟩
  show Ending.returned (.bool ((n : Int) != 0)) = _
  congr 2
  rw [Bool.eq_iff_iff]; simp
set_option maxRecDepth 100000 in
theorem join1_any (s : ByteArray) (hs : s.size ≤ 140737488355328) (w : World) : Calls Tryz.prog 156 #[.string s] w fun e w' => e = .returned (.bool (badTy s)) ∧ Below w.heap.size w w' := by
  obtain ⟨n, hn⟩ : ∃ n, n = (askAny s.data.toList).2 := ⟨_, rfl⟩
  rw [show badTy s = decide (n ≠ 0) from by rw [badTy, hn]]
  have HN := Lib.hid hn; clear hn
  go_enter Tryz.func156, Tryz.ntmps156
  go_wp2_with (go_at_call 99; refine (check_any _ _ hs).mono ?_; rintro e w2 ⟨rfl, hb2⟩; rw [← HN.out])
  go_ret
  refine ⟨?_, hb2⟩
  show Ending.returned (.bool ((n : Int) != 0)) = _
  congr 2
  rw [Bool.eq_iff_iff]; simp
theorem contains_split (a : Option Addr) (c : Nat) (ls : List ByteArray) (w : World) (hs : StrSl w a ls) (hlen : ls.length ≤ 9223372036854775807) (hl : ∀ s ∈ ls, s.size ≤ 140737488355328) :
    Calls Tryz.prog 97 #[.slice a ls.length c, .func (.func 98) #[] #[]] w fun e w' => e = .returned (.bool (ls.any badTy)) ∧ Below w.heap.size w w' :=
  containsFunc_any badTy _ (fun args w => callFunc_enters Tryz.func98 (by kernel_rfl) rfl args w) a c ls (fun s hm w => split1_any s (hl s hm) w) w hs hlen
theorem contains_join (a : Option Addr) (c : Nat) (ls : List ByteArray) (w : World) (hs : StrSl w a ls) (hlen : ls.length ≤ 9223372036854775807) (hl : ∀ s ∈ ls, s.size ≤ 140737488355328) :
    Calls Tryz.prog 97 #[.slice a ls.length c, .func (.func 156) #[] #[]] w fun e w' => e = .returned (.bool (ls.any badTy)) ∧ Below w.heap.size w w' :=
  containsFunc_any badTy _ (fun args w => callFunc_enters Tryz.func156 (by kernel_rfl) rfl args w) a c ls (fun s hm w => join1_any s (hl s hm) w) w hs hlen
end Go.Proofs.YtmepjbjmjbpchaaGreatDoor
end
section
/- Package types: Join. -/
namespace Go.Proofs.YtmepjbjmjbpchaaGreatDoor
open Go Go.RowKit Go.Sort
set_option linter.unusedVariables false
set_option linter.unusedSimpArgs false

theorem elemOf_len9 {l : List UInt8} {q : Pd} (h : elemOf l = some q) : l.length ≤ 9 := by
  unfold elemOf at h
  split at h
  · rename_i h1; rw [h1]; decide
  · split at h
    · split at h
      · rename_i n hn
        unfold numOf at hn
        split at hn
        · cases hn
        · rename_i h2
          have : l.tail.length ≤ 8 := by omega
          simp at this; omega
      · cases h
    · cases h
theorem shapeP_len : ∀ (m : Nat) (l : List UInt8) (ext : List Nat) (r : List Nat × Nat), l.length ≤ m → shapeP ext (partsOf l) = some r → ext.length ≤ 3 → l.length ≤ 9 + 9 * (3 - ext.length)
  | m, l, ext, r, hm, h, hl => by
    by_cases h0 : l = [105, 110, 100, 101, 120] ∨ cutOf 120 l = none
    · rw [partsOf_last h0] at h
      simp only [shapeP] at h
      split at h
      · rename_i e he; have := elemOf_len9 he; omega
      · cases h
    · cases hc : cutOf 120 l with
      | none => exact absurd (.inr hc) h0
      | some p =>
        obtain ⟨x, y⟩ := p
        have hlen := cutOf_len hc
        obtain ⟨m', rfl⟩ : ∃ m', m = m' + 1 := ⟨m - 1, by omega⟩
        rw [partsOf_more (fun h => h0 (.inl h)) hc] at h
        simp only [shapeP] at h
        split at h
        · rename_i n hn
          have hx : x.length ≤ 8 := by
            unfold numOf at hn
            split at hn
            · cases hn
            · omega
          split at h
          · rename_i hcnd
            have := shapeP_len m' y _ r (by omega) h (by simp; omega)
            simp at this; omega
          · cases h
        · cases h
theorem readOf_len {l : List UInt8} {q : Pd} (h : readOf l = some q) : l.length ≤ 60 := by
  have hfor : ∀ {l : List UInt8} {q : Pd}, foreignOf l = some q → l.length ≤ 60 := fun {l q} h => by
    unfold foreignOf at h
    split at h
    · rename_i h1; exact h1.2
    · cases h
  have hsh : ∀ {k : Nat} {q : Pd}, shapeOf k ((l.take (l.length - 1)).drop 4) = some q → l.length ≤ 60 := fun {k q} h => by
    unfold shapeOf at h
    rw [Option.map_eq_some_iff] at h
    obtain ⟨r, hr, -⟩ := h
    have := shapeP_len _ _ _ _ (Nat.le_refl _) hr (by simp)
    simp at this; omega
  unfold readOf at h
  split at h
  · rename_i p hp
    have := elemOf_len9 hp; omega
  · split at h
    · split at h
      · exact hsh h
      · split at h
        · exact hsh h
        · exact hfor h
    · exact hfor h
theorem goodTy_len {s : ByteArray} (h : badTy s = false) : s.data.toList.length ≤ 60 := by
  unfold badTy at h
  simp only [decide_eq_false_iff_not, Decidable.not_not] at h
  exact readOf_len (askOf_zero h).1
theorem lens_le (b : Nat) : ∀ (xs : List (List UInt8)), (∀ x ∈ xs, x.length ≤ b) → Lib.lens xs ≤ b * xs.length
  | [], _ => by simp [Lib.lens]
  | x :: r, h => by
    have h1 := lens_le b r fun y hy => h y (by simp [hy])
    have h2 := h x (by simp)
    have : Lib.lens (x :: r) = x.length + Lib.lens r := by simp [Lib.lens]
    rw [this]
    simp [Nat.mul_add]; omega
theorem join_le {ls : List ByteArray} (h : ls.any badTy = false) (hn : ls.length ≤ 100) : (Lib.join (ls.map (·.data.toList)) [44, 32]).length ≤ 10000 := by
  cases ls with
  | nil => simp [Lib.join_nil]
  | cons x r =>
    rw [List.map_cons, Lib.join_length]
    have := lens_le 60 ((x :: r).map (·.data.toList)) (by
      intro y hy
      rw [List.mem_map] at hy
      obtain ⟨z, hz, rfl⟩ := hy
      rw [List.any_eq_false] at h
      exact goodTy_len (by simpa using h z hz))
    rw [List.map_cons] at this
    simp at this hn ⊢
    omega
/-- `types.Join`. -/
def joinOf (ls : List ByteArray) : List UInt8 × Nat :=
  if ls.any badTy then ([], 10) else if 100 < ls.length then ([], 2) else (40 :: Lib.join (ls.map (·.data.toList)) [44, 32] ++ [41], 0)
theorem join_sl {w : World} {a : Option Addr} {ls : List ByteArray} (h : StrSl w a ls) (c : Nat) (hc : ls.length ≤ c) (hN : ls.length ≤ 100) (hl : (Lib.join (ls.map (·.data.toList)) [44, 32]).length ≤ 10000) :
    Calls Tryz.prog 79 #[.slice a ls.length c, .string ⟨#[44, 32]⟩] w fun e w' => ∃ t : ByteArray, e = .returned (.string t) ∧ Hid (t.data.toList = Lib.join (ls.map (·.data.toList)) [44, 32]) ∧ t.size ≤ 10000 ∧ Below w.heap.size w w' := by
  rcases h with rfl | ⟨g, off, rfl, h2, h3⟩
  · exact (Tryz.strings_Join_none a c ⟨#[44, 32]⟩ w).mono fun e w' ⟨he, hw⟩ => ⟨_, he, rfl, by simp [ByteArray.size], by rw [hw]; exact Below.refl _ _⟩
  · refine (Tryz.strings_Join g off c ls ⟨#[44, 32]⟩ w (fun j x hx => ?_) h2 (by omega) hc (by simpa using Nat.le_trans hl (by decide))).mono fun e w' ⟨he, hb⟩ => ⟨_, he, rfl, ?_, hb⟩
    · obtain ⟨hj, rfl⟩ := List.getElem?_eq_some_iff.1 hx
      exact h3 j hj
    · simpa [ByteArray.size] using hl
set_option maxRecDepth 100000 in
set_option maxHeartbeats 2000000 in
theorem joinT_any (a : Option Addr) (c : Nat) (ls : List ByteArray) (w : World) (hs : StrSl w a ls) (hlen : ls.length ≤ 9223372036854775807) (hc : ls.length ≤ c) (hl : ∀ s ∈ ls, s.size ≤ 140737488355328) :
    Calls Tryz.prog 138 #[.slice a ls.length c] w fun e w' => e = .returned (.tuple #[.string ⟨(joinOf ls).1.toArray⟩, .int .i64 (joinOf ls).2]) ∧ Below w.heap.size w w' := by
  have HC := Lib.hid (contains_join a c ls w hs hlen hl)
  have HS := Lib.hid hs
  clear hs hl
  cases hb : ls.any badTy with
  | true =>
    have hj : joinOf ls = ([], 10) := by rw [joinOf, if_pos hb]
    rw [hj]
    have HB := Lib.hid hb; clear hb hj
    go_enter Tryz.func138, Tryz.ntmps138
    go_wp2_with (go_at_call 97; refine HC.out.mono ?_; rintro e w1 ⟨rfl, hb1⟩; rw [HB.out])
    go_ret2
    exact ⟨rfl, hb1⟩
  | false =>
    by_cases hn : 100 < ls.length
    · have hj : joinOf ls = ([], 2) := by rw [joinOf, if_neg (by rw [hb]; simp), if_pos hn]
      rw [hj]
      have HB := Lib.hid hb; clear hb hj
      have hn' : (100 : Int) < (ls.length : Int) := by omega
      go_enter Tryz.func138, Tryz.ntmps138
      go_wp2_with (go_at_call 97; refine HC.out.mono ?_; rintro e w1 ⟨rfl, hb1⟩; rw [HB.out])
      go_ret2
      exact ⟨rfl, hb1⟩
    · have hj : joinOf ls = (40 :: Lib.join (ls.map (·.data.toList)) [44, 32] ++ [41], 0) := by rw [joinOf, if_neg (by rw [hb]; simp), if_neg hn]
      rw [hj]
      have HJ := Lib.hid (join_le hb (by omega))
      have HB := Lib.hid hb; clear hb hj
      have hn' : (ls.length : Int) ≤ 100 := by omega
      go_enter Tryz.func138, Tryz.ntmps138
      go_wp2_with (first
        | (go_at_call 97; refine HC.out.mono ?_; rintro e w1 ⟨rfl, hb1⟩; rw [HB.out])
        | (go_at_call 79; refine (join_sl (HS.out.below hb1) c hc (by omega) HJ.out).mono ?_; rintro e w2 ⟨t, rfl, ht, htl, hb2⟩))
      go_ret2
      refine ⟨?_, below_own' hb1 hb2⟩
      have e1 : (⟨#[40]⟩ ++ t ++ ⟨#[41]⟩ : ByteArray) = ⟨(40 :: Lib.join (ls.map fun x : ByteArray => x.data.toList) [44, 32] ++ [41]).toArray⟩ := by
        apply ByteArray.ext
        rw [← ht.out]
        apply Array.ext'
        simp
      exact congrArg (fun t => Ending.returned (.tuple #[.string t, .int .i64 0])) e1
end Go.Proofs.YtmepjbjmjbpchaaGreatDoor
end
section
/- Slices of integers that are read. -/
namespace Go.Proofs.YtmepjbjmjbpchaaGreatDoor
open Go Go.RowKit
set_option linter.unusedVariables false
set_option linter.unusedSimpArgs false

/-- A slice of ints that is read. -/
def IntSl (w : World) (a : Option Addr) (zs : List Int) : Prop :=
  zs = [] ∨ ∃ g off, a = some ⟨g, off, none⟩ ∧ g < w.heap.size ∧ ∀ j, j < zs.length → w.cell? ⟨g, off + j, none⟩ = some (.int .i64 (zs.getD j 0))
theorem IntSl.below {w w1 : World} {a : Option Addr} {zs : List Int} (h : IntSl w a zs) (hb : Below w.heap.size w w1) : IntSl w1 a zs := by
  rcases h with h | ⟨g, off, h1, h2, h3⟩
  · exact .inl h
  · exact .inr ⟨g, off, h1, Nat.lt_of_lt_of_le h2 hb.size, fun j hj => (rdCell hb g h2 (off + j)).trans (h3 j hj)⟩
theorem IntSl.at {w : World} {a : Option Addr} {zs : List Int} (h : IntSl w a zs) {j : Nat} (hj : j < zs.length) : ∃ g off, a = some ⟨g, off, none⟩ ∧ g < w.heap.size ∧ w.cell? ⟨g, off + j, none⟩ = some (.int .i64 (zs.getD j 0)) := by
  rcases h with rfl | ⟨g, off, h1, h2, h3⟩
  · simp at hj
  · exact ⟨g, off, h1, h2, h3 j hj⟩
end Go.Proofs.YtmepjbjmjbpchaaGreatDoor
end
section
/- Attributes as plain data, what is right of them, and how they lie in memory. -/
namespace Go.Proofs.YtmepjbjmjbpchaaGreatDoor
open Go Go.RowKit
set_option linter.unusedVariables false
set_option linter.unusedSimpArgs false

/-- An attribute as plain data (and where its lists lie). -/
structure Atr where
  name : ByteArray
  kind : Int
  num : Int
  text : ByteArray
  ia : Option Addr
  ints : List Int
  ic : Nat
  ta : Option Addr
  texts : List ByteArray
  tc : Nat
/-- An attribute as the program's value. -/
abbrev av (nm : ByteArray) (k n : Int) (tx : ByteArray) (ia : Option Addr) (il ic : Nat) (ta : Option Addr) (tl tc : Nat) : Value :=
  .agg #[.string nm, .int .i64 k, .int .i64 n, .string tx, .slice ia il ic, .slice ta tl tc]
abbrev avCells (nm : ByteArray) (k n : Int) (tx : ByteArray) (ia : Option Addr) (il ic : Nat) (ta : Option Addr) (tl tc : Nat) : Array Value :=
  #[.string nm, .int .i64 k, .int .i64 n, .string tx, .slice ia il ic, .slice ta tl tc]
abbrev Atr.val (a : Atr) : Value := av a.name a.kind a.num a.text a.ia a.ints.length a.ic a.ta a.texts.length a.tc
def Atr.cells (a : Atr) : List Value := [.string a.name, .int .i64 a.kind, .int .i64 a.num, .string a.text, .slice a.ia a.ints.length a.ic, .slice a.ta a.texts.length a.tc]
/-- Its lists lie in memory. -/
structure Atr.Lies (w : World) (a : Atr) : Prop where
  ints : IntSl w a.ia a.ints
  texts : StrSl w a.ta a.texts
theorem Atr.Lies.below {w w1 : World} {a : Atr} (h : a.Lies w) (hb : Below w.heap.size w w1) : a.Lies w1 := ⟨h.ints.below hb, h.texts.below hb⟩
/-- Its sizes are those of a machine. -/
structure Atr.Fits (a : Atr) : Prop where
  name : a.name.size ≤ 140737488351232
  text : a.text.size ≤ 140737488351232
  num : -9223372036854775808 ≤ a.num ∧ a.num ≤ 9223372036854775807
  kind : -9223372036854775808 ≤ a.kind ∧ a.kind ≤ 9223372036854775807
  intsC : a.ints.length ≤ a.ic
  ints : ∀ z ∈ a.ints, -9223372036854775808 ≤ z ∧ z ≤ 9223372036854775807
  il : a.ints.length * 8 ≤ 140737488351232
  textsC : a.texts.length ≤ a.tc
  texts : ∀ s ∈ a.texts, s.size ≤ 140737488351232
  tl : a.texts.length * 16 ≤ 140737488351232

def isTyB (s : ByteArray) : Bool := (readOf s.data.toList).isSome
def noListsB (il tl : Nat) : Bool := ((il : Int) == 0) && ((tl : Int) == 0)
def noTextB (tx : ByteArray) (il tl : Nat) : Bool := tx.toList.isEmpty && noListsB il tl
def noNumB (n : Int) (il tl : Nat) : Bool := (n == 0) && noListsB il tl
def noneOfB (n : Int) (tx : ByteArray) : Bool := (n == 0) && tx.toList.isEmpty
def ownB (a : Atr) : Bool :=
  if a.kind = 0 then true else if a.kind = 1 then decide (a.text.size ≤ 1000) else if a.kind = 2 then nameOf a.text.data.toList
  else if a.kind = 3 then isTyB a.text else if a.kind = 4 then decide (a.ints.length ≤ 100) && (a.texts.length == 0)
  else if a.kind = 5 then decide (a.texts.length ≤ 100) && a.texts.all isTyB && (a.ints.length == 0) else false
def aloneB (a : Atr) : Bool :=
  if a.kind = 0 then noTextB a.text a.ints.length a.texts.length else if a.kind = 1 ∨ a.kind = 2 ∨ a.kind = 3 then noNumB a.num a.ints.length a.texts.length else noneOfB a.num a.text
/-- Whether an attribute is right. -/
def rightA (a : Atr) : Bool := decide (0 ≤ a.kind ∧ a.kind ≤ 5) && nameOf a.name.data.toList && ownB a && aloneB a
/-- The order of strings. -/
def nmLt (s t : ByteArray) : Bool := Op.bytesLess s.toList t.toList
/-- Whether an attribute may stand where it stands. -/
def okAt (l : List Atr) (j : Nat) : Bool :=
  match l[j]? with
  | none => true
  | some a => rightA a && (match j with | 0 => true | k + 1 => match l[k]? with | none => true | some b => nmLt b.name a.name)
def rightL (l : List Atr) : Bool := decide (l.length ≤ 100) && (List.range l.length).all (okAt l)
/-- A slice of attributes that is read. -/
structure AtrSl (w : World) (p : Option Addr) (l : List Atr) : Prop where
  at' : l = [] ∨ ∃ g off, p = some ⟨g, off, none⟩ ∧ g < w.heap.size ∧ ∀ j (hj : j < l.length) (i : Nat), i < 6 → w.cell? ⟨g, off + j * 6 + i, none⟩ = l[j].cells[i]?
  lies : ∀ a ∈ l, a.Lies w
  fits : ∀ a ∈ l, a.Fits
theorem AtrSl.below {w w1 : World} {p : Option Addr} {l : List Atr} (h : AtrSl w p l) (hb : Below w.heap.size w w1) : AtrSl w1 p l := by
  refine ⟨?_, fun a ha => (h.lies a ha).below hb, h.fits⟩
  rcases h.at' with h | ⟨g, off, h1, h2, h3⟩
  · exact .inl h
  · exact .inr ⟨g, off, h1, Nat.lt_of_lt_of_le h2 hb.size, fun j hj i hi => (rdCell hb g h2 _).trans (h3 j hj i hi)⟩
end Go.Proofs.YtmepjbjmjbpchaaGreatDoor
end
section
/- The order of names; cmp.Compare. -/
namespace Go.Proofs.YtmepjbjmjbpchaaGreatDoor
open Go Go.RowKit
set_option linter.unusedVariables false
set_option linter.unusedSimpArgs false

theorem bl_irrefl : ∀ x : List UInt8, Op.bytesLess x x = false
  | [] => rfl
  | a :: x => by simp [Op.bytesLess, bl_irrefl x]
theorem bl_trans : ∀ x y z : List UInt8, Op.bytesLess x y = true → Op.bytesLess y z = true → Op.bytesLess x z = true
  | _, [], _, h, _ => by cases ‹List UInt8› <;> simp [Op.bytesLess] at h
  | _, _ :: _, [], _, h => by simp [Op.bytesLess] at h
  | [], b :: y, c :: z, _, _ => by simp [Op.bytesLess]
  | a :: x, b :: y, c :: z, h1, h2 => by
    simp only [Op.bytesLess, Bool.or_eq_true, Bool.and_eq_true, decide_eq_true_eq, beq_iff_eq] at h1 h2 ⊢
    rcases h1 with h1 | ⟨rfl, h1⟩
    · rcases h2 with h2 | ⟨rfl, h2⟩
      · exact .inl (UInt8.lt_trans h1 h2)
      · exact .inl h1
    · rcases h2 with h2 | ⟨rfl, h2⟩
      · exact .inl h2
      · exact .inr ⟨rfl, bl_trans x y z h1 h2⟩
theorem bl_total : ∀ x y : List UInt8, Op.bytesLess x y = false → Op.bytesLess y x = false → x = y
  | [], [], _, _ => rfl
  | [], b :: y, h, _ => by simp [Op.bytesLess] at h
  | a :: x, [], _, h => by simp [Op.bytesLess] at h
  | a :: x, b :: y, h1, h2 => by
    simp only [Op.bytesLess, Bool.or_eq_false_iff, Bool.and_eq_false_iff, decide_eq_false_iff_not, beq_eq_false_iff_ne] at h1 h2
    have hab : a = b := by
      apply UInt8.toNat_inj.1
      have h3 := h1.1; have h4 := h2.1
      rw [UInt8.lt_iff_toNat_lt] at h3 h4
      omega
    subst hab
    have h3 : Op.bytesLess x y = false := by rcases h1.2 with h | h; exact absurd rfl h; simpa using h
    have h4 : Op.bytesLess y x = false := by rcases h2.2 with h | h; exact absurd rfl h; simpa using h
    rw [bl_total x y h3 h4]
theorem toList_inj {s t : ByteArray} : s.toList = t.toList ↔ s = t := by
  constructor
  · intro h
    rw [ByteArray.toList_eq, ByteArray.toList_eq] at h
    exact ByteArray.ext (Array.ext' h)
  · rintro rfl; rfl
theorem toList_beq (s t : ByteArray) : (s.toList == t.toList) = decide (s = t) := by
  rw [Bool.eq_iff_iff]; simp [toList_inj]
theorem nm_irrefl (s : ByteArray) : nmLt s s = false := bl_irrefl _
theorem nm_trans {s t u : ByteArray} (h1 : nmLt s t = true) (h2 : nmLt t u = true) : nmLt s u = true := bl_trans _ _ _ h1 h2
theorem nm_total {s t : ByteArray} (h1 : nmLt s t = false) (h2 : nmLt t s = false) : s = t := toList_inj.1 (bl_total _ _ h1 h2)
/-- cmp.Compare at strings. -/
def nmCmp (s t : ByteArray) : Int := if nmLt s t then -1 else if nmLt t s then 1 else 0

theorem isNaN_any (s : ByteArray) (w : World) : Calls Tryz.prog 80 #[.string s] w fun e w' => e = .returned (.bool false) ∧ w = w' := by
  go_enter Tryz.func80, Tryz.ntmps80
  go_wp2_with fail
  go_ret
  exact ⟨by simp, rfl⟩
theorem compare_any (s t : ByteArray) (w : World) : Calls Tryz.prog 56 #[.string s, .string t] w fun e w' => e = .returned (.int .i64 (nmCmp s t)) ∧ w = w' := by
  have h3 : (nmLt s t = true) ∨ (nmLt s t = false ∧ s ≠ t ∧ nmLt t s = true) ∨ (nmLt s t = false ∧ s = t) := by
    cases h : nmLt s t
    · cases h2 : nmLt t s
      · exact .inr (.inr ⟨rfl, nm_total h h2⟩)
      · refine .inr (.inl ⟨rfl, ?_, rfl⟩)
        rintro rfl; rw [h] at h2; cases h2
    · exact .inl rfl
  rcases h3 with h | ⟨h, h2, h3⟩ | ⟨h, rfl⟩
  · have hv : Hid (nmCmp s t = -1) := Lib.hid (by unfold nmCmp; rw [if_pos h])
    have hb : Op.bytesLess s.toList t.toList = true := h
    clear h
    go_enter Tryz.func56, Tryz.ntmps56
    go_wp2_with (go_at_call 80; refine (isNaN_any _ _).mono ?_; rintro e w1 ⟨rfl, rfl⟩)
    go_ret
    exact ⟨by rw [hv.out]; rfl, rfl⟩
  · have hv : Hid (nmCmp s t = 1) := Lib.hid (by unfold nmCmp; rw [if_neg (by rw [h]; simp), if_pos h3])
    have hb : Op.bytesLess s.toList t.toList = false := h
    have he : (s.toList == t.toList) = false := by rw [toList_beq]; simpa using h2
    clear h h2 h3
    go_enter Tryz.func56, Tryz.ntmps56
    go_wp2_with (go_at_call 80; refine (isNaN_any _ _).mono ?_; rintro e w1 ⟨rfl, rfl⟩)
    go_ret
    exact ⟨by rw [hv.out]; rfl, rfl⟩
  · have hv : Hid (nmCmp s s = 0) := Lib.hid (by unfold nmCmp; rw [nm_irrefl]; simp)
    have hb : Op.bytesLess s.toList s.toList = false := h
    clear h
    go_enter Tryz.func56, Tryz.ntmps56
    go_wp2_with (go_at_call 80; refine (isNaN_any _ _).mono ?_; rintro e w1 ⟨rfl, rfl⟩)
    go_ret
    exact ⟨by rw [hv.out]; rfl, rfl⟩
end Go.Proofs.YtmepjbjmjbpchaaGreatDoor
end
section
/- slices.Clone at []int64 and []string. -/
namespace Go.Proofs.YtmepjbjmjbpchaaGreatDoor
open Go Go.RowKit Go.Sort
set_option linter.unusedVariables false
set_option linter.unusedSimpArgs false

theorem getD_at' {α : Type} (d : α) {x : List α} {j : Nat} (h : j < x.length) : x.getD j d = x[j] := by
  rw [List.getD_eq_getElem?_getD, List.getElem?_eq_getElem h, Option.getD_some]
def ClonedI (zs : List Int) (w : World) (e : Ending) (w' : World) : Prop := ∃ a' c', e = .returned (.slice a' zs.length c') ∧ IntSl w' a' zs ∧ zs.length ≤ c' ∧ (∀ x, a' = some x → w.heap.size ≤ x.block ∧ x.block < w'.heap.size) ∧ Below w.heap.size w w'
def ClonedS (zs : List ByteArray) (w : World) (e : Ending) (w' : World) : Prop := ∃ a' c', e = .returned (.slice a' zs.length c') ∧ StrSl w' a' zs ∧ zs.length ≤ c' ∧ (∀ x, a' = some x → w.heap.size ≤ x.block ∧ x.block < w'.heap.size) ∧ Below w.heap.size w w'
theorem own_form {w : World} {base : Nat} {T : TypeId} {sz n : Nat} {v : Value} {xs : List Value} (h : w.ownsRow base T sz v n xs) : ∃ a c, v = .slice a n c ∧ n ≤ c ∧ ∀ x, a = some x → base ≤ x.block ∧ x.block < w.heap.size := by
  rcases h.2 with ⟨h1, h2⟩ | ⟨g, cap, cur, h1, hbg, hg2, h4, _⟩
  · exact ⟨none, 0, by rw [h1, h2], by omega, by simp⟩
  · exact ⟨_, cap, h1, h4, fun x hx => by cases hx; exact ⟨hbg, blkLt hg2⟩⟩
theorem own_ints {w : World} {base : Nat} {T : TypeId} {a : Option Addr} {n c : Nat} {zs : List Int} (h : w.ownsRow base T 1 (.slice a n c) n (zs.map (.int .i64))) : IntSl w a zs := by
  rcases h.2 with ⟨h1, h2⟩ | ⟨g, cap, cur, h1, hb, h2, h4, h5, h6, h7⟩
  · left; have := h.1; rw [h2] at this; simpa using this
  · cases h1
    refine .inr ⟨g, 0, rfl, blkLt h2, fun j hj => ?_⟩
    rw [blkCell h2]
    have hn : zs.length = n := by have := h.1; simpa using this
    have : cur.toList[j]? = (zs.map (Value.int .i64))[j]? := by
      rw [← h7, List.getElem?_take, if_pos (by omega)]
    rw [Nat.zero_add, ← Array.getElem?_toList, this, getD_at' _ hj]
    simp [hj]
theorem own_strs {w : World} {base : Nat} {T : TypeId} {a : Option Addr} {n c : Nat} {zs : List ByteArray} (h : w.ownsRow base T 1 (.slice a n c) n (zs.map .string)) : StrSl w a zs := by
  rcases h.2 with ⟨h1, h2⟩ | ⟨g, cap, cur, h1, hb, h2, h4, h5, h6, h7⟩
  · left; have := h.1; rw [h2] at this; simpa using this
  · cases h1
    refine .inr ⟨g, 0, rfl, blkLt h2, fun j hj => ?_⟩
    rw [blkCell h2]
    have hn : zs.length = n := by have := h.1; simpa using this
    have : cur.toList[j]? = (zs.map Value.string)[j]? := by
      rw [← h7, List.getElem?_take, if_pos (by omega)]
    rw [Nat.zero_add, ← Array.getElem?_toList, this]
    simp [hj]

set_option maxRecDepth 100000 in
set_option maxHeartbeats 4000000 in
theorem cloneI_any (a : Option Addr) (c : Nat) (zs : List Int) (w : World) (hlen : zs.length * 8 ≤ 140737488351232) (hs : IntSl w a zs) :
    Calls Tryz.prog 67 #[.slice a zs.length c] w (ClonedI zs w) := by
  obtain ⟨i0, hin, hz0, hz1, hz2⟩ := info_parts (show (Tryz.prog.info? 2).map (fun i => (i.zero, i.size, i.bytes)) = some (some (.int .i64 0), 1, 8) by kernel_rfl)
  have hcell : ∀ x, a = some x → ∀ j, j < zs.length → w.cell? (x.add j) = some (.int .i64 (zs.getD j 0)) ∧ x.block < w.heap.size := by
    rintro x rfl j hj
    rcases hs with rfl | ⟨g, off, he, hg, hc⟩
    · simp at hj
    · cases he
      have hadd : (⟨g, off, none⟩ : Addr).add j = ⟨g, off + j, none⟩ := by unfold Addr.add; simp
      rw [hadd]; exact ⟨hc j hj, hg⟩
  have hnone : a = none → zs = [] := by
    rintro rfl
    rcases hs with h | ⟨g, off, he, _⟩
    · exact h
    · cases he
  have HC := Lib.hid hcell
  clear hcell hs
  cases a with
  | none =>
    obtain rfl := hnone rfl
    clear hnone HC
    go_enter Tryz.func67, Tryz.ntmps67
    have hnil := Lib.run_eql_slice_nil w 24 2 none 0 c 0 0 Tryz.underlying24
    go_wp2_with fail
    go_ret
    exact ⟨none, 0, rfl, .inl rfl, by simp, by simp, Below.refl _ _⟩
  | some x =>
    clear hnone
    have hnil := Lib.run_eql_slice_nil w 24 2 (some x) zs.length c 0 0 Tryz.underlying24
    go_enter Tryz.func67, Tryz.ntmps67
    have hown0 : (w.alloc (.cells #[] 2)).ownsRow w.heap.size 2 1 (.slice (some ⟨w.heap.size, 0, none⟩) 0 0) 0 [] := ⟨rfl, .inr ⟨w.heap.size, 0, #[], rfl, Nat.le_refl _, heap_alloc_new _ _, Nat.le_refl _, by unfold maxLen; omega, rfl, rfl⟩⟩
    have HOWN := Lib.hid hown0
    clear hown0
    go_wp2_with (at_builtin; refine wpList_append_own _ rfl _ _ 24 rfl w.heap.size 2 i0 (.int .i64 0) 1 8 Tryz.underlying24 hin hz0 hz1 hz2 rfl (by decide) _ _ _ rfl HOWN.out x zs.length c (zs.map (.int .i64)) rfl ?c0 ?c1 ?c2 ?c3 ?c4 ?c5 ?_)
    case c0 => simp
    case c1 =>
      intro t u hj
      rw [List.getElem?_map] at hj
      obtain ⟨y, hy, rfl⟩ := Option.map_eq_some_iff.1 hj
      obtain ⟨hl, rfl⟩ := List.getElem?_eq_some_iff.1 hy
      have h1 := HC.out x rfl t hl
      rw [getD_at' _ hl] at h1
      exact (((Below.refl w.heap.size w).alloc (Nat.le_refl _) _).cell (p := x.add t) (by unfold Addr.add; split <;> exact h1.2)).trans h1.1
    case c2 => intro u hu; simp only [List.mem_map] at hu; obtain ⟨y, -, rfl⟩ := hu; rfl
    case c3 => unfold maxLen; omega
    case c4 => omega
    case c5 => simp
    intro v' w3 hown' hgrow _
    have HOWN3 := Lib.hid hown'
    have HB3 := Lib.hid ((belowA (Below.refl w.heap.size w) (.cells #[] 2)).grown hgrow (by simp) (fun k hk => (HOWN.out.lt k hk).1))
    obtain ⟨a', c', rfl, hcap, hfr⟩ := own_form hown'
    clear hown'
    go_wp2_with fail
    go_ret
    exact ⟨a', c', by simp, own_ints (by simpa using HOWN3.out), by simpa using hcap, hfr, HB3.out⟩
theorem cloneS_any (a : Option Addr) (c : Nat) (zs : List ByteArray) (w : World) (hlen : zs.length * 16 ≤ 140737488351232) (hs : StrSl w a zs) :
    Calls Tryz.prog 68 #[.slice a zs.length c] w (ClonedS zs w) := by
  rcases hs with rfl | ⟨g, off, rfl, hg, hc⟩
  · cases a with
    | none => exact (Tryz.slices_Clone_string_nil 0 c w).mono fun e w' ⟨he, hw⟩ => ⟨none, 0, he, .inl rfl, by simp, by simp, by rw [hw]; exact Below.refl _ _⟩
    | some x =>
      refine (Tryz.slices_Clone_string_zero x c w).mono ?_
      rintro e w' ⟨v, he, ho, _, hb⟩
      obtain ⟨a', c', rfl, hcap, hfr⟩ := own_form ho
      exact ⟨a', c', he, .inl rfl, hcap, hfr, hb⟩
  · refine (Tryz.slices_Clone_string g off zs.length c zs w (Nat.le_refl _) (by omega) (fun j hj => by rw [hc j hj, getD_at' _ hj])).mono fun e w' ⟨v, he, ho, _, hb⟩ => ?_
    rw [List.take_length] at ho
    obtain ⟨a', c', rfl, hcap, hfr⟩ := own_form ho
    exact ⟨a', c', he, own_strs ho, hcap, hfr, hb⟩
end Go.Proofs.YtmepjbjmjbpchaaGreatDoor
end
section
/- Package attrs: the small methods, and the table of kinds. -/
namespace Go.Proofs.YtmepjbjmjbpchaaGreatDoor
open Go Go.RowKit
set_option linter.unusedVariables false
set_option linter.unusedSimpArgs false

section
variable (nm : ByteArray) (k n : Int) (tx : ByteArray) (ia : Option Addr) (il ic : Nat) (ta : Option Addr) (tl tc : Nat) (w : World)
theorem always_any : Calls Tryz.prog 100 #[av nm k n tx ia il ic ta tl tc] w fun e w' => e = .returned (.bool true) ∧ Below w.heap.size w w' := by
  go_enter Tryz.func100, Tryz.ntmps100
  go_wp2_with fail
  go_ret
  exact ⟨rfl, (Below.refl _ w).alloc (Nat.le_refl _) _⟩
theorem noLists_any : Calls Tryz.prog 135 #[av nm k n tx ia il ic ta tl tc] w fun e w' => e = .returned (.bool (noListsB il tl)) ∧ Below w.heap.size w w' := by
  unfold noListsB
  cases h : ((il : Int) == 0)
  all_goals
    go_enter Tryz.func135, Tryz.ntmps135
    go_wp2_with fail
    all_goals (go_ret; exact ⟨by simp, (Below.refl _ w).alloc (Nat.le_refl _) _⟩)
theorem noText_any : Calls Tryz.prog 101 #[av nm k n tx ia il ic ta tl tc] w fun e w' => e = .returned (.bool (noTextB tx il tl)) ∧ Below w.heap.size w w' := by
  unfold noTextB
  cases h : tx.toList.isEmpty
  all_goals
    go_enter Tryz.func101, Tryz.ntmps101
    go_wp2_with (go_at_call 135; refine (noLists_any _ _ _ _ _ _ _ _ _ _ _).mono ?_; rintro e w1 ⟨rfl, hb1⟩)
    all_goals (go_ret; first | exact ⟨by simp, (Below.refl _ w).alloc (Nat.le_refl _) _⟩ | exact ⟨by simp, below_own hb1⟩)
theorem noNumber_any : Calls Tryz.prog 104 #[av nm k n tx ia il ic ta tl tc] w fun e w' => e = .returned (.bool (noNumB n il tl)) ∧ Below w.heap.size w w' := by
  unfold noNumB
  cases h : (n == 0)
  all_goals
    go_enter Tryz.func104, Tryz.ntmps104
    go_wp2_with (go_at_call 135; refine (noLists_any _ _ _ _ _ _ _ _ _ _ _).mono ?_; rintro e w1 ⟨rfl, hb1⟩)
    all_goals (go_ret; first | exact ⟨by simp, (Below.refl _ w).alloc (Nat.le_refl _) _⟩ | exact ⟨by simp, below_own hb1⟩)
theorem noneOf_any : Calls Tryz.prog 111 #[av nm k n tx ia il ic ta tl tc] w fun e w' => e = .returned (.bool (noneOfB n tx)) ∧ Below w.heap.size w w' := by
  unfold noneOfB
  cases h : (n == 0)
  all_goals
    go_enter Tryz.func111, Tryz.ntmps111
    go_wp2_with fail
    all_goals (go_ret; exact ⟨by simp, (Below.refl _ w).alloc (Nat.le_refl _) _⟩)
theorem isText_any : Calls Tryz.prog 103 #[av nm k n tx ia il ic ta tl tc] w fun e w' => e = .returned (.bool (decide (tx.size ≤ 1000))) ∧ Below w.heap.size w w' := by
  go_enter Tryz.func103, Tryz.ntmps103
  go_wp2_with fail
  all_goals (go_ret; exact ⟨by simp; omega, (Below.refl _ w).alloc (Nat.le_refl _) _⟩)
theorem isSymbol_any : Calls Tryz.prog 106 #[av nm k n tx ia il ic ta tl tc] w fun e w' => e = .returned (.bool (nameOf tx.data.toList)) ∧ Below w.heap.size w w' := by
  go_enter Tryz.func106, Tryz.ntmps106
  go_wp2_with (go_at_call 42; refine (isName_any _ _).mono ?_; rintro e w1 ⟨rfl, rfl⟩)
  all_goals (go_ret; exact ⟨rfl, (Below.refl _ w).alloc (Nat.le_refl _) _⟩)
theorem isInts_any : Calls Tryz.prog 110 #[av nm k n tx ia il ic ta tl tc] w fun e w' => e = .returned (.bool (decide ((il : Int) ≤ 100) && ((tl : Int) == 0))) ∧ Below w.heap.size w w' := by
  cases h : decide ((il : Int) ≤ 100)
  all_goals
    go_enter Tryz.func110, Tryz.ntmps110
    go_wp2_with fail
    all_goals (go_ret; exact ⟨by simp, (Below.refl _ w).alloc (Nat.le_refl _) _⟩)
theorem isType_any (hs : tx.size ≤ 140737488355328) : Calls Tryz.prog 108 #[av nm k n tx ia il ic ta tl tc] w fun e w' => e = .returned (.bool (isTyB tx)) ∧ Below w.heap.size w w' := by
  have hb : (((askAny tx.data.toList).2 : Int) == 0) = isTyB tx := by
    unfold isTyB askAny askOf
    cases readOf tx.data.toList <;> rfl
  have HB := Lib.hid hb
  clear hb
  go_enter Tryz.func108, Tryz.ntmps108
  go_wp2_with (go_at_call 99; refine (check_any _ _ hs).mono ?_; rintro e w1 ⟨rfl, hb1⟩)
  all_goals (go_ret; exact ⟨by rw [← HB.out]; rfl, below_own hb1⟩)
theorem isTypes_any (ls : List ByteArray) (hs : StrSl w ta ls) (hlen : ls.length ≤ 9223372036854775807) (hc : ls.length ≤ tc) (hl : ∀ s ∈ ls, s.size ≤ 140737488355328) :
    Calls Tryz.prog 113 #[av nm k n tx ia il ic ta ls.length tc] w fun e w' => e = .returned (.bool ((((joinOf ls).2 : Int) == 0) && ((il : Int) == 0))) ∧ Below w.heap.size w w' := by
  have hb0 := (Below.refl w.heap.size w).alloc (Nat.le_refl _) (.cells (avCells nm k n tx ia il ic ta ls.length tc) 120)
  have HJ := Lib.hid (joinT_any ta tc ls _ (hs.below hb0) hlen hc hl)
  clear hb0 hs hl
  cases h : (((joinOf ls).2 : Int) == 0)
  all_goals
    have H := Lib.hid h
    clear h
    go_enter Tryz.func113, Tryz.ntmps113
    go_wp2_with (go_at_call 138; refine HJ.out.mono ?_; rintro e w1 ⟨rfl, hb1⟩; have h2 := H.out; have c0 := rdCell hb1 w.heap.size (by simp); clear H)
    all_goals (go_ret; exact ⟨by simp, below_own hb1⟩)
end

abbrev kv (x y z : Nat) : Value := .agg #[.func (.func x) #[] #[], .func (.func y) #[] #[], .func (.func z) #[] #[]]
def kindE : List (Nat × Nat × Nat) := [(100, 101, 102), (103, 104, 105),
  (106, 104, 107), (108, 104, 109),
  (110, 111, 112), (113, 111, 114)]
def kindO (j : Nat) : Obj := .map ((kindE.take j).mapIdx fun i x => ⟨.int .i64 (i : Nat), kv x.1 x.2.1 x.2.2, i⟩).toArray j
theorem kind_step (w : World) (j : Nat) (k : Int) (hk : (j : Int) = k) (x : Nat × Nat × Nat) (hj : kindE[j]? = some x) :
    (Instr.mapUpdate 118 (.map (some w.heap.size)) (.int .i64 k) (kv x.1 x.2.1 x.2.2)).run Tryz.prog (w.alloc (kindO j)) = .ok () (w.alloc (kindO (j + 1))) := by
  subst hk
  have hj6 : j < 6 := (List.getElem?_eq_some_iff.1 hj).1
  have : j = 0 ∨ j = 1 ∨ j = 2 ∨ j = 3 ∨ j = 4 ∨ j = 5 := by omega
  rcases this with rfl | rfl | rfl | rfl | rfl | rfl
  all_goals
    simp only [kindE, List.getElem?_cons_succ, List.getElem?_cons_zero, Option.some.injEq] at hj
    subst hj
    unfold kindO
    rw [run_mapUpdate_new _ Tryz.underlying118 Tryz.underlying23 (run_checkKey_int Tryz.underlying23 _ _ _) rfl (heap_alloc_new w _), World.setIn_alloc]; rfl
set_option maxRecDepth 100000 in
theorem kinds_any (w : World) : Calls Tryz.prog 75 #[] w fun e w' => e = .returned (.map (some w.heap.size)) ∧ w.alloc (kindO 6) = w' := by
  have hmm := @run_makeMap Tryz.prog
  have h0 := kind_step w 0 0 rfl _ rfl; dsimp only at h0
  have h1 := kind_step w 1 1 rfl _ rfl; dsimp only at h1
  have h2 := kind_step w 2 2 rfl _ rfl; dsimp only at h2
  have h3 := kind_step w 3 3 rfl _ rfl; dsimp only at h3
  have h4 := kind_step w 4 4 rfl _ rfl; dsimp only at h4
  have h5 := kind_step w 5 5 rfl _ rfl; dsimp only at h5
  have hk0 : w.alloc (.map #[] 0) = w.alloc (kindO 0) := rfl
  go_enter Tryz.func75, Tryz.ntmps75
  go_wp2_with fail
  go_ret
  exact ⟨rfl, rfl⟩
end Go.Proofs.YtmepjbjmjbpchaaGreatDoor
end
