/- Texts of this claim, laid together: TyK, Sp0, Sp1, Ax2. -/
import Derived.Lib.ItoaLen
import Derived.Test.YtmepjbjmjbpchaaGreatDoorMg4
import Derived.Test.YtmepjbjmjbpchaaGreatDoorMg5
import Derived.Test.YtmepjbjmjbpchaaGreatDoorMg7
import Derived.Test.YtmepjbjmjbpchaaGreatDoorMg11
section
/- Package types: Split. -/
namespace Go.Proofs.YtmepjbjmjbpchaaGreatDoor
open Go Go.RowKit Go.Sort
set_option linter.unusedVariables false
set_option linter.unusedSimpArgs false

/-- The pieces between commas and blanks. -/
def piecesOf (b : ByteArray) : List ByteArray := Lib.splitB ⟨#[44, 32]⟩ 0 (Lib.countB b ⟨#[44, 32]⟩) b
theorem splitB_size (sep : ByteArray) : ∀ (k : Nat) (s : ByteArray), ∀ t ∈ Lib.splitB sep 0 k s, t.size ≤ s.size
  | 0, s, t, h => by simp [Lib.splitB] at h; rw [h]; omega
  | k + 1, s, t, h => by
    simp only [Lib.splitB] at h
    split at h
    · simp at h; rw [h]; omega
    · rw [List.mem_cons] at h
      rcases h with rfl | h
      · simp [ByteArray.size_extract]; omega
      · have := splitB_size sep k _ t h
        simp [ByteArray.size_extract] at this; omega
/-- The body of a list of types in brackets. -/
def bodyOf (l : List UInt8) : Option (List UInt8) := if Lib.hasPrefix l [40] && Lib.hasSuffix l.tail [41] then some (l.tail.take (l.tail.length - 1)) else none
def okPieces (b : ByteArray) : Bool := decide ((piecesOf b).length ≤ 100) && !(piecesOf b).any badTy
theorem suffix_len {l : List UInt8} {c : UInt8} (h : Lib.hasSuffix l [c] = true) : 1 ≤ l.length := by
  cases l with
  | nil => simp [Lib.hasSuffix, List.isSuffixOf, List.isPrefixOf] at h
  | cons a l => simp

/-- What `types.Split` gives: nothing; the empty list; the types. -/
def SplitPost (s : ByteArray) (w : World) (e : Ending) (w' : World) : Prop :=
  Below w.heap.size w w' ∧ match bodyOf s.data.toList with
  | none => e = .returned (.tuple #[.slice none 0 0, .int .i64 10])
  | some l =>
    if l = [] then e = .returned (.tuple #[.slice none 0 0, .int .i64 0])
    else if okPieces ⟨l.toArray⟩ then ∃ g c, e = .returned (.tuple #[.slice (some ⟨g, 0, none⟩) (piecesOf ⟨l.toArray⟩).length c, .int .i64 0]) ∧ StrSl w' (some ⟨g, 0, none⟩) (piecesOf ⟨l.toArray⟩)
    else e = .returned (.tuple #[.slice none 0 0, .int .i64 10])
theorem split_bad {s b : ByteArray} {w w' : World} {e : Ending} (hb : bodyOf s.data.toList = some b.data.toList) (hne : b.data.toList ≠ []) (hk : okPieces b = false) (he : e = .returned (.tuple #[.slice none 0 0, .int .i64 10])) (hw : Below w.heap.size w w') : SplitPost s w e w' := by
  refine ⟨hw, ?_⟩
  rw [hb]
  dsimp only
  rw [if_neg hne, if_neg (by rw [show (⟨b.data.toList.toArray⟩ : ByteArray) = b from rfl, hk]; simp)]
  exact he
theorem split_good {s b : ByteArray} {w w' : World} {e : Ending} (hb : bodyOf s.data.toList = some b.data.toList) (hne : b.data.toList ≠ []) (hk : okPieces b = true) {g c : Nat} (he : e = .returned (.tuple #[.slice (some ⟨g, 0, none⟩) (piecesOf b).length c, .int .i64 0])) (hs : StrSl w' (some ⟨g, 0, none⟩) (piecesOf b)) (hw : Below w.heap.size w w') : SplitPost s w e w' := by
  refine ⟨hw, ?_⟩
  rw [hb]
  dsimp only
  rw [if_neg hne, if_pos (by rw [show (⟨b.data.toList.toArray⟩ : ByteArray) = b from rfl, hk])]
  exact ⟨g, c, he, hs⟩
set_option maxRecDepth 100000 in
set_option maxHeartbeats 2000000 in
theorem splitT_no (s : ByteArray) (w : World) (hs : s.size ≤ 140737488355328) (hb : bodyOf s.data.toList = none) : Calls Tryz.prog 74 #[.string s] w (SplitPost s w) := by
  have HB := Lib.hid hb
  have hl : s.data.toList.length = s.size := by simp
  have HL := Lib.hid hl
  clear hb hl
  have hs1 : s.size ≤ 9223372036854775807 := by omega
  cases hp : Lib.hasPrefix s.data.toList [40] with
  | false =>
    have HP := Lib.hid hp; clear hp
    go_enter Tryz.func74, Tryz.ntmps74
    go_wp2_with (first
      | (go_at_call 95; refine (cutPrefix_no _ _ _ HP.out).mono ?_; rintro e w' ⟨rfl, rfl⟩)
      | (go_at_call 96; refine (cutSuffix_or _ _ _ hs1).mono ?_; rintro e w' (⟨t2, rfl, ht2, hp2, rfl⟩ | ⟨rfl, hp2, rfl⟩)))
    all_goals
      go_ret2
      exact ⟨Below.refl _ _, by rw [HB.out]; rfl⟩
  | true =>
    have hsu : Lib.hasSuffix (s.data.toList.drop 1) [41] = false := by
      have := HB.out
      unfold bodyOf at this
      rw [hp] at this
      rw [List.drop_one]
      cases h : Lib.hasSuffix s.data.toList.tail [41]
      · rfl
      · rw [h] at this; simp at this
    have HP := Lib.hid hp
    have HU := Lib.hid hsu
    clear hp hsu
    go_enter Tryz.func74, Tryz.ntmps74
    go_wp2_with (first
      | (go_at_call 95; refine (cutPrefix_yes _ _ _ HP.out).mono ?_; rintro e w' ⟨t, rfl, ht, rfl⟩)
      | (go_at_call 96; refine (cutSuffix_no _ _ _ ?_ ?_).mono ?_; (have := congrArg List.length ht.out; simp at this; omega); (rw [ht.out]; exact HU.out); rintro e w' ⟨rfl, rfl⟩))
    go_ret2
    exact ⟨Below.refl _ _, by rw [HB.out]; rfl⟩
theorem bodyOf_some {l b : List UInt8} (h : bodyOf l = some b) : Lib.hasPrefix l [40] = true ∧ Lib.hasSuffix (l.drop 1) [41] = true ∧ b = (l.drop 1).take ((l.drop 1).length - 1) ∧ 2 ≤ l.length := by
  unfold bodyOf at h
  split at h
  · rename_i hc
    rw [Bool.and_eq_true] at hc
    have h2 := suffix_len hc.2
    refine ⟨hc.1, by rw [List.drop_one]; exact hc.2, by rw [List.drop_one]; exact (Option.some.inj h).symm, ?_⟩
    simp at h2; omega
  · cases h
set_option maxRecDepth 100000 in
set_option maxHeartbeats 2000000 in
theorem splitT_empty (s : ByteArray) (w : World) (hs : s.size ≤ 140737488355328) (hb : bodyOf s.data.toList = some []) : Calls Tryz.prog 74 #[.string s] w (SplitPost s w) := by
  have HB := Lib.hid hb
  obtain ⟨hp, hu, he, h2⟩ := bodyOf_some hb
  have hl : s.data.toList.length = s.size := by simp
  rw [hl] at h2
  have h2' : 2 ≤ (s.size : Int) := by omega
  have HP := Lib.hid hp
  have HU := Lib.hid hu
  have HE := Lib.hid he
  clear hb hl hp hu he
  have hs1 : s.size ≤ 9223372036854775807 := by omega
  go_enter Tryz.func74, Tryz.ntmps74
  go_wp2_with (first
    | (go_at_call 95; refine (cutPrefix_yes _ _ _ HP.out).mono ?_; rintro e w' ⟨t, rfl, ht, rfl⟩)
    | (go_at_call 96; refine (cutSuffix_yes _ _ _ ?_ ?_).mono ?_; (have := congrArg List.length ht.out; simp at this; omega); (rw [ht.out]; exact HU.out); rintro e w' ⟨t2, rfl, ht2, rfl⟩; (have hnil : t2 = ⟨#[]⟩ := ByteArray.ext (by rw [← Array.toList_inj, ht2.out, ht.out]; exact HE.out.symm)); subst hnil))
  go_ret2
  exact ⟨Below.refl _ _, by rw [HB.out]; dsimp only; rw [if_pos rfl]; rfl⟩
set_option maxRecDepth 100000 in
set_option maxHeartbeats 2000000 in
theorem splitT_some (s : ByteArray) (w : World) (hs : s.size < 4294967281) (m : Int) (hm : w.cell? ⟨0, 0, none⟩ = some (.int .i64 m)) (h0 : 0 < w.heap.size) (b : ByteArray) (hb : bodyOf s.data.toList = some b.data.toList) (hne : b.data.toList ≠ []) : Calls Tryz.prog 74 #[.string s] w (SplitPost s w) := by
  have HB := Lib.hid hb
  obtain ⟨hp, hu, he, h2⟩ := bodyOf_some hb
  have hl : s.data.toList.length = s.size := by simp
  rw [hl] at h2
  have h2' : 2 ≤ (s.size : Int) := by omega
  have HP := Lib.hid hp
  have HU := Lib.hid hu
  have HE := Lib.hid he
  have hbs : b.size < 4294967281 := by
    have := congrArg List.length he
    simp at this; omega
  have hemp : b.toList.isEmpty = false := by
    rw [List.isEmpty_eq_false_iff]; intro h; exact hne ((toList_nil_iff b).1 h)
  have HN := Lib.hid hne
  have hcb : Lib.countB b ⟨#[44, 32]⟩ ≤ b.size := Lib.countB_le ⟨#[44, 32]⟩ (by decide) b.size b (Nat.le_refl _)
  have hpl : (piecesOf b).length = Lib.countB b ⟨#[44, 32]⟩ + 1 := Lib.splitB_all ⟨#[44, 32]⟩ (by decide) 0 _ b rfl
  have hps : ∀ t ∈ piecesOf b, t.size ≤ 140737488355328 := fun t ht => by have := splitB_size _ _ _ t ht; omega
  obtain ⟨N, hN⟩ : ∃ N, N = Lib.countB b ⟨#[44, 32]⟩ := ⟨_, rfl⟩
  rw [← hN] at hpl hcb
  have HPL := Lib.hid hpl
  have HPS := Lib.hid hps
  have HCN := Lib.hid hN
  have hpc : piecesOf b = Lib.splitB ⟨#[44, 32]⟩ 0 N b := by rw [hN]; rfl
  have hsl : StrSl (w.alloc (.cells ((Lib.splitB ⟨#[44, 32]⟩ 0 N b).map Value.string).toArray 9)) (some ⟨w.heap.size, 0, none⟩) (piecesOf b) := .inr ⟨w.heap.size, 0, rfl, by simp, fun j hj => by
    rw [blkCell (heap_alloc_new w _), ← hpc]; simp [hj]⟩
  clear hpc
  have HSL := Lib.hid hsl
  clear hb hl hp hu he hne hps hN hsl
  have hs1 : s.size ≤ 9223372036854775807 := by omega
  by_cases hn : 100 < N + 1
  · have hn' : (100 : Int) < (N : Int) + 1 := by omega
    go_enter Tryz.func74, Tryz.ntmps74
    go_wp2_with (first
      | (go_at_call 95; refine (cutPrefix_yes _ _ _ HP.out).mono ?_; rintro e w' ⟨t, rfl, ht, rfl⟩)
      | (go_at_call 96; refine (cutSuffix_yes _ _ _ ?_ ?_).mono ?_; (have := congrArg List.length ht.out; simp at this; omega); (rw [ht.out]; exact HU.out); rintro e w' ⟨t2, rfl, ht2, rfl⟩; (have hnil : t2 = b := ByteArray.ext (by rw [← Array.toList_inj, ht2.out, ht.out]; exact HE.out.symm)); subst hnil)
      | (go_at_call 73; refine (Tryz.strings_Split _ _ m _ hbs hm (by decide)).mono ?_; rw [← HCN.out]; rintro e w' ⟨rfl, rfl⟩))
    all_goals
      go_ret2
      exact split_bad HB.out HN.out (by rw [okPieces, HPL.out]; simp; intro h; omega) rfl ((Below.refl _ w).alloc (Nat.le_refl _) _)
  · have hn' : (N : Int) + 1 ≤ 100 := by omega
    have HCF := Lib.hid (contains_split (some ⟨w.heap.size, 0, none⟩) (N + 1) (piecesOf b) _ HSL.out (by omega) HPS.out)
    rw [hpl] at HCF
    cases hbad : (piecesOf b).any badTy with
    | true =>
      have HBAD := Lib.hid hbad; clear hbad hpl
      go_enter Tryz.func74, Tryz.ntmps74
      go_wp2_with (first
        | (go_at_call 95; refine (cutPrefix_yes _ _ _ HP.out).mono ?_; rintro e w' ⟨t, rfl, ht, rfl⟩)
        | (go_at_call 96; refine (cutSuffix_yes _ _ _ ?_ ?_).mono ?_; (have := congrArg List.length ht.out; simp at this; omega); (rw [ht.out]; exact HU.out); rintro e w' ⟨t2, rfl, ht2, rfl⟩; (have hnil : t2 = b := ByteArray.ext (by rw [← Array.toList_inj, ht2.out, ht.out]; exact HE.out.symm)); subst hnil)
        | (go_at_call 73; refine (Tryz.strings_Split _ _ m _ hbs hm (by decide)).mono ?_; rw [← HCN.out]; rintro e w' ⟨rfl, rfl⟩)
        | (go_at_call 97; refine HCF.out.mono ?_; rintro e w2 ⟨rfl, hb2⟩; rw [HBAD.out]))
      all_goals
        go_ret2
        exact split_bad HB.out HN.out (by rw [okPieces, HBAD.out]; simp) rfl (((Below.refl _ w).alloc (Nat.le_refl _) _).trans (hb2.mono (by simp)))
    | false =>
      have HBAD := Lib.hid hbad; clear hbad hpl
      go_enter Tryz.func74, Tryz.ntmps74
      go_wp2_with (first
        | (go_at_call 95; refine (cutPrefix_yes _ _ _ HP.out).mono ?_; rintro e w' ⟨t, rfl, ht, rfl⟩)
        | (go_at_call 96; refine (cutSuffix_yes _ _ _ ?_ ?_).mono ?_; (have := congrArg List.length ht.out; simp at this; omega); (rw [ht.out]; exact HU.out); rintro e w' ⟨t2, rfl, ht2, rfl⟩; (have hnil : t2 = b := ByteArray.ext (by rw [← Array.toList_inj, ht2.out, ht.out]; exact HE.out.symm)); subst hnil)
        | (go_at_call 73; refine (Tryz.strings_Split _ _ m _ hbs hm (by decide)).mono ?_; rw [← HCN.out]; rintro e w' ⟨rfl, rfl⟩)
        | (go_at_call 97; refine HCF.out.mono ?_; rintro e w2 ⟨rfl, hb2⟩; rw [HBAD.out]))
      all_goals
        go_ret2
        exact split_good HB.out HN.out (by rw [okPieces, HBAD.out, HPL.out]; simp; omega) (by rw [HPL.out]; rfl) (HSL.out.below hb2) (((Below.refl _ w).alloc (Nat.le_refl _) _).trans (hb2.mono (by simp)))
end Go.Proofs.YtmepjbjmjbpchaaGreatDoor
end
section
/- Plain laws of lists of types: the reference's cutting at commas is the cutting at a comma and a blank. -/
namespace Go.Proofs.YtmepjbjmjbpchaaGreatDoor
open Go
set_option linter.unusedVariables false
set_option linter.unusedSimpArgs false

def isTy (l : List UInt8) : Bool := (readOf l).isSome
theorem elStr_no {b : Nat} (c : UInt8) (h1 : c ∉ [105, 110, 100, 101, 120]) (h2 : ∀ n, n < 10 → c ≠ UInt8.ofNat (48 + n)) : c ∉ elStr b := by
  unfold elStr
  split
  · exact h1
  · intro h
    rcases List.mem_cons.1 h with h | h
    · subst h; exact h1 (by simp)
    · rw [Lib.decDigits_eq] at h
      obtain ⟨t, -, ht⟩ := List.mem_map.1 h
      exact h2 _ (Nat.mod_lt _ (by decide)) ht.symm
theorem elemOf_no44 {l : List UInt8} {q : Pd} (h : elemOf l = some q) : (44 : UInt8) ∉ l := by
  rw [elemOf_str h]
  refine elStr_no 44 (by decide) ?_
  intro n hn h
  have := congrArg UInt8.toNat h
  rw [UInt8.toNat_ofNat'] at this
  simp at this; omega
theorem numOf_no44 {l : List UInt8} {n : Nat} (h : numOf l = some n) : (44 : UInt8) ∉ l := by
  intro hm
  have := numOf_all h 44 hm
  exact absurd this.1 (by decide)
theorem rest_no44 : ∀ (m : Nat) (l : List UInt8) (ext : List Nat) (r : List Nat × Nat), l.length ≤ m → shapeP ext (partsOf l) = some r → (44 : UInt8) ∉ l
  | m, l, ext, r, hm, h => by
    by_cases h0 : l = [105, 110, 100, 101, 120] ∨ cutOf 120 l = none
    · rw [partsOf_last h0] at h
      simp only [shapeP] at h
      split at h
      · rename_i e he; exact elemOf_no44 he
      · cases h
    · cases hc : cutOf 120 l with
      | none => exact absurd (.inr hc) h0
      | some p =>
        obtain ⟨x, y⟩ := p
        have hlen := cutOf_len hc
        obtain ⟨-, hxy, -⟩ := cutOf_some _ _ _ _ hc
        obtain ⟨m', rfl⟩ : ∃ m', m = m' + 1 := ⟨m - 1, by omega⟩
        rw [partsOf_more (fun h => h0 (.inl h)) hc] at h
        simp only [shapeP] at h
        split at h
        · rename_i n hn
          split at h
          · have ih := rest_no44 m' y _ r (by omega) h
            rw [hxy]
            intro hm
            rw [List.mem_append, List.mem_cons] at hm
            rcases hm with hm | hm | hm
            · exact numOf_no44 hn hm
            · exact absurd hm (by decide)
            · exact ih hm
          · cases h
        · cases h
theorem nameOf_no44 {l : List UInt8} (h : nameOf l = true) : (44 : UInt8) ∉ l := by
  intro hm
  simp only [nameOf, Bool.and_eq_true, List.all_eq_true] at h
  have := h.2 44 hm
  exact absurd this (by decide)
theorem foreignOf_no44 {l : List UInt8} {q : Pd} (h : foreignOf l = some q) : (44 : UInt8) ∉ l := by
  unfold foreignOf at h
  split at h
  · rename_i hp
    split at h
    · cases h
    · rename_i x y hc
      obtain ⟨-, hxy, -⟩ := cutOf_some _ _ _ _ hc
      split at h
      · rename_i hn
        rw [Bool.and_eq_true] at hn
        have hp1 := hp.1
        match l, hp1, hxy with
        | [], hp1, hxy => simp [Lib.hasPrefix, List.isPrefixOf] at hp1
        | c :: l, hp1, hxy =>
          simp [Lib.hasPrefix, List.isPrefixOf] at hp1
          subst hp1
          simp only [List.tail_cons] at hxy
          rw [hxy]
          intro hm
          rcases List.mem_cons.1 hm with hm | hm
          · exact absurd hm (by decide)
          · rw [List.mem_append, List.mem_cons] at hm
            rcases hm with hm | hm | hm
            · exact nameOf_no44 hn.1 hm
            · exact absurd hm (by decide)
            · exact nameOf_no44 hn.2 hm
      · cases h
  · cases h
theorem cells_no44 {l p : List UInt8} {k : Nat} {q : Pd} (hp : Lib.hasPrefix (l.take (l.length - 1)) p = true) (hp4 : p.length = 4) (hpn : (44 : UInt8) ∉ p) (hs : Lib.hasSuffix l [62] = true) (h : shapeOf k ((l.take (l.length - 1)).drop 4) = some q) : (44 : UInt8) ∉ l := by
  unfold shapeOf at h
  rw [Option.map_eq_some_iff] at h
  obtain ⟨r, hr, -⟩ := h
  have h1 := rest_no44 _ _ _ _ (Nat.le_refl _) hr
  have hne : l ≠ [] := by intro e; subst e; simp [Lib.hasSuffix, List.isSuffixOf, List.isPrefixOf] at hs
  rw [suffix_iff hne] at hs
  have hlast := eq_of_beq hs
  have hpre : (l.take (l.length - 1)).take 4 = p := by
    rw [prefix_take, hp4] at hp; exact eq_of_beq hp
  intro hm
  have hl : l = p ++ (l.take (l.length - 1)).drop 4 ++ [62] := by
    rw [← hpre, List.take_append_drop, ← List.dropLast_eq_take, ← hlast, List.dropLast_concat_getLast]
  rw [hl, List.mem_append, List.mem_append, List.mem_singleton] at hm
  rcases hm with (hm | hm) | hm
  · exact hpn hm
  · exact h1 hm
  · exact absurd hm (by decide)
theorem isTy_no44 {l : List UInt8} (h : isTy l = true) : (44 : UInt8) ∉ l := by
  unfold isTy at h
  obtain ⟨q, hq⟩ := Option.isSome_iff_exists.1 h
  clear h
  unfold readOf at hq
  split at hq
  · rename_i p hp; exact elemOf_no44 hp
  · split at hq
    · rename_i hs
      split at hq
      · rename_i hp; exact cells_no44 hp rfl (by decide) hs hq
      · split at hq
        · rename_i hp; exact cells_no44 hp rfl (by decide) hs hq
        · exact foreignOf_no44 hq
    · exact foreignOf_no44 hq

def piecesL (l : List UInt8) : List (List UInt8) := Lib.split l [44, 32]
theorem pieces_data (b : ByteArray) : (piecesOf b).map (·.data.toList) = piecesL b.data.toList := by
  unfold piecesOf piecesL Lib.split
  rw [Lib.splitB_data]
theorem piecesL_miss {l : List UInt8} (h : Lib.index l [44, 32] = -1) : piecesL l = [l] := by
  unfold piecesL Lib.split
  rw [Lib.count_miss h, Lib.splitK]
theorem piecesL_hit {l : List UInt8} {i : Nat} (h : Lib.index l [44, 32] = i) : piecesL l = l.take i :: piecesL (l.drop (i + 2)) := by
  unfold piecesL Lib.split
  rw [Lib.count_hit (by simp) h, Nat.add_comm 1]
  rw [Lib.splitK, if_neg (by rw [h, beq_iff_eq]; omega), h]
  rfl
theorem occ_at {l : List UInt8} {j : Nat} (h : Lib.occAt l [44, 32] j = true) : l[j]? = some 44 ∧ l[j + 1]? = some 32 := by
  unfold Lib.occAt at h
  match hd : l.drop j, h with
  | [], h => simp [List.isPrefixOf] at h
  | [a], h => simp [List.isPrefixOf] at h
  | a :: b :: r, h =>
    simp [List.isPrefixOf] at h
    obtain ⟨rfl, rfl⟩ := h
    have h0 : l[j]? = (l.drop j)[0]? := by simp
    have h1 : l[j + 1]? = (l.drop j)[1]? := by simp
    rw [h0, h1, hd]; simp
theorem index_cut {x z : List UInt8} (h : (44 : UInt8) ∉ x) : Lib.index (x ++ 44 :: 32 :: z) [44, 32] = x.length := by
  refine Lib.index_first (by simp) ?_ ?_
  · simp [Lib.occAt, List.isPrefixOf]
  · intro j hj
    rw [Bool.eq_false_iff]
    intro ho
    have := (occ_at ho).1
    rw [List.getElem?_append_left hj] at this
    exact h (List.mem_of_getElem? this)
end Go.Proofs.YtmepjbjmjbpchaaGreatDoor
end
section
/- The reference's Split and Join of lists of types; lists of strings that are the same. -/
namespace Go.Proofs.YtmepjbjmjbpchaaGreatDoor
open Go Go.RowKit Go.Sort
set_option linter.unusedVariables false
set_option linter.unusedSimpArgs false

theorem own_below {W W1 : World} {base : Nat} {e : TypeId} {v : Value} {n : Nat} {xs : List Value} (h : W.ownsRow base e 1 v n xs) (hb : Below W.heap.size W W1) : W1.ownsRow base e 1 v n xs :=
  ⟨h.1, by
    rcases h.2 with h | ⟨g, c, cur, h1, h2, h3, h4⟩
    · exact .inl h
    · exact .inr ⟨g, c, cur, h1, h2, blkBelow h3 hb, h4⟩⟩
end Go.Proofs.YtmepjbjmjbpchaaGreatDoor
end
section
/- Package attrs: the strings of values, kind by kind. -/
namespace Go.Proofs.YtmepjbjmjbpchaaGreatDoor
open Go Go.RowKit
set_option linter.unusedVariables false
set_option linter.unusedSimpArgs false

/-- A number's digits as a string. -/
def itoaB (z : Int) : ByteArray := ⟨(Lib.itoa z).toArray⟩
theorem itoaB_size (z : Int) (h0 : -9223372036854775808 ≤ z) (h1 : z ≤ 9223372036854775807) : (itoaB z).size ≤ 21 := by
  simpa [itoaB, ByteArray.size] using Lib.itoa_length_le z h0 h1
theorem fmt_any (n : Int) (h0 : -9223372036854775808 ≤ n) (h1 : n ≤ 9223372036854775807) (w : World) (hp : Pow w) :
    Calls Tryz.prog 136 #[.int .i64 n, .int .i64 10] w fun e w' => ∃ t : ByteArray, e = .returned (.string t) ∧ Hid (t = itoaB n) ∧ Below w.heap.size w w' := by
  have hc := (Tryz.internal_strconv_FormatInt_10 n h0 h1 w hp).mono (R' := fun e w' => ∃ t : ByteArray, e = .returned (.string t) ∧ Hid (t = itoaB n) ∧ Below w.heap.size w w') fun e w' ⟨he, k, os, hw⟩ => ⟨_, he, rfl, by rw [hw]; exact below_grow w k os⟩
  have HC := Lib.hid hc
  clear hc
  go_enter Tryz.func136, Tryz.ntmps136
  go_wp2_with (go_at_call 155; refine HC.out.mono ?_; rintro e w1 ⟨t, rfl, ht, hb⟩)
  go_ret
  exact ⟨t, rfl, ht, hb⟩
theorem join_sl' {w : World} {a : Option Addr} {ls : List ByteArray} (h : StrSl w a ls) (c : Nat) (hc : ls.length ≤ c) (hN : ls.length ≤ 140737488355328) (hl : (Lib.join (ls.map (·.data.toList)) [44, 32]).length ≤ 140737488355328) :
    Calls Tryz.prog 79 #[.slice a ls.length c, .string ⟨#[44, 32]⟩] w fun e w' => ∃ t : ByteArray, e = .returned (.string t) ∧ Hid (t.data.toList = Lib.join (ls.map (·.data.toList)) [44, 32]) ∧ t.size ≤ 140737488355328 ∧ Below w.heap.size w w' := by
  rcases h with rfl | ⟨g, off, rfl, h2, h3⟩
  · exact (Tryz.strings_Join_none a c ⟨#[44, 32]⟩ w).mono fun e w' ⟨he, hw⟩ => ⟨_, he, rfl, by simp [ByteArray.size], by rw [hw]; exact Below.refl _ _⟩
  · refine (Tryz.strings_Join g off c ls ⟨#[44, 32]⟩ w (fun j x hx => ?_) h2 hN hc (by simpa using hl)).mono fun e w' ⟨he, hb⟩ => ⟨_, he, rfl, by simpa [ByteArray.size] using hl, hb⟩
    obtain ⟨hj, rfl⟩ := List.getElem?_eq_some_iff.1 hx
    exact h3 j hj
theorem join_len (b : Nat) (xs : List (List UInt8)) (h : ∀ x ∈ xs, x.length ≤ b) : (Lib.join xs [44, 32]).length ≤ (b + 2) * xs.length := by
  cases xs with
  | nil => simp [Lib.join_nil]
  | cons x r =>
    rw [Lib.join_length]
    have := lens_le b (x :: r) h
    simp [Nat.add_mul, Nat.mul_add] at this ⊢
    omega

/-- The string of a value. -/
def valD (d : Dat) : List UInt8 :=
  if d.kind = 0 then Lib.itoa d.num else if d.kind = 1 then quoteL d.text.data.toList else if d.kind = 2 then 64 :: d.text.data.toList
  else if d.kind = 3 then d.text.data.toList else if d.kind = 4 then 91 :: (Lib.join ((d.ints.map itoaB).map (·.data.toList)) [44, 32] ++ [93])
  else (joinOf d.texts).1

section
variable (nm : ByteArray) (k n : Int) (tx : ByteArray) (ia : Option Addr) (il ic : Nat) (ta : Option Addr) (tl tc : Nat) (w : World)
theorem vnumber_any (h0 : -9223372036854775808 ≤ n) (h1 : n ≤ 9223372036854775807) (hp : Pow w) :
    Calls Tryz.prog 102 #[av nm k n tx ia il ic ta tl tc] w fun e w' => e = .returned (.string (itoaB n)) ∧ Below w.heap.size w w' := by
  have HP := Lib.hid hp
  clear hp
  go_enter Tryz.func102, Tryz.ntmps102
  go_wp2_with (go_at_call 136; refine (fmt_any n h0 h1 _ (pow_below HP.out ((Below.refl _ w).alloc (Nat.le_refl _) _))).mono ?_; rintro e w1 ⟨t, rfl, ht, hb1⟩)
  go_ret
  exact ⟨by rw [ht.out]; rfl, below_own hb1⟩
theorem symbol_any (hx : tx.size ≤ 140737488351232) : Calls Tryz.prog 107 #[av nm k n tx ia il ic ta tl tc] w fun e w' => e = .returned (.string (⟨#[64]⟩ ++ tx)) ∧ Below w.heap.size w w' := by
  go_enter Tryz.func107, Tryz.ntmps107
  go_wp2_with fail
  go_ret
  exact ⟨rfl, (Below.refl _ w).alloc (Nat.le_refl _) _⟩
theorem same_any : Calls Tryz.prog 109 #[av nm k n tx ia il ic ta tl tc] w fun e w' => e = .returned (.string tx) ∧ Below w.heap.size w w' := by
  go_enter Tryz.func109, Tryz.ntmps109
  go_wp2_with fail
  go_ret
  exact ⟨rfl, (Below.refl _ w).alloc (Nat.le_refl _) _⟩
theorem quoted_any (hs : tx.size ≤ 1000) : Calls Tryz.prog 105 #[av nm k n tx ia il ic ta tl tc] w fun e w' => e = .returned (.string ⟨(quoteL tx.data.toList).toArray⟩) ∧ Below w.heap.size w w' := by
  go_enter Tryz.func105, Tryz.ntmps105
  go_wp2_with (go_at_call 137; refine (quote_any tx _ (by omega)).mono ?_; rintro e w1 ⟨rfl, hb1⟩)
  go_ret
  exact ⟨rfl, below_own hb1⟩
theorem types_any (ls : List ByteArray) (hs : StrSl w ta ls) (hlen : ls.length ≤ 9223372036854775807) (hc : ls.length ≤ tc) (hl : ∀ s ∈ ls, s.size ≤ 140737488355328) :
    Calls Tryz.prog 114 #[av nm k n tx ia il ic ta ls.length tc] w fun e w' => e = .returned (.string ⟨(joinOf ls).1.toArray⟩) ∧ Below w.heap.size w w' := by
  have hb0 := (Below.refl w.heap.size w).alloc (Nat.le_refl _) (.cells (avCells nm k n tx ia il ic ta ls.length tc) 120)
  have HJ := Lib.hid (joinT_any ta tc ls _ (hs.below hb0) hlen hc hl)
  clear hb0 hs hl
  go_enter Tryz.func114, Tryz.ntmps114
  go_wp2_with (go_at_call 138; refine HJ.out.mono ?_; rintro e w1 ⟨rfl, hb1⟩)
  go_ret
  exact ⟨by simp, below_own hb1⟩
set_option maxRecDepth 100000 in
set_option maxHeartbeats 2000000 in
theorem ints_any (zs : List Int) (hs : IntSl w ia zs) (hlen : zs.length ≤ 100) (hz : ∀ z ∈ zs, -9223372036854775808 ≤ z ∧ z ≤ 9223372036854775807) (hp : Pow w) :
    Calls Tryz.prog 112 #[av nm k n tx ia zs.length ic ta tl tc] w fun e w' => e = .returned (.string ⟨(91 :: (Lib.join ((zs.map itoaB).map (·.data.toList)) [44, 32] ++ [93])).toArray⟩) ∧ Below w.heap.size w w' := by
  obtain ⟨i0, hin, hz0, hz1, hz2⟩ := info_parts (show (Tryz.prog.info? 9).map (fun i => (i.zero, i.size, i.bytes)) = some (some (.string ⟨#[]⟩), 1, 16) by kernel_rfl)
  have HS := Lib.hid hs
  have HZ := Lib.hid hz
  have HP := Lib.hid hp
  obtain ⟨N, hN⟩ : ∃ N, N = zs.length := ⟨_, rfl⟩
  rw [← hN] at hlen ⊢
  have HN := Lib.hid hN
  have hjl : Hid ((Lib.join ((zs.map itoaB).map (·.data.toList)) [44, 32]).length ≤ 10000) := Lib.hid (by
    have := join_len 21 ((zs.map itoaB).map (·.data.toList)) (fun x hx => by
      simp only [List.mem_map] at hx
      obtain ⟨y, ⟨z, hzm, rfl⟩, rfl⟩ := hx
      simpa using itoaB_size z (HZ.out z hzm).1 (HZ.out z hzm).2)
    simp at this ⊢; omega)
  clear hs hz hp hN
  go_enter Tryz.func112, Tryz.ntmps112
  go_wp2_with fail
  go_loopw [3, 9] (fun v i wr => ∃ (j : Nat) (sa : Option Addr) (sc : Nat), v = .slice sa j sc ∧ i = .int .i64 j ∧ j ≤ N ∧ wr.ownsRow w.heap.size 9 1 (.slice sa j sc) j (((zs.map itoaB).take j).map .string) ∧ Below w.heap.size w wr) (fun _ i _ => N - (intOf i).toNat)
  case atStart => exact ⟨0, none, 0, rfl, rfl, Nat.zero_le _, World.ownsRow_nil _ _ _ _, (Below.refl _ w).alloc (Nat.le_refl _) _⟩
  case round =>
    obtain ⟨j, sa, sc, rfl, rfl, hj, ho, hb⟩ := hrel
    have HO := Lib.hid ho
    have HB := Lib.hid hb
    have hszw := hb.size
    clear ho hb
    rcases Nat.lt_or_ge j N with hlt | hge
    · have hl0 : j < zs.length := by rw [← HN.out]; exact hlt
      obtain ⟨g, off, rfl, hg, hcell⟩ := (HS.out.below HB.out).at hl0
      have hlt' : (j : Int) < (N : Int) := by omega
      obtain ⟨z, hze⟩ : ∃ z, z = zs.getD j 0 := ⟨_, rfl⟩
      rw [← hze] at hcell
      have hzm : z ∈ zs := by rw [hze, List.getD_eq_getElem?_getD, List.getElem?_eq_getElem hl0]; exact List.getElem_mem _
      obtain ⟨z0, z1⟩ := HZ.out z hzm
      have HTK : Hid ((zs.map itoaB).take (j + 1) = (zs.map itoaB).take j ++ [itoaB z]) := Lib.hid (by
        rw [List.take_add_one, List.getElem?_map, List.getElem?_eq_getElem hl0, hze, List.getD_eq_getElem?_getD, List.getElem?_eq_getElem hl0]; rfl)
      have hj9 : j < 100 := by omega
      clear hze hzm
      go_wp2_with (first
        | (go_at_call 136; refine (fmt_any z z0 z1 wr (pow_below HP.out HB.out)).mono ?_; rintro e w2 ⟨t, rfl, ht, hb2⟩)
        | (at_builtin; refine wpList_append_own _ rfl _ _ 25 rfl w.heap.size 9 i0 (.string ⟨#[]⟩) 1 16 Tryz.underlying25 hin hz0 hz1 hz2 rfl (by decide) _ _ _ rfl ((own_below HO.out hb2).alloc _) ⟨w2.heap.size, 0, none⟩ 1 1 [.string t] rfl rfl ?c1 ?c2 ?c3 ?c4 ?c5 ?_))
      case c1 =>
        intro t u hj
        match t, hj with
        | 0, hj => simp at hj; subst hj; simp [Addr.add]
      case c2 => intro u hu; simp at hu; subst hu; rfl
      case c3 => unfold maxLen; omega
      case c4 => omega
      case c5 => simp; have := hb2.size; omega
      intro v' w3 hown' hgrow _
      obtain ⟨sa', sc', rfl⟩ := own_slice hown'
      have HOWN3 := Lib.hid (show w3.ownsRow w.heap.size 9 1 (.slice sa' (j + 1) sc') (j + 1) (((zs.map itoaB).take (j + 1)).map .string) by rw [HTK.out, ← ht.out]; simpa using hown')
      have hszb := hb2.size
      have HB3 := Lib.hid ((belowA (below_own' HB.out hb2) (.cells #[.string t] 9)).grown hgrow (by simp; omega) (fun k hk => ((own_below HO.out hb2).lt k hk).1))
      clear hown'
      go_wp2_with fail
      go_roundw
      · exact ⟨j + 1, sa', sc', by go_num, by go_num, by omega, HOWN3.out, HB3.out⟩
      · simp [intOf]; omega
    · obtain rfl : N = j := by omega
      have htk : (zs.map itoaB).take N = zs.map itoaB := List.take_of_length_le (by simp [HN.out])
      have ho := HO.out
      rw [htk] at ho
      have hlm : (zs.map itoaB).length = N := by simp [HN.out]
      have hsl := own_strs (zs := zs.map itoaB) ho
      obtain ⟨sa', sc', he, hcap, -⟩ := own_form ho
      cases he
      have HJ := Lib.hid (join_sl' hsl sc (by rw [hlm]; exact hcap) (by rw [hlm]; omega) (Nat.le_trans hjl.out (by omega)))
      rw [hlm] at HJ
      clear hcap ho hsl hlm htk
      go_wp2_with (go_at_call 79; refine HJ.out.mono ?_; rintro e w2 ⟨t, rfl, ht, hts, hb2⟩)
      go_ret
      refine ⟨?_, below_own' HB.out hb2⟩
      have e1 : (⟨#[91]⟩ ++ t ++ ⟨#[93]⟩ : ByteArray) = ⟨(91 :: (Lib.join ((zs.map itoaB).map (·.data.toList)) [44, 32] ++ [93])).toArray⟩ := by
        apply ByteArray.ext
        apply Array.ext'
        rw [← ht.out]
        simp
      rw [← e1]; rfl
end
end Go.Proofs.YtmepjbjmjbpchaaGreatDoor
end
