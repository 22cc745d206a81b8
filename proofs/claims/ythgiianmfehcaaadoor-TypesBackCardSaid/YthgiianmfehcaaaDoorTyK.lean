/- Package types: Split. -/
import Derived.Test.YthgiianmfehcaaaDoorTyJ
namespace Go.Proofs.YthgiianmfehcaaaDoor
open Go Go.RowKit Go.Sort
set_option linter.unusedVariables false
set_option linter.unusedSimpArgs false

/-- The pieces between commas and blanks. -/
def piecesOf (b : ByteArray) : List ByteArray := Lib.splitB ⟨#[44, 32]⟩ 0 (Lib.countB b ⟨#[44, 32]⟩) b
theorem splitB_size (sep : ByteArray) : ∀ (k : Nat) (s : ByteArray), ∀ t ∈ Lib.splitB sep 0 k s, t.size ≤ s.size
  | 0, s, t, h => by simp [Lib.splitB] at h; rw [h]; omega
  | k + 1, s, t, h => by
    simp only [Lib.splitB] at h
    split at h
    · simp at h; rw [h]; omega
    · rw [List.mem_cons] at h
      rcases h with rfl | h
      · simp [ByteArray.size_extract]; omega
      · have := splitB_size sep k _ t h
        simp [ByteArray.size_extract] at this; omega
/-- The body of a list of types in brackets. -/
def bodyOf (l : List UInt8) : Option (List UInt8) := if Lib.hasPrefix l [40] && Lib.hasSuffix l.tail [41] then some (l.tail.take (l.tail.length - 1)) else none
def okPieces (b : ByteArray) : Bool := decide ((piecesOf b).length ≤ 100) && !(piecesOf b).any badTy
theorem suffix_len {l : List UInt8} {c : UInt8} (h : Lib.hasSuffix l [c] = true) : 1 ≤ l.length := by
  cases l with
  | nil => simp [Lib.hasSuffix, List.isSuffixOf, List.isPrefixOf] at h
  | cons a l => simp

/-- What `types.Split` gives: nothing; the empty list; the types. -/
def SplitPost (s : ByteArray) (w : World) (e : Ending) (w' : World) : Prop :=
  Below w.heap.size w w' ∧ match bodyOf s.data.toList with
  | none => e = .returned (.tuple #[.slice none 0 0, .int .i64 10])
  | some l =>
    if l = [] then e = .returned (.tuple #[.slice none 0 0, .int .i64 0])
    else if okPieces ⟨l.toArray⟩ then ∃ g c, e = .returned (.tuple #[.slice (some ⟨g, 0, none⟩) (piecesOf ⟨l.toArray⟩).length c, .int .i64 0]) ∧ StrSl w' (some ⟨g, 0, none⟩) (piecesOf ⟨l.toArray⟩)
    else e = .returned (.tuple #[.slice none 0 0, .int .i64 10])
theorem split_bad {s b : ByteArray} {w w' : World} {e : Ending} (hb : bodyOf s.data.toList = some b.data.toList) (hne : b.data.toList ≠ []) (hk : okPieces b = false) (he : e = .returned (.tuple #[.slice none 0 0, .int .i64 10])) (hw : Below w.heap.size w w') : SplitPost s w e w' := by
  refine ⟨hw, ?_⟩
  rw [hb]
  dsimp only
  rw [if_neg hne, if_neg (by rw [show (⟨b.data.toList.toArray⟩ : ByteArray) = b from rfl, hk]; simp)]
  exact he
theorem split_good {s b : ByteArray} {w w' : World} {e : Ending} (hb : bodyOf s.data.toList = some b.data.toList) (hne : b.data.toList ≠ []) (hk : okPieces b = true) {g c : Nat} (he : e = .returned (.tuple #[.slice (some ⟨g, 0, none⟩) (piecesOf b).length c, .int .i64 0])) (hs : StrSl w' (some ⟨g, 0, none⟩) (piecesOf b)) (hw : Below w.heap.size w w') : SplitPost s w e w' := by
  refine ⟨hw, ?_⟩
  rw [hb]
  dsimp only
  rw [if_neg hne, if_pos (by rw [show (⟨b.data.toList.toArray⟩ : ByteArray) = b from rfl, hk])]
  exact ⟨g, c, he, hs⟩
set_option maxRecDepth 100000 in
set_option maxHeartbeats 2000000 in
theorem splitT_no (s : ByteArray) (w : World) (hs : s.size ≤ 140737488355328) (hb : bodyOf s.data.toList = none) : Calls Tryd.prog 24 #[.string s] w (SplitPost s w) := by
  have HB := Lib.hid hb
  have hl : s.data.toList.length = s.size := by simp
  have HL := Lib.hid hl
  clear hb hl
  have hs1 : s.size ≤ 9223372036854775807 := by omega
  cases hp : Lib.hasPrefix s.data.toList [40] with
  | false =>
    have HP := Lib.hid hp; clear hp
    go_enter Tryd.func24, Tryd.ntmps24
    go_wp2_with (first
      | (go_at_call 51; refine (cutPrefix_no _ _ _ HP.out).mono ?_; rintro e w' ⟨rfl, rfl⟩)
      | (go_at_call 52; refine (cutSuffix_or _ _ _ hs1).mono ?_; rintro e w' (⟨t2, rfl, ht2, hp2, rfl⟩ | ⟨rfl, hp2, rfl⟩)))
    all_goals
      go_ret2
      exact ⟨Below.refl _ _, by rw [HB.out]; rfl⟩
  | true =>
    have hsu : Lib.hasSuffix (s.data.toList.drop 1) [41] = false := by
      have := HB.out
      unfold bodyOf at this
      rw [hp] at this
      rw [List.drop_one]
      cases h : Lib.hasSuffix s.data.toList.tail [41]
      · rfl
      · rw [h] at this; simp at this
    have HP := Lib.hid hp
    have HU := Lib.hid hsu
    clear hp hsu
    go_enter Tryd.func24, Tryd.ntmps24
    go_wp2_with (first
      | (go_at_call 51; refine (cutPrefix_yes _ _ _ HP.out).mono ?_; rintro e w' ⟨t, rfl, ht, rfl⟩)
      | (go_at_call 52; refine (cutSuffix_no _ _ _ ?_ ?_).mono ?_; (have := congrArg List.length ht.out; simp at this; omega); (rw [ht.out]; exact HU.out); rintro e w' ⟨rfl, rfl⟩))
    go_ret2
    exact ⟨Below.refl _ _, by rw [HB.out]; rfl⟩
theorem bodyOf_some {l b : List UInt8} (h : bodyOf l = some b) : Lib.hasPrefix l [40] = true ∧ Lib.hasSuffix (l.drop 1) [41] = true ∧ b = (l.drop 1).take ((l.drop 1).length - 1) ∧ 2 ≤ l.length := by
  unfold bodyOf at h
  split at h
  · rename_i hc
    rw [Bool.and_eq_true] at hc
    have h2 := suffix_len hc.2
    refine ⟨hc.1, by rw [List.drop_one]; exact hc.2, by rw [List.drop_one]; exact (Option.some.inj h).symm, ?_⟩
    simp at h2; omega
  · cases h
set_option maxRecDepth 100000 in
set_option maxHeartbeats 2000000 in
theorem splitT_empty (s : ByteArray) (w : World) (hs : s.size ≤ 140737488355328) (hb : bodyOf s.data.toList = some []) : Calls Tryd.prog 24 #[.string s] w (SplitPost s w) := by
  have HB := Lib.hid hb
  obtain ⟨hp, hu, he, h2⟩ := bodyOf_some hb
  have hl : s.data.toList.length = s.size := by simp
  rw [hl] at h2
  have h2' : 2 ≤ (s.size : Int) := by omega
  have HP := Lib.hid hp
  have HU := Lib.hid hu
  have HE := Lib.hid he
  clear hb hl hp hu he
  have hs1 : s.size ≤ 9223372036854775807 := by omega
  go_enter Tryd.func24, Tryd.ntmps24
  go_wp2_with (first
    | (go_at_call 51; refine (cutPrefix_yes _ _ _ HP.out).mono ?_; rintro e w' ⟨t, rfl, ht, rfl⟩)
    | (go_at_call 52; refine (cutSuffix_yes _ _ _ ?_ ?_).mono ?_; (have := congrArg List.length ht.out; simp at this; omega); (rw [ht.out]; exact HU.out); rintro e w' ⟨t2, rfl, ht2, rfl⟩; (have hnil : t2 = ⟨#[]⟩ := ByteArray.ext (by rw [← Array.toList_inj, ht2.out, ht.out]; exact HE.out.symm)); subst hnil))
  go_ret2
  exact ⟨Below.refl _ _, by rw [HB.out]; dsimp only; rw [if_pos rfl]; rfl⟩
set_option maxRecDepth 100000 in
set_option maxHeartbeats 2000000 in
theorem splitT_some (s : ByteArray) (w : World) (hs : s.size < 4294967281) (m : Int) (hm : w.cell? ⟨0, 0, none⟩ = some (.int .i64 m)) (h0 : 0 < w.heap.size) (b : ByteArray) (hb : bodyOf s.data.toList = some b.data.toList) (hne : b.data.toList ≠ []) : Calls Tryd.prog 24 #[.string s] w (SplitPost s w) := by
  have HB := Lib.hid hb
  obtain ⟨hp, hu, he, h2⟩ := bodyOf_some hb
  have hl : s.data.toList.length = s.size := by simp
  rw [hl] at h2
  have h2' : 2 ≤ (s.size : Int) := by omega
  have HP := Lib.hid hp
  have HU := Lib.hid hu
  have HE := Lib.hid he
  have hbs : b.size < 4294967281 := by
    have := congrArg List.length he
    simp at this; omega
  have hemp : b.toList.isEmpty = false := by
    rw [List.isEmpty_eq_false_iff]; intro h; exact hne ((toList_nil_iff b).1 h)
  have HN := Lib.hid hne
  have hcb : Lib.countB b ⟨#[44, 32]⟩ ≤ b.size := Lib.countB_le ⟨#[44, 32]⟩ (by decide) b.size b (Nat.le_refl _)
  have hpl : (piecesOf b).length = Lib.countB b ⟨#[44, 32]⟩ + 1 := Lib.splitB_all ⟨#[44, 32]⟩ (by decide) 0 _ b rfl
  have hps : ∀ t ∈ piecesOf b, t.size ≤ 140737488355328 := fun t ht => by have := splitB_size _ _ _ t ht; omega
  obtain ⟨N, hN⟩ : ∃ N, N = Lib.countB b ⟨#[44, 32]⟩ := ⟨_, rfl⟩
  rw [← hN] at hpl hcb
  have HPL := Lib.hid hpl
  have HPS := Lib.hid hps
  have HCN := Lib.hid hN
  have hpc : piecesOf b = Lib.splitB ⟨#[44, 32]⟩ 0 N b := by rw [hN]; rfl
  have hsl : StrSl (w.alloc (.cells ((Lib.splitB ⟨#[44, 32]⟩ 0 N b).map Value.string).toArray 9)) (some ⟨w.heap.size, 0, none⟩) (piecesOf b) := .inr ⟨w.heap.size, 0, rfl, by simp, fun j hj => by
    rw [blkCell (heap_alloc_new w _), ← hpc]; simp [hj]⟩
  clear hpc
  have HSL := Lib.hid hsl
  clear hb hl hp hu he hne hps hN hsl
  have hs1 : s.size ≤ 9223372036854775807 := by omega
  by_cases hn : 100 < N + 1
  · have hn' : (100 : Int) < (N : Int) + 1 := by omega
    go_enter Tryd.func24, Tryd.ntmps24
    go_wp2_with (first
      | (go_at_call 51; refine (cutPrefix_yes _ _ _ HP.out).mono ?_; rintro e w' ⟨t, rfl, ht, rfl⟩)
      | (go_at_call 52; refine (cutSuffix_yes _ _ _ ?_ ?_).mono ?_; (have := congrArg List.length ht.out; simp at this; omega); (rw [ht.out]; exact HU.out); rintro e w' ⟨t2, rfl, ht2, rfl⟩; (have hnil : t2 = b := ByteArray.ext (by rw [← Array.toList_inj, ht2.out, ht.out]; exact HE.out.symm)); subst hnil)
      | (go_at_call 53; refine (Tryd.strings_Split _ _ m _ hbs hm (by decide)).mono ?_; rw [← HCN.out]; rintro e w' ⟨rfl, rfl⟩))
    all_goals
      go_ret2
      exact split_bad HB.out HN.out (by rw [okPieces, HPL.out]; simp; intro h; omega) rfl ((Below.refl _ w).alloc (Nat.le_refl _) _)
  · have hn' : (N : Int) + 1 ≤ 100 := by omega
    have HCF := Lib.hid (contains_split (some ⟨w.heap.size, 0, none⟩) (N + 1) (piecesOf b) _ HSL.out (by omega) HPS.out)
    rw [hpl] at HCF
    cases hbad : (piecesOf b).any badTy with
    | true =>
      have HBAD := Lib.hid hbad; clear hbad hpl
      go_enter Tryd.func24, Tryd.ntmps24
      go_wp2_with (first
        | (go_at_call 51; refine (cutPrefix_yes _ _ _ HP.out).mono ?_; rintro e w' ⟨t, rfl, ht, rfl⟩)
        | (go_at_call 52; refine (cutSuffix_yes _ _ _ ?_ ?_).mono ?_; (have := congrArg List.length ht.out; simp at this; omega); (rw [ht.out]; exact HU.out); rintro e w' ⟨t2, rfl, ht2, rfl⟩; (have hnil : t2 = b := ByteArray.ext (by rw [← Array.toList_inj, ht2.out, ht.out]; exact HE.out.symm)); subst hnil)
        | (go_at_call 53; refine (Tryd.strings_Split _ _ m _ hbs hm (by decide)).mono ?_; rw [← HCN.out]; rintro e w' ⟨rfl, rfl⟩)
        | (go_at_call 54; refine HCF.out.mono ?_; rintro e w2 ⟨rfl, hb2⟩; rw [HBAD.out]))
      all_goals
        go_ret2
        exact split_bad HB.out HN.out (by rw [okPieces, HBAD.out]; simp) rfl (((Below.refl _ w).alloc (Nat.le_refl _) _).trans (hb2.mono (by simp)))
    | false =>
      have HBAD := Lib.hid hbad; clear hbad hpl
      go_enter Tryd.func24, Tryd.ntmps24
      go_wp2_with (first
        | (go_at_call 51; refine (cutPrefix_yes _ _ _ HP.out).mono ?_; rintro e w' ⟨t, rfl, ht, rfl⟩)
        | (go_at_call 52; refine (cutSuffix_yes _ _ _ ?_ ?_).mono ?_; (have := congrArg List.length ht.out; simp at this; omega); (rw [ht.out]; exact HU.out); rintro e w' ⟨t2, rfl, ht2, rfl⟩; (have hnil : t2 = b := ByteArray.ext (by rw [← Array.toList_inj, ht2.out, ht.out]; exact HE.out.symm)); subst hnil)
        | (go_at_call 53; refine (Tryd.strings_Split _ _ m _ hbs hm (by decide)).mono ?_; rw [← HCN.out]; rintro e w' ⟨rfl, rfl⟩)
        | (go_at_call 54; refine HCF.out.mono ?_; rintro e w2 ⟨rfl, hb2⟩; rw [HBAD.out]))
      all_goals
        go_ret2
        exact split_good HB.out HN.out (by rw [okPieces, HBAD.out, HPL.out]; simp; omega) (by rw [HPL.out]; rfl) (HSL.out.below hb2) (((Below.refl _ w).alloc (Nat.le_refl _) _).trans (hb2.mono (by simp)))
end Go.Proofs.YthgiianmfehcaaaDoor
