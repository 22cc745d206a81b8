/- The walk of the statement TypesLists. -/
import Derived.Test.YthgiianmfehcaaaDoorSp1
import Derived.Test.YthgiianmfehcaaaDoorLw1
namespace Go.Proofs.YthgiianmfehcaaaDoor
open Go Go.RowKit Go.Sort
set_option linter.unusedVariables false
set_option linter.unusedSimpArgs false

theorem split_all (s : ByteArray) (w : World) (hs : s.size < 4294967281) (hg : Glob w) : Calls Tryd.prog 24 #[.string s] w (SplitPost s w) := by
  cases hb : bodyOf s.data.toList with
  | none => exact splitT_no s w (by omega) hb
  | some l =>
    by_cases hl : l = []
    · subst hl; exact splitT_empty s w (by omega) hb
    · obtain ⟨m, hm⟩ := hg.len
      exact splitT_some s w hs m hm hg.pos ⟨l.toArray⟩ hb hl
theorem badTy_isTy (s : ByteArray) : badTy s = !isTy s.data.toList := by
  unfold badTy isTy
  cases h : readOf s.data.toList with
  | none => rw [show askAny s.data.toList = (⟨0, 0, []⟩, 10) from askOf_no h]; rfl
  | some q => rw [show askAny s.data.toList = (q, 0) by unfold askAny askOf; rw [h]; rfl]; rfl
theorem okPieces_eq (b : ByteArray) : okPieces b = (decide ((piecesL b.data.toList).length ≤ 100) && (piecesL b.data.toList).all isTy) := by
  unfold okPieces
  rw [← pieces_data, List.length_map, List.all_map]
  congr 1
  rw [List.any_eq_not_all_not, Bool.not_not]
  congr 1
  funext x
  simp [badTy_isTy]
theorem data_inj : ∀ {a b : List ByteArray}, a.map (·.data.toList) = b.map (·.data.toList) → a = b
  | [], [], _ => rfl
  | [], _ :: _, h => by simp at h
  | _ :: _, [], h => by simp at h
  | x :: a, y :: b, h => by
    simp only [List.map_cons, List.cons.injEq] at h
    obtain ⟨h1, h2⟩ := h
    rw [data_inj h2, ByteArray.ext (Array.ext' h1)]
/-- What the two calls come to: both refuse, both are empty, or both are the same list. -/
inductive SpOut (s : ByteArray) : Prop
  | no (h1 : ∀ w, Glob w → Calls Tryd.prog 24 #[.string s] w fun e w' => e = .returned (.tuple #[.slice none 0 0, .int .i64 10]) ∧ Below w.heap.size w w')
      (h2 : ∀ w, Calls Tryd.prog 25 #[.string s] w fun e w' => (∃ sa n sc, e = .returned (.tuple #[.slice sa n sc, .bool false])) ∧ Below w.heap.size w w')
  | yes (ls : List ByteArray) (hl : ls.length ≤ 100) (h1 : ∀ w, Glob w → Calls Tryd.prog 24 #[.string s] w fun e w' => (∃ sa sc, e = .returned (.tuple #[.slice sa ls.length sc, .int .i64 0]) ∧ StrSl w' sa ls) ∧ Below w.heap.size w w')
      (h2 : ∀ w, Calls Tryd.prog 25 #[.string s] w fun e w' => (∃ sa sc, e = .returned (.tuple #[.slice sa ls.length sc, .bool true]) ∧ StrSl w' sa ls) ∧ Below w.heap.size w w')
theorem sp_out (s : ByteArray) (hs : s.size ≤ 4294967280) : SpOut s := by
  cases hb : bodyOf s.data.toList with
  | none =>
    refine .no (fun w hg => (split_all s w (by omega) hg).mono fun e w' ⟨hq, he⟩ => ?_) (fun w => (rsplit_any s w hs).mono fun e w' ⟨hq, he⟩ => ?_)
    · rw [hb] at he; exact ⟨he, hq⟩
    · rw [hb] at he; exact ⟨⟨_, _, _, he⟩, hq⟩
  | some l =>
    by_cases hl : l = []
    · subst hl
      refine .yes [] (by decide) (fun w hg => (split_all s w (by omega) hg).mono fun e w' ⟨hq, he⟩ => ?_) (fun w => (rsplit_any s w hs).mono fun e w' ⟨hq, he⟩ => ?_)
      · rw [hb] at he; exact ⟨⟨none, 0, he, .inl rfl⟩, hq⟩
      · rw [hb] at he; exact ⟨⟨none, 0, he, .inl rfl⟩, hq⟩
    · have hr := rsplit_eq _ l (Nat.le_refl _)
      have hok := okPieces_eq ⟨l.toArray⟩
      rw [show (⟨l.toArray⟩ : ByteArray).data.toList = l from rfl] at hok
      cases hc : okPieces ⟨l.toArray⟩ with
      | false =>
        refine .no (fun w hg => (split_all s w (by omega) hg).mono fun e w' ⟨hq, he⟩ => ?_) (fun w => (rsplit_any s w hs).mono fun e w' ⟨hq, he⟩ => ?_)
        · rw [hb] at he
          dsimp only at he
          rw [if_neg hl, if_neg (by rw [hc]; simp)] at he
          exact ⟨he, hq⟩
        · rw [hb] at he
          dsimp only at he
          rw [if_neg hl] at he
          refine ⟨?_, hq⟩
          rw [hc] at hok
          cases ha : (piecesL l).all isTy with
          | false =>
            rw [ha] at hr
            rw [hr] at he
            exact ⟨_, _, _, he⟩
          | true =>
            rw [ha, if_pos rfl] at hr
            rw [hr] at he
            obtain ⟨sa, sc, ls, he, -, -⟩ := he
            rw [ha, Bool.and_true] at hok
            rw [← hok] at he
            exact ⟨_, _, _, he⟩
      | true =>
        rw [hc] at hok
        have h2 := hok.symm
        rw [Bool.and_eq_true, decide_eq_true_eq] at h2
        obtain ⟨hlen, hall⟩ := h2
        rw [hall, if_pos rfl] at hr
        have hpl : (piecesOf ⟨l.toArray⟩).length = (piecesL l).length := by
          rw [← show (piecesOf ⟨l.toArray⟩).map (·.data.toList) = piecesL l from pieces_data _, List.length_map]
        refine .yes (piecesOf ⟨l.toArray⟩) (by omega) (fun w hg => (split_all s w (by omega) hg).mono fun e w' ⟨hq, he⟩ => ?_) (fun w => (rsplit_any s w hs).mono fun e w' ⟨hq, he⟩ => ?_)
        · rw [hb] at he
          dsimp only at he
          rw [if_neg hl, if_pos hc] at he
          obtain ⟨g, c, he, hsl⟩ := he
          exact ⟨⟨_, _, he, hsl⟩, hq⟩
        · rw [hb] at he
          dsimp only at he
          rw [if_neg hl, hr] at he
          obtain ⟨sa, sc, ls, he, hsl, hm⟩ := he
          have hls : ls = piecesOf ⟨l.toArray⟩ := data_inj (by rw [hm]; exact (pieces_data ⟨l.toArray⟩).symm)
          subst hls
          rw [decide_eq_true hlen, ← hpl] at he
          exact ⟨⟨_, _, he, hsl⟩, hq⟩

set_option maxRecDepth 100000 in
set_option maxHeartbeats 4000000 in
theorem lists_law (s : ByteArray) (hr : s.size ≤ 140737488351232) (w : World) (hg : Glob w) (hs : s.size ≤ 4294967280) :
    Calls Tryd.prog 5 #[.string s] w fun e w' => e = .returned (.bool true) ∧ Below w.heap.size w w' := by
  have HG := Lib.hid hg
  clear hg
  cases sp_out s hs with
  | no h1 h2 =>
    have H1 := Lib.hid h1
    have H2 := Lib.hid h2
    clear h1 h2
    go_enter Tryd.func5, Tryd.ntmps5
    go_wp2_with (first
      | (go_at_call 24; refine (H1.out _ HG.out).mono ?_; rintro e w1 ⟨rfl, hb1⟩)
      | (go_at_call 25; refine (H2.out _).mono ?_; rintro e w2 ⟨⟨sa, n, sc, rfl⟩, hb2⟩; have HQ := Lib.hid (below_next hb1 hb2); clear hb1 hb2)
      | (go_at_call 13; refine (awake_any _ (HG.out.below HQ.out)).mono ?_; rintro e w3 ⟨rfl, hb3⟩))
    go_ret
    exact ⟨rfl, below_next HQ.out hb3⟩
  | yes ls hl h1 h2 =>
    have H1 := Lib.hid h1
    have H2 := Lib.hid h2
    clear h1 h2
    go_enter Tryd.func5, Tryd.ntmps5
    go_wp2_with (first
      | (go_at_call 24; refine (H1.out _ HG.out).mono ?_; rintro e w1 ⟨⟨sa, sc, rfl, hsl⟩, hb1⟩; have HSL := Lib.hid hsl; clear hsl)
      | (go_at_call 25; refine (H2.out _).mono ?_; rintro e w2 ⟨⟨sa2, sc2, rfl, hsl⟩, hb2⟩; have HSL1 := Lib.hid (HSL.out.below hb2); have HSL2 := Lib.hid hsl; have HQ := Lib.hid (below_next hb1 hb2); clear hb1 hb2 hsl)
      | (go_at_call 26; refine (strings_eq _ _ _ _ _ _ HSL1.out HSL2.out (by omega)).mono ?_; rintro e w3 ⟨rfl, hb3⟩)
      | (go_at_call 13; refine (awake_any _ (HG.out.below (below_next HQ.out hb3))).mono ?_; rintro e w4 ⟨rfl, hb4⟩))
    go_ret
    exact ⟨rfl, below_next (below_next HQ.out hb3) hb4⟩
end Go.Proofs.YthgiianmfehcaaaDoor
