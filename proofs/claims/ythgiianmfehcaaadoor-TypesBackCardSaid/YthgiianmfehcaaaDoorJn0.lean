/- The reference's Join; Split of a joined list. -/
import Derived.Test.YthgiianmfehcaaaDoorLwL
namespace Go.Proofs.YthgiianmfehcaaaDoor
open Go Go.RowKit Go.Sort
set_option linter.unusedVariables false
set_option linter.unusedSimpArgs false

theorem jn_first {ls : List (List UInt8)} (h : 0 < ls.length) (sep : List UInt8) : Lib.join (ls.take 1) sep = ls[0] := by
  match ls, h with
  | x :: r, _ => simp [Lib.join_one]
theorem jn_snoc {ls : List (List UInt8)} {j : Nat} (h : j < ls.length) (h0 : 0 < j) (sep : List UInt8) : Lib.join (ls.take (j + 1)) sep = Lib.join (ls.take j) sep ++ sep ++ ls[j] := by
  match ls, h with
  | x :: r, h =>
    obtain ⟨i, rfl⟩ : ∃ i, j = i + 1 := ⟨j - 1, by omega⟩
    have hi : i < r.length := by simpa using h
    rw [List.take_succ_cons, List.take_succ_cons, Lib.join_cons, Lib.join_cons, Lib.joinTail_take_succ sep r i r[i] (List.getElem?_eq_getElem hi)]
    simp
def joinS (ls : List ByteArray) : List UInt8 := Lib.join (ls.map (·.data.toList)) [44, 32]
theorem joinS_first {ls : List ByteArray} (h : 0 < ls.length) : joinS (ls.take 1) = (ls[0]).data.toList := by
  unfold joinS
  rw [List.map_take, jn_first (by simpa using h)]
  simp
theorem joinS_snoc {ls : List ByteArray} {j : Nat} (h : j < ls.length) (h0 : 0 < j) : joinS (ls.take (j + 1)) = joinS (ls.take j) ++ [44, 32] ++ (ls[j]).data.toList := by
  unfold joinS
  rw [List.map_take, jn_snoc (by simpa using h) h0, List.map_take]
  simp
theorem joinS_len : ∀ (ls : List ByteArray), (∀ s ∈ ls, s.size ≤ 1000) → (joinS ls).length ≤ 1002 * ls.length
  | ls, h => by
    unfold joinS
    cases ls with
    | nil => simp [Lib.join_nil]
    | cons x r =>
      rw [List.map_cons, Lib.join_length]
      have := lens_le 1000 ((x :: r).map (·.data.toList)) (by
        intro y hy
        rw [List.mem_map] at hy
        obtain ⟨z, hz, rfl⟩ := hy
        have h1 := h z hz
        have h2 : z.data.toList.length = z.size := by simp
        omega)
      rw [List.map_cons] at this
      simp only [List.length_cons, List.length_nil, List.length_map] at this ⊢
      omega
set_option maxRecDepth 100000 in
set_option maxHeartbeats 2000000 in
theorem rjoin_any (a : Option Addr) (c : Nat) (ls : List ByteArray) (w : World) (hs : StrSl w a ls) (hl : ls.length ≤ 1000) (hsz : ∀ s ∈ ls, s.size ≤ 1000) :
    Calls Tryd.prog 41 #[.slice a ls.length c] w fun e w' => e = .returned (.string ⟨(40 :: joinS ls ++ [41]).toArray⟩) ∧ w = w' := by
  have HS := Lib.hid hs
  have HSZ := Lib.hid hsz
  clear hs hsz
  go_enter Tryd.func41, Tryd.ntmps41
  go_wp2_with fail
  go_loop [3, 4] (fun t i => ∃ (j : Nat) (st : ByteArray), j ≤ ls.length ∧ i = .int .i64 j ∧ t = .string st ∧ st.data.toList = 40 :: joinS (ls.take j)) (fun _ i => ls.length - (intOf i).toNat)
  case atStart => exact ⟨0, _, Nat.zero_le _, rfl, rfl, rfl⟩
  case round =>
    obtain ⟨j, st, hj, rfl, rfl, hst⟩ := hrel
    have hsts : st.size ≤ 1100000 := by
      have h1 := joinS_len (ls.take j) (fun s hs => HSZ.out s (List.mem_of_mem_take hs))
      have h2 : (ls.take j).length ≤ 1000 := by simp; omega
      have h3 := congrArg List.length hst
      have h4 : st.data.toList.length = st.size := by simp
      rw [h4, List.length_cons] at h3
      omega
    have HST := Lib.hid hst
    clear hst
    rcases Nat.lt_or_ge j ls.length with hlt | hge
    · obtain ⟨g, off, rfl, hcell⟩ := HS.out.at hlt
      have hxs := HSZ.out ls[j] (List.getElem_mem _)
      obtain ⟨x, hx⟩ : ∃ x, x = ls[j] := ⟨_, rfl⟩
      rw [← hx] at hcell hxs
      have hlt' : (j : Int) < (ls.length : Int) := by omega
      rcases Nat.eq_zero_or_pos j with h0 | h0
      · have hf := joinS_first (ls := ls) (by omega)
        have HX := Lib.hid hx
        have HF := Lib.hid hf
        clear hx hf
        subst h0
        rw [Nat.add_zero] at hcell
        go_wp2_with fail
        go_round
        case rel =>
          refine ⟨1, _, hlt, rfl, rfl, ?_⟩
          rw [HF.out, ← HX.out]
          simp [HST.out, joinS, Lib.join_nil]
        case measure => simp [intOf]; omega
      · have hf := joinS_snoc (ls := ls) hlt h0
        have HX := Lib.hid hx
        have HF := Lib.hid hf
        have h0i : (0 : Int) < (j : Int) := by omega
        clear hx hf
        go_wp2_with fail
        go_round
        case rel =>
          refine ⟨j + 1, _, hlt, by simp, rfl, ?_⟩
          rw [HF.out, ← HX.out]
          simp [HST.out]
        case measure => simp [intOf]; omega
    · have hje : j = ls.length := by omega
      subst hje
      go_wp2_with fail
      go_ret
      refine ⟨?_, rfl⟩
      have e1 : st ++ ⟨#[41]⟩ = ⟨(40 :: joinS ls ++ [41]).toArray⟩ := by
        apply ByteArray.ext
        apply Array.ext'
        have := HST.out
        rw [List.take_length] at this
        simp [this]
      exact congrArg (fun t => Ending.returned (.string t)) e1

theorem pieces_join : ∀ (ls : List (List UInt8)), ls ≠ [] → (∀ x ∈ ls, (44 : UInt8) ∉ x) → piecesL (Lib.join ls [44, 32]) = ls
  | [], h, _ => absurd rfl h
  | [x], _, h => by
    rw [Lib.join_one]
    refine piecesL_miss (Lib.index_none fun j hj => ?_)
    rw [Bool.eq_false_iff]
    intro ho
    exact h x (by simp) (List.mem_of_getElem? (occ_at ho).1)
  | x :: y :: r, _, h => by
    have hj : Lib.join (x :: y :: r) [44, 32] = x ++ 44 :: 32 :: Lib.join (y :: r) [44, 32] := by
      rw [Lib.join_cons, Lib.join_cons]
      simp [Lib.joinTail]
    rw [hj, piecesL_hit (index_cut (h x (by simp)))]
    congr 1
    · simp
    · rw [show (x ++ 44 :: 32 :: Lib.join (y :: r) [44, 32]).drop (x.length + 2) = Lib.join (y :: r) [44, 32] by simp [List.drop_append]]
      exact pieces_join (y :: r) (by simp) (fun z hz => h z (by simp [hz]))
theorem isTy_nil : isTy [] = false := by rfl
theorem bodyOf_join (l : List UInt8) : bodyOf (40 :: l ++ [41]) = some l := by
  unfold bodyOf
  have h1 : Lib.hasPrefix ((40 : UInt8) :: l ++ [41]) [40] = true := by simp [Lib.hasPrefix, List.isPrefixOf]
  have h2 : Lib.hasSuffix ((40 : UInt8) :: l ++ [41]).tail [41] = true := by
    rw [List.cons_append, List.tail_cons, suffix_iff (by simp)]
    simp
  rw [h1, h2]
  simp
theorem goodTy {s : ByteArray} : badTy s = false ↔ isTy s.data.toList = true := by rw [badTy_isTy]; simp
theorem isTy_len {l : List UInt8} (h : isTy l = true) : l.length ≤ 60 := by
  unfold isTy at h
  obtain ⟨q, hq⟩ := Option.isSome_iff_exists.1 h
  exact readOf_len hq
theorem joinS_ne {ls : List ByteArray} (h : ls ≠ []) (hg : ls.any badTy = false) : joinS ls ≠ [] := by
  match ls, h with
  | x :: r, _ =>
    intro he
    unfold joinS at he
    rw [List.map_cons, Lib.join_cons, List.append_eq_nil_iff] at he
    rw [List.any_eq_false] at hg
    have := goodTy.1 (by simpa using hg x (by simp))
    rw [he.1, isTy_nil] at this
    cases this
theorem joinS_pieces {ls : List ByteArray} (h : ls ≠ []) (hg : ls.any badTy = false) : piecesL (joinS ls) = ls.map (·.data.toList) := by
  refine pieces_join _ (by simpa using h) ?_
  intro x hx
  rw [List.mem_map] at hx
  obtain ⟨s, hs, rfl⟩ := hx
  rw [List.any_eq_false] at hg
  exact isTy_no44 (goodTy.1 (by simpa using hg s hs))
/-- Split of a joined list: the list, or too many. -/
theorem split_join (ls : List ByteArray) (w : World) (hg : Glob w) (hgd : ls.any badTy = false) (hl : ls.length ≤ 1000) (s : ByteArray) (hs : s.data.toList = 40 :: joinS ls ++ [41]) :
    Calls Tryd.prog 24 #[.string s] w fun e w' => Below w.heap.size w w' ∧ (if ls.length ≤ 100 then ∃ sa sc, e = .returned (.tuple #[.slice sa ls.length sc, .int .i64 0]) ∧ StrSl w' sa ls else e = .returned (.tuple #[.slice none 0 0, .int .i64 10])) := by
  have hsz : s.size < 4294967281 := by
    have h1 := joinS_len ls (fun x hx => by
      rw [List.any_eq_false] at hgd
      have := isTy_len (goodTy.1 (by simpa using hgd x hx))
      simp at this; omega)
    have h2 := congrArg List.length hs
    have h3 : s.data.toList.length = s.size := by simp
    rw [h3] at h2
    simp at h2
    omega
  refine (split_all s w hsz hg).mono fun e w' ⟨hb, he⟩ => ⟨hb, ?_⟩
  rw [hs, bodyOf_join] at he
  dsimp only at he
  by_cases h0 : ls = []
  · subst h0
    rw [if_pos (show joinS [] = [] from rfl)] at he
    rw [if_pos (by decide)]
    exact ⟨none, 0, he, .inl rfl⟩
  · rw [if_neg (joinS_ne h0 hgd)] at he
    have hp := joinS_pieces h0 hgd
    have hpo : piecesOf ⟨(joinS ls).toArray⟩ = ls := data_inj (by rw [show (piecesOf ⟨(joinS ls).toArray⟩).map (·.data.toList) = piecesL (joinS ls) from pieces_data _, hp])
    have hok : okPieces ⟨(joinS ls).toArray⟩ = decide (ls.length ≤ 100) := by
      unfold okPieces
      rw [hpo, hgd]; simp
    rw [hok, hpo] at he
    by_cases h100 : ls.length ≤ 100
    · rw [if_pos (by simpa using h100)] at he
      rw [if_pos h100]
      obtain ⟨g, c, he, hsl⟩ := he
      exact ⟨_, _, he, hsl⟩
    · rw [if_neg (by simpa using h100)] at he
      rw [if_neg h100]
      exact he
theorem split_long (ls : List ByteArray) (n : Nat) (hn : ls.length = n) (w : World) (hg : Glob w) (hgd : ls.any badTy = false) (hl : 100 < n ∧ n ≤ 1000) (s : ByteArray) (hs : s.data.toList = 40 :: joinS ls ++ [41]) :
    Calls Tryd.prog 24 #[.string s] w fun e w' => Below w.heap.size w w' ∧ e = .returned (.tuple #[.slice none 0 0, .int .i64 10]) := by
  subst hn
  exact (split_join ls w hg hgd hl.2 s hs).mono fun e w' ⟨hb, he⟩ => ⟨hb, by rw [if_neg (by omega)] at he; exact he⟩
theorem split_short (ls : List ByteArray) (n : Nat) (hn : ls.length = n) (w : World) (hg : Glob w) (hgd : ls.any badTy = false) (hl : n ≤ 100) (s : ByteArray) (hs : s.data.toList = 40 :: joinS ls ++ [41]) :
    Calls Tryd.prog 24 #[.string s] w fun e w' => Below w.heap.size w w' ∧ ∃ sa sc, e = .returned (.tuple #[.slice sa n sc, .int .i64 0]) ∧ StrSl w' sa ls := by
  subst hn
  exact (split_join ls w hg hgd (by omega) s hs).mono fun e w' ⟨hb, he⟩ => ⟨hb, by rw [if_pos hl] at he; exact he⟩
end Go.Proofs.YthgiianmfehcaaaDoor
