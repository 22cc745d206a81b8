/- types.read, where the type ends as one with cells. -/
import Derived.Test.YthgiianmfehcaaaDoorTy6
namespace Go.Proofs.YthgiianmfehcaaaDoor
open Go Go.RowKit
set_option linter.unusedVariables false
set_option linter.unusedSimpArgs false

theorem words_m (w : World) : Calls Tryd.prog 71 #[] w fun e w' => ∃ m, e = .returned (.map (some m)) ∧ m = w.heap.size ∧ w'.heap.size = m + 1 ∧ w'.heap[m]? = some (.map wordEs 2) ∧ Below w.heap.size w w' :=
  (words_any w).mono fun e w' ⟨he, hw⟩ => ⟨_, he, rfl, by rw [← hw]; simp, by rw [← hw]; exact heap_alloc_new w _, by rw [← hw]; exact (Below.refl _ w).alloc (Nat.le_refl _) _⟩
/-- The world at the head of the loop over the beginnings, of which those in `seen` are behind. -/
structure RdW (w : World) (m : Nat) (seen : Array Nat) (wr : World) : Prop where
  it : wr.heap[m + 1]? = some (.mapIter (some m) 2 seen 2)
  mp : wr.heap[m]? = some (.map wordEs 2)
  res : wr.heap[w.heap.size]? = some (.cells zCells 73 (0, 0))
  below : Below w.heap.size w wr
def RdS (body : List UInt8) (seen : Array Nat) : Prop :=
  (seen.contains 0 = true → Lib.hasPrefix body [109, 101, 109, 60] = false) ∧ (seen.contains 1 = true → Lib.hasPrefix body [97, 114, 114, 60] = false) ∧ ∀ x ∈ seen, x = 0 ∨ x = 1
/-- How many of the two are left. -/
def iterLeft (m : Nat) (wr : World) : Nat := match wr.heap[m + 1]? with | some (.mapIter _ _ seen _) => (leftOf wordEs seen).size | _ => 0

theorem rd_step {w wr w1 : World} {m : Nat} {seen : Array Nat} (hd : RdW w m seen wr) (hm : w.heap.size < m) (h1 : w1 = wr ∨ w1 = wr.drew) (b : Nat) : RdW w m (seen.push b) (Go.ChangeMaps.setBlock w1 (m + 1) (.mapIter (some m) 2 (seen.push b) 2)) := by
  have hsz := blkLt hd.it
  have hh : w1.heap = wr.heap := by rcases h1 with rfl | rfl <;> rfl
  have hb : Below w.heap.size w w1 := by rcases h1 with rfl | rfl; exact hd.below; exact hd.below.drew
  refine ⟨?_, ?_, ?_, ?_⟩
  · simp [Go.ChangeMaps.setBlock, hh, hsz]
  · simp [Go.ChangeMaps.setBlock, hh, Array.getElem?_setIfInBounds, hd.mp]
  · simp [Go.ChangeMaps.setBlock, hh, Array.getElem?_setIfInBounds, hd.res]; omega
  · refine ⟨hb.os, hb.tape, hb.output, by simpa [Go.ChangeMaps.setBlock] using hb.size, fun k hk => ?_⟩
    rw [← hb.block k hk]
    simp [Go.ChangeMaps.setBlock, Array.getElem?_setIfInBounds]; omega

theorem leftOf_words (seen : Array Nat) : leftOf wordEs seen = (if seen.contains 0 then #[] else #[wordEs[0]]) ++ (if seen.contains 1 then #[] else #[wordEs[1]]) := by
  apply Array.ext'
  unfold leftOf wordEs
  cases h0 : seen.contains 0 <;> cases h1 : seen.contains 1 <;> simp [Array.toList_filter, List.filter_cons, h0, h1] <;> simp_all
theorem rd_next (ty : TypeId) {w wr : World} {m : Nat} {seen : Array Nat} (hd : RdW w m seen wr) (hm : w.heap.size < m) :
    (seen.contains 0 = true ∧ seen.contains 1 = true ∧ (Instr.next (.pointer (some ⟨m + 1, 0, none⟩)) false ty).run Tryd.prog wr = .ok (.tuple #[.bool false]) wr) ∨
    (∃ (k b : Nat) (pw : List UInt8) (W : World), ((k = 2 ∧ b = 0 ∧ pw = [109, 101, 109, 60]) ∨ (k = 3 ∧ b = 1 ∧ pw = [97, 114, 114, 60])) ∧ (leftOf wordEs (seen.push b)).size < (leftOf wordEs seen).size ∧
      (Instr.next (.pointer (some ⟨m + 1, 0, none⟩)) false ty).run Tryd.prog wr = .ok (.tuple #[.bool true, .int .i64 k, .string ⟨pw.toArray⟩]) W ∧
      (Instr.entry (.pointer (some ⟨m + 1, 0, none⟩))).run Tryd.prog W = .ok (.tuple #[.int .i64 k, .string ⟨pw.toArray⟩]) W ∧ RdW w m (seen.push b) W) := by
  rcases run_next_at (P := Tryd.prog) wr ty (m + 1) m 2 2 seen wordEs 2 hd.it hd.mp (by simp [wordEs]) (Nat.le_refl _) with ⟨h, hr⟩ | ⟨e, he, w1, hw, hr⟩
  · left
    rw [leftOf_words] at h
    refine ⟨?_, ?_, hr⟩
    · cases h0 : seen.contains 0
      · rw [h0] at h; simp at h
      · rfl
    · cases h0 : seen.contains 1
      · rw [h0] at h; simp at h
      · rfl
  · right
    have hst := rd_step hd hm hw e.born
    rw [leftOf_words] at he
    have key : (e = wordEs[0] ∧ seen.contains 0 = false) ∨ (e = wordEs[1] ∧ seen.contains 1 = false) := by
      cases h0 : seen.contains 0 <;> cases h1 : seen.contains 1 <;> rw [h0, h1] at he <;> simp at he <;> simp [he]
    rcases key with ⟨rfl, h0⟩ | ⟨rfl, h0⟩
    · refine ⟨2, 0, [109, 101, 109, 60], _, .inl ⟨rfl, rfl, rfl⟩, ?_, hr, run_entry_at _ (m + 1) m 2 seen wordEs 2 wordEs[0] hst.it hst.mp (by simp [wordEs]) (by simp [wordEs]), hst⟩
      rw [leftOf_words, leftOf_words, h0]
      cases h1 : seen.contains 1 <;> simp_all
    · refine ⟨3, 1, [97, 114, 114, 60], _, .inr ⟨rfl, rfl, rfl⟩, ?_, hr, run_entry_at _ (m + 1) m 2 seen wordEs 2 wordEs[1] hst.it hst.mp (by simp [wordEs]) (by simp [wordEs]), hst⟩
      rw [leftOf_words, leftOf_words, h0]
      cases h1 : seen.contains 0 <;> simp_all

theorem notBoth {l : List UInt8} (h : Lib.hasPrefix l [109, 101, 109, 60] = true) (h2 : Lib.hasPrefix l [97, 114, 114, 60] = true) : False := by
  unfold Lib.hasPrefix at h h2
  match l, h, h2 with
  | a :: l, h, h2 =>
    simp only [List.isPrefixOf, Bool.and_eq_true, beq_iff_eq] at h h2
    rw [← h.1] at h2
    exact absurd h2.1 (by decide)
theorem shape_str (k : Nat) (s : ByteArray) (w : World) (hl : s.data.toList.length ≤ 140737488355328) (hk : k ≤ 5) :
    Calls Tryd.prog 85 #[.int .i64 k, .string s] w (ShapePost k s.data.toList w) := shape_any k s.data.toList w hl hk

set_option maxRecDepth 100000 in
set_option maxHeartbeats 2000000 in
theorem read_suffix (s : ByteArray) (w : World) (hs : s.size ≤ 140737488355328) (h : elemOf s.data.toList = none) (h2 : Lib.hasSuffix s.data.toList [62] = true) :
    Calls Tryd.prog 74 #[.string s] w (ReadPost s.data.toList w) := by
  have H := Lib.hid h
  have H2 := Lib.hid h2
  have hl : s.data.toList.length = s.size := by simp
  have HL := Lib.hid hl
  clear h h2 hl
  have hs1 : s.size ≤ 9223372036854775807 := by omega
  go_enter Tryd.func74, Tryd.ntmps74
  go_wp2_with (first
    | (go_at_call 42; refine (element_no _ _ H.out).mono ?_; rintro e w1 ⟨ga, gb, rfl, hb1⟩; have hz : w.heap.size < w1.heap.size := (by have := hb1.size; simp at this; omega); have c0 := rdCell hb1 w.heap.size (by simp); have f0 := rdFree hb1 w.heap.size (by simp))
    | (go_at_call 52; refine (cutSuffix_yes _ _ _ hs1 H2.out).mono ?_; rintro e w' ⟨t, rfl, ht, rfl⟩)
    | (go_at_call 71; refine (words_m _).mono ?_; rintro e w2 ⟨m, rfl, hm, hsz, hmp, hb2⟩; (have hrange := run_range_map' (P := Tryd.prog) Tryd.underlying105 hmp); rw [hsz] at hrange; (have HM := Lib.hid (And.intro hm (And.intro hsz (And.intro hmp hb2)))); clear hm hsz hmp hb2))
  have hwm : w.heap.size < m := by
    obtain ⟨hm, -⟩ := HM.out
    rw [hm]; simp [World.setCell]; omega
  have hd : RdW w m #[] (w2.alloc (Obj.mapIter (some m) 2 #[] 2)) := by
    obtain ⟨hm, hsz, hmp, hb2⟩ := HM.out
    refine ⟨by rw [← hsz]; exact heap_alloc_new _ _, allocPast _ hmp (by omega), allocPast _ ?_ (by omega), ?_⟩
    · rw [hb2.block w.heap.size (by simp [World.setCell]; omega)]
      repeat rw [heap_setCell_other _ _ _ _ (by simp; omega)]
      refine allocPast _ ?_ (by omega)
      rw [hb1.block _ (by simp)]
      exact heap_alloc_new _ _
    · have hbw := below_own hb1
      refine Below.alloc ?_ (by omega) _
      refine Below.trans ?_ (hb2.mono (by simp [World.setCell]; omega))
      repeat (with_reducible (first | exact hbw | refine below_set ?_ (Nat.le_of_lt hz) _ _ | refine belowN ?_ _ | refine belowA ?_ _))
  clear HM hrange hb1 c0 f0 hz
  generalize (w2.alloc (Obj.mapIter (some m) 2 #[] 2)) = W at hd
  go_loopw [] (fun wr => ∃ seen, RdW w m seen wr ∧ RdS t.data.toList seen) (fun wr => iterLeft m wr)
  · exact ⟨#[], hd, by simp [RdS]⟩
  · clear hd
    obtain ⟨seen, hd, hS⟩ := hrel
    have HS := Lib.hid hS
    clear hS
    have HIT := Lib.hid hd.it
    rcases rd_next 0 hd hwm with ⟨h0, h1, hn⟩ | ⟨k, b, pw, W2, hk, hlt, hn, he, hd2⟩
    · have hr : readOf s.data.toList = foreignOf s.data.toList := by
        have e0 := HS.out.1 h0
        have e1 := HS.out.2.1 h1
        rw [ht.out] at e0 e1
        have hl := HL.out
        simp only [List.length_cons, List.length_nil, hl, Nat.zero_add] at e0 e1
        unfold readOf; rw [H.out]; simp only [H2.out, hl, if_true]
        rw [if_neg (by rw [e0]; simp), if_neg (by rw [e1]; simp)]
      have HR := Lib.hid hr
      have c0 := blkCell hd.res
      have f0 := blkFree hd.res
      have hz := blkLt hd.res
      have HD := Lib.hid hd.below
      clear hr hd h0 h1 HS
      go_wp2_with (first
        | (go_at_call 51; refine (cutPrefix_or _ _ _).mono ?_; rintro e w' (⟨t, rfl, ht, hp, rfl⟩ | ⟨rfl, hp, rfl⟩))
        | (go_at_call 86; refine (cut_or _ _ _ (by have := congrArg List.length ht.out; simp at this; omega)).mono ?_; rintro e w' (⟨x, y, nd, rfl, hc, rfl⟩ | ⟨nd, rfl, hc, rfl⟩))
        | (go_at_call 87; refine (isName_any _ _).mono ?_; rintro e w' ⟨rfl, rfl⟩))
      · have hf := foreign_yes hp.out (by have := HL.out; omega) (by have := hc.out; rw [ht.out] at this; simpa using this)
        refine bodyPost_ret (v := .tuple #[.agg #[.int .i64 4, .int .i64 0, .int .i64 0, .int .i64 0, .int .i64 0, .int .i64 0], .bool (nameOf y.data.toList)]) (by simp [results, Tryd.results74, go_sem, c0, hz]) rfl ?_
        refine read_post ⟨4, 0, []⟩ (fun q hq => ?_) (by simp) _ ?_ rfl ?_
        · rw [HR.out, hf] at hq; split at hq
          · exact Option.some.inj hq
          · cases hq
        · rw [HR.out, hf]; cases nameOf y.data.toList <;> simp_all
        · ((have hbw := HD.out); repeat (with_reducible (first | exact hbw | refine below_set ?_ (Nat.le_refl _) _ _ | refine belowN ?_ _ | refine belowA ?_ _)))
      · have hf := foreign_yes hp.out (by have := HL.out; omega) (by have := hc.out; rw [ht.out] at this; simpa using this)
        refine bodyPost_ret (v := .tuple #[.agg #[.int .i64 4, .int .i64 0, .int .i64 0, .int .i64 0, .int .i64 0, .int .i64 0], .bool false]) (by simp [results, Tryd.results74, go_sem, c0, hz]) rfl ?_
        refine read_post ⟨4, 0, []⟩ (fun q hq => ?_) (by simp) _ ?_ rfl ?_
        · rw [HR.out, hf] at hq; split at hq
          · exact Option.some.inj hq
          · cases hq
        · rw [HR.out, hf]; simp_all
        · ((have hbw := HD.out); repeat (with_reducible (first | exact hbw | refine below_set ?_ (Nat.le_refl _) _ _ | refine belowN ?_ _ | refine belowA ?_ _)))
      · have hf : foreignOf s.data.toList = none := foreign_no (by rintro ⟨_, _, x, y, h, _⟩; have := hc.out; rw [ht.out] at this; simp at this; rw [h] at this; cases this)
        refine bodyPost_ret (v := .tuple #[.agg #[.int .i64 4, .int .i64 0, .int .i64 0, .int .i64 0, .int .i64 0, .int .i64 0], .bool (nameOf [])]) (by simp [results, Tryd.results74, go_sem, c0, hz]) rfl ?_
        refine read_post ⟨4, 0, []⟩ (fun q hq => by rw [HR.out, hf] at hq; cases hq) (by simp) _ (by rw [HR.out, hf]; rfl) rfl ?_
        ((have hbw := HD.out); repeat (with_reducible (first | exact hbw | refine below_set ?_ (Nat.le_refl _) _ _ | refine belowN ?_ _ | refine belowA ?_ _)))
      · have hf : foreignOf s.data.toList = none := foreign_no (by rintro ⟨_, _, x, y, h, _⟩; have := hc.out; rw [ht.out] at this; simp at this; rw [h] at this; cases this)
        refine bodyPost_ret (v := .tuple #[.agg #[.int .i64 4, .int .i64 0, .int .i64 0, .int .i64 0, .int .i64 0, .int .i64 0], .bool false]) (by simp [results, Tryd.results74, go_sem, c0, hz]) rfl ?_
        refine read_post ⟨4, 0, []⟩ (fun q hq => by rw [HR.out, hf] at hq; cases hq) (by simp) _ (by rw [HR.out, hf]; rfl) rfl ?_
        ((have hbw := HD.out); repeat (with_reducible (first | exact hbw | refine below_set ?_ (Nat.le_refl _) _ _ | refine belowN ?_ _ | refine belowA ?_ _)))
      · have hf : foreignOf s.data.toList = none := foreign_no (by rintro ⟨_, h, _⟩; have := HL.out; omega)
        refine bodyPost_ret (v := .tuple #[.agg #[.int .i64 0, .int .i64 0, .int .i64 0, .int .i64 0, .int .i64 0, .int .i64 0], .bool false]) (by simp [results, Tryd.results74, go_sem, c0, hz]) rfl ?_
        refine read_post ⟨0, 0, []⟩ (fun q hq => by rw [HR.out, hf] at hq; cases hq) (by simp) _ (by rw [HR.out, hf]; rfl) rfl ?_
        ((have hbw := HD.out); repeat (with_reducible (first | exact hbw | refine below_set ?_ (Nat.le_refl _) _ _ | refine belowN ?_ _ | refine belowA ?_ _)))
      · have hf : foreignOf s.data.toList = none := foreign_no (by rintro ⟨h, _⟩; rw [hp.out] at h; cases h)
        refine bodyPost_ret (v := .tuple #[.agg #[.int .i64 0, .int .i64 0, .int .i64 0, .int .i64 0, .int .i64 0, .int .i64 0], .bool false]) (by simp [results, Tryd.results74, go_sem, c0, hz]) rfl ?_
        refine read_post ⟨0, 0, []⟩ (fun q hq => by rw [HR.out, hf] at hq; cases hq) (by simp) _ (by rw [HR.out, hf]; rfl) rfl ?_
        ((have hbw := HD.out); repeat (with_reducible (first | exact hbw | refine below_set ?_ (Nat.le_refl _) _ _ | refine belowN ?_ _ | refine belowA ?_ _)))
    · have c0 := blkCell hd2.res
      have f0 := blkFree hd2.res
      have hz := blkLt hd2.res
      have HD := Lib.hid hd2
      clear hd2
      go_wp2_with (first
        | (go_at_call 51; refine (cutPrefix_or _ _ _).mono ?_; rintro e w' (⟨t4, rfl, ht4, hp, rfl⟩ | ⟨rfl, hp, rfl⟩))
        | (go_at_call 85; refine (shape_str k t4 _ (by have := congrArg List.length ht4.out; have h2 := congrArg List.length ht.out; simp at this h2; simp; omega) (by rcases hk with ⟨rfl, -⟩ | ⟨rfl, -⟩ <;> omega)).mono ?_; rintro e W1 ⟨⟨pk, pb, pe⟩, hp1, hp2, rfl, hb1⟩; (simp only [Pd.val]); (have c1 := blkCell (blkBelow HD.out.res hb1)); (have f1 := blkFree (blkBelow HD.out.res hb1)); (have hz1 := blkLt (blkBelow HD.out.res hb1))))
      · have hr : readOf s.data.toList = shapeOf k t4.data.toList := by
          have hl := HL.out
          have e4 := ht4.out
          have ep := hp.out
          rw [ht.out] at e4 ep
          simp only [List.length_cons, List.length_nil, hl, Nat.zero_add] at e4 ep
          unfold readOf; rw [H.out]; simp only [H2.out, hl, if_true]
          rcases hk with ⟨rfl, rfl, rfl⟩ | ⟨rfl, rfl, rfl⟩
          · rw [if_pos ep, e4]; rfl
          · rw [if_neg, if_pos ep, e4]; rfl
            intro hmem
            exact notBoth hmem ep
        refine bodyPost_ret (v := .tuple #[Pd.val ⟨pk, pb, pe⟩, .bool (shapeOf k t4.data.toList).isSome]) (by simp [results, Tryd.results74, go_sem, c1, hz1, Pd.val]) rfl ?_
        refine read_post ⟨pk, pb, pe⟩ (fun q hq => by rw [hr] at hq; exact hp1 q hq) hp2 _ (by rw [hr]) rfl ?_
        have hbw := HD.out.below.trans (hb1.mono HD.out.below.size)
        repeat (with_reducible (first | exact hbw | refine below_set ?_ (Nat.le_refl _) _ _ | refine belowN ?_ _ | refine belowA ?_ _))
      · go_roundw
        · refine ⟨_, HD.out, ?_⟩
          have hS := HS.out
          have ep := hp.out
          rcases hk with ⟨rfl, rfl, rfl⟩ | ⟨rfl, rfl, rfl⟩
          · exact ⟨fun _ => ep, fun h1 => hS.2.1 (by simpa using h1), fun x hx => by simp at hx; rcases hx with hx | rfl; exact hS.2.2 x hx; exact .inl rfl⟩
          · exact ⟨fun h1 => hS.1 (by simpa using h1), fun _ => ep, fun x hx => by simp at hx; rcases hx with hx | rfl; exact hS.2.2 x hx; exact .inr rfl⟩
        · show iterLeft m W2 < iterLeft m wr
          unfold iterLeft
          rw [HD.out.it, HIT.out]
          exact hlt
end Go.Proofs.YthgiianmfehcaaaDoor
