/- Texts of this claim, laid together: Ty6, Ty7, Ty8, Ty9. -/
import Derived.Test.YtmepjbjmjbpchaaGreatDoorShelf
import Derived.Test.YtmepjbjmjbpchaaGreatDoorMg2
section
/- types.read. -/
namespace Go.Proofs.YtmepjbjmjbpchaaGreatDoor
open Go Go.RowKit
set_option linter.unusedVariables false
set_option linter.unusedSimpArgs false

def foreignOf (l : List UInt8) : Option Pd :=
  if Lib.hasPrefix l [33] ∧ l.length ≤ 60 then
    match cutOf 46 l.tail with
    | none => none
    | some (x, y) => if nameOf x && nameOf y then some ⟨4, 0, []⟩ else none
  else none
/-- `types.read`. -/
def readOf (l : List UInt8) : Option Pd :=
  match elemOf l with
  | some p => some p
  | none =>
    if Lib.hasSuffix l [62] then
      if Lib.hasPrefix (l.take (l.length - 1)) [109, 101, 109, 60] then shapeOf 2 ((l.take (l.length - 1)).drop 4)
      else if Lib.hasPrefix (l.take (l.length - 1)) [97, 114, 114, 60] then shapeOf 3 ((l.take (l.length - 1)).drop 4)
      else foreignOf l
    else foreignOf l
def ReadPost (l : List UInt8) (w : World) (e : Ending) (w' : World) : Prop :=
  ∃ p : Pd, (∀ q, readOf l = some q → p = q) ∧ p.ext.length ≤ 3 ∧ e = .returned (.tuple #[p.val, .bool (readOf l).isSome]) ∧ Below w.heap.size w w'

theorem elemOf_ext {l : List UInt8} {q : Pd} (h : elemOf l = some q) : q.ext = [] := by
  unfold elemOf at h
  split at h
  · cases h; rfl
  · split at h
    · split at h
      · split at h
        · cases h; rfl
        · cases h
      · cases h
    · cases h

theorem element_yes (s : ByteArray) (q : Pd) (w : World) (h : elemOf s.data.toList = some q) :
    Calls Tryz.prog 162 #[.string s] w fun e w' => e = .returned (.tuple #[.agg #[.int .i64 q.kind, .int .i64 q.bits, .int .i64 0, .int .i64 0, .int .i64 0, .int .i64 0], .bool true]) ∧ Below w.heap.size w w' :=
  (element_any s w).mono fun e w' ⟨p, h0, h1, he, hb⟩ => by
    have := h1 q h
    subst this
    refine ⟨?_, hb⟩
    rw [he, h]
    simp [Pd.val, h0]
theorem element_no (s : ByteArray) (w : World) (h : elemOf s.data.toList = none) :
    Calls Tryz.prog 162 #[.string s] w fun e w' => ∃ a b : Nat, e = .returned (.tuple #[.agg #[.int .i64 a, .int .i64 b, .int .i64 0, .int .i64 0, .int .i64 0, .int .i64 0], .bool false]) ∧ Below w.heap.size w w' :=
  (element_any s w).mono fun e w' ⟨p, h0, h1, he, hb⟩ => by
    refine ⟨p.kind, p.bits, ?_, hb⟩
    rw [he, h]
    simp [Pd.val, h0]

abbrev zCells : Array Value := #[.int .i64 0, .int .i64 0, .int .i64 0, .int .i64 0, .int .i64 0, .int .i64 0]
theorem read_post {l : List UInt8} {w w' : World} {e : Ending} (p : Pd) (h1 : ∀ q, readOf l = some q → p = q) (h2 : p.ext.length ≤ 3) (b : Bool) (h3 : b = (readOf l).isSome) (he : e = .returned (.tuple #[p.val, .bool b])) (hb : Below w.heap.size w w') : ReadPost l w e w' :=
  ⟨p, h1, h2, by rw [he, h3], hb⟩

set_option maxHeartbeats 1000000 in
theorem read_elem (s : ByteArray) (q : Pd) (w : World) (h : elemOf s.data.toList = some q) : Calls Tryz.prog 154 #[.string s] w (ReadPost s.data.toList w) := by
  have hr : readOf s.data.toList = some q := by unfold readOf; rw [h]
  have HR := Lib.hid hr
  have H := Lib.hid h
  have HX := Lib.hid (elemOf_ext h)
  clear h hr
  obtain ⟨k, b, x⟩ := q
  go_enter Tryz.func154, Tryz.ntmps154
  go_wp2_with (go_at_call 162; refine (element_yes _ _ _ H.out).mono ?_; rintro e w1 ⟨rfl, hb1⟩; have hz : w.heap.size < w1.heap.size := (by have := hb1.size; simp at this; omega); have c0 := rdCell hb1 w.heap.size (by simp); have f0 := rdFree hb1 w.heap.size (by simp))
  refine bodyPost_ret (v := .tuple #[.agg #[.int .i64 k, .int .i64 b, .int .i64 0, .int .i64 0, .int .i64 0, .int .i64 0], .bool true]) (by simp [results, Tryz.results154, go_sem, c0, hz]) rfl ?_
  have hx : x = [] := HX.out
  subst hx
  refine read_post ⟨k, b, []⟩ (fun q hq => by rw [HR.out] at hq; exact Option.some.inj hq) (by simp) true (by rw [HR.out]; rfl) rfl ?_
  exact (set6_below (below_own hb1) (Nat.le_refl _) _ _ _ _ _ _).alloc (by simp [World.setCell]; omega) _

theorem cutPrefix_or (s : ByteArray) (p : List UInt8) (w : World) :
    Calls Tryz.prog 95 #[.string s, .string ⟨p.toArray⟩] w fun e w' =>
      (∃ t : ByteArray, e = .returned (.tuple #[.string t, .bool true]) ∧ Hid (t.data.toList = s.data.toList.drop p.length) ∧ Hid (Lib.hasPrefix s.data.toList p = true) ∧ w = w') ∨
      (e = .returned (.tuple #[.string s, .bool false]) ∧ Hid (Lib.hasPrefix s.data.toList p = false) ∧ w = w') := by
  cases h : Lib.hasPrefix s.data.toList p
  · exact (cutPrefix_no s p w h).mono fun e w' ⟨he, hw⟩ => .inr ⟨he, rfl, hw⟩
  · exact (cutPrefix_yes s p w h).mono fun e w' ⟨t, he, ht, hw⟩ => .inl ⟨t, he, ht, rfl, hw⟩
theorem cutSuffix_or (s : ByteArray) (p : List UInt8) (w : World) (hs : s.size ≤ 9223372036854775807) :
    Calls Tryz.prog 96 #[.string s, .string ⟨p.toArray⟩] w fun e w' =>
      (∃ t : ByteArray, e = .returned (.tuple #[.string t, .bool true]) ∧ Hid (t.data.toList = s.data.toList.take (s.data.toList.length - p.length)) ∧ Hid (Lib.hasSuffix s.data.toList p = true) ∧ w = w') ∨
      (e = .returned (.tuple #[.string s, .bool false]) ∧ Hid (Lib.hasSuffix s.data.toList p = false) ∧ w = w') := by
  cases h : Lib.hasSuffix s.data.toList p
  · exact (cutSuffix_no s p w hs h).mono fun e w' ⟨he, hw⟩ => .inr ⟨he, rfl, hw⟩
  · exact (cutSuffix_yes s p w hs h).mono fun e w' ⟨t, he, ht, hw⟩ => .inl ⟨t, he, ht, rfl, hw⟩
theorem cut_or (s : ByteArray) (c : UInt8) (w : World) (hsz : s.size ≤ 9223372036854775806) :
    Calls Tryz.prog 51 #[.string s, .string ⟨#[c]⟩] w fun e w' =>
      (∃ (x y : ByteArray) (n : Nat), e = .returned (.tuple #[.string x, .string y, .bool true]) ∧ Hid (cutOf c s.data.toList = some (x.data.toList, y.data.toList)) ∧ w.drewN n = w') ∨
      (∃ n : Nat, e = .returned (.tuple #[.string s, .string ⟨#[]⟩, .bool false]) ∧ Hid (cutOf c s.data.toList = none) ∧ w.drewN n = w') := by
  refine (cut_one s c w hsz).mono fun e w' ⟨⟨n, hn⟩, he⟩ => ?_
  cases h : cutOf c s.data.toList with
  | none => rw [h] at he; exact .inr ⟨n, he, rfl, hn.symm⟩
  | some p => obtain ⟨x, y⟩ := p; rw [h] at he; exact .inl ⟨⟨x.toArray⟩, ⟨y.toArray⟩, n, he, by simp [Hid], hn.symm⟩

theorem belowN {B : Nat} {a w : World} (h : Below B a w) (n : Nat) : Below B a (w.drewN n) := ⟨h.os, h.tape, h.output, h.size, h.block⟩
theorem belowA {w W : World} (h : Below w.heap.size w W) (o : Obj) : Below w.heap.size w (W.alloc o) := h.alloc h.size o
theorem foreign_yes {l : List UInt8} {x y : List UInt8} (h1 : Lib.hasPrefix l [33] = true) (h2 : l.length ≤ 60) (h3 : cutOf 46 l.tail = some (x, y)) : foreignOf l = if nameOf x && nameOf y then some ⟨4, 0, []⟩ else none := by
  unfold foreignOf; rw [if_pos ⟨h1, h2⟩, h3]
theorem foreign_no {l : List UInt8} (h : ¬ (Lib.hasPrefix l [33] = true ∧ l.length ≤ 60 ∧ ∃ x y, cutOf 46 l.tail = some (x, y) ∧ nameOf x = true ∧ nameOf y = true)) : foreignOf l = none := by
  unfold foreignOf
  split
  · rename_i h1
    split
    · rfl
    · rename_i x y h2
      rw [if_neg]
      intro h3
      rw [Bool.and_eq_true] at h3
      exact h ⟨h1.1, h1.2, x, y, h2, h3.1, h3.2⟩
  · rfl

set_option maxHeartbeats 2000000 in
theorem read_foreign (s : ByteArray) (w : World) (hs : s.size ≤ 140737488355328) (h : elemOf s.data.toList = none) (h2 : Lib.hasSuffix s.data.toList [62] = false) :
    Calls Tryz.prog 154 #[.string s] w (ReadPost s.data.toList w) := by
  have hr : readOf s.data.toList = foreignOf s.data.toList := by unfold readOf; rw [h]; simp [h2]
  have HR := Lib.hid hr
  have H := Lib.hid h
  have H2 := Lib.hid h2
  have hl : s.data.toList.length = s.size := by simp
  have HL := Lib.hid hl
  clear h hr h2 hl
  have hs1 : s.size ≤ 9223372036854775807 := by omega
  go_enter Tryz.func154, Tryz.ntmps154
  go_wp2_with (first
    | (go_at_call 162; refine (element_no _ _ H.out).mono ?_; rintro e w1 ⟨ga, gb, rfl, hb1⟩; have hz : w.heap.size < w1.heap.size := (by have := hb1.size; simp at this; omega); have c0 := rdCell hb1 w.heap.size (by simp); have f0 := rdFree hb1 w.heap.size (by simp))
    | (go_at_call 96; refine (cutSuffix_no _ _ _ hs1 H2.out).mono ?_; rintro e w' ⟨rfl, rfl⟩)
    | (go_at_call 95; refine (cutPrefix_or _ _ _).mono ?_; rintro e w' (⟨t, rfl, ht, hp, rfl⟩ | ⟨rfl, hp, rfl⟩))
    | (go_at_call 51; refine (cut_or _ _ _ (by have := congrArg List.length ht.out; simp at this; omega)).mono ?_; rintro e w' (⟨x, y, nd, rfl, hc, rfl⟩ | ⟨nd, rfl, hc, rfl⟩))
    | (go_at_call 42; refine (isName_any _ _).mono ?_; rintro e w' ⟨rfl, rfl⟩))
  · have hf := foreign_yes hp.out (by have := HL.out; omega) (by have := hc.out; rw [ht.out] at this; simpa using this)
    refine bodyPost_ret (v := .tuple #[.agg #[.int .i64 4, .int .i64 0, .int .i64 0, .int .i64 0, .int .i64 0, .int .i64 0], .bool (nameOf y.data.toList)]) (by simp [results, Tryz.results154, go_sem, c0, hz]) rfl ?_
    refine read_post ⟨4, 0, []⟩ (fun q hq => ?_) (by simp) _ ?_ rfl ?_
    · rw [HR.out, hf] at hq; split at hq
      · exact Option.some.inj hq
      · cases hq
    · rw [HR.out, hf]; cases nameOf y.data.toList <;> simp_all
    · ((have hbw := below_own hb1); repeat (with_reducible (first | exact hbw | refine below_set ?_ (Nat.le_refl _) _ _ | refine belowN ?_ _ | refine belowA ?_ _)))
  · have hf := foreign_yes hp.out (by have := HL.out; omega) (by have := hc.out; rw [ht.out] at this; simpa using this)
    refine bodyPost_ret (v := .tuple #[.agg #[.int .i64 4, .int .i64 0, .int .i64 0, .int .i64 0, .int .i64 0, .int .i64 0], .bool false]) (by simp [results, Tryz.results154, go_sem, c0, hz]) rfl ?_
    refine read_post ⟨4, 0, []⟩ (fun q hq => ?_) (by simp) _ ?_ rfl ?_
    · rw [HR.out, hf] at hq; split at hq
      · exact Option.some.inj hq
      · cases hq
    · rw [HR.out, hf]; simp_all
    · ((have hbw := below_own hb1); repeat (with_reducible (first | exact hbw | refine below_set ?_ (Nat.le_refl _) _ _ | refine belowN ?_ _ | refine belowA ?_ _)))
  · have hf : foreignOf s.data.toList = none := foreign_no (by rintro ⟨_, _, x, y, h, _⟩; have := hc.out; rw [ht.out] at this; simp at this; rw [h] at this; cases this)
    refine bodyPost_ret (v := .tuple #[.agg #[.int .i64 4, .int .i64 0, .int .i64 0, .int .i64 0, .int .i64 0, .int .i64 0], .bool (nameOf [])]) (by simp [results, Tryz.results154, go_sem, c0, hz]) rfl ?_
    refine read_post ⟨4, 0, []⟩ (fun q hq => by rw [HR.out, hf] at hq; cases hq) (by simp) _ (by rw [HR.out, hf]; rfl) rfl ?_
    ((have hbw := below_own hb1); repeat (with_reducible (first | exact hbw | refine below_set ?_ (Nat.le_refl _) _ _ | refine belowN ?_ _ | refine belowA ?_ _)))
  · have hf : foreignOf s.data.toList = none := foreign_no (by rintro ⟨_, _, x, y, h, _⟩; have := hc.out; rw [ht.out] at this; simp at this; rw [h] at this; cases this)
    refine bodyPost_ret (v := .tuple #[.agg #[.int .i64 4, .int .i64 0, .int .i64 0, .int .i64 0, .int .i64 0, .int .i64 0], .bool false]) (by simp [results, Tryz.results154, go_sem, c0, hz]) rfl ?_
    refine read_post ⟨4, 0, []⟩ (fun q hq => by rw [HR.out, hf] at hq; cases hq) (by simp) _ (by rw [HR.out, hf]; rfl) rfl ?_
    ((have hbw := below_own hb1); repeat (with_reducible (first | exact hbw | refine below_set ?_ (Nat.le_refl _) _ _ | refine belowN ?_ _ | refine belowA ?_ _)))
  · have hf : foreignOf s.data.toList = none := foreign_no (by rintro ⟨_, h, _⟩; have := HL.out; omega)
    refine bodyPost_ret (v := .tuple #[.agg #[.int .i64 0, .int .i64 0, .int .i64 0, .int .i64 0, .int .i64 0, .int .i64 0], .bool false]) (by simp [results, Tryz.results154, go_sem, c0, hz]) rfl ?_
    refine read_post ⟨0, 0, []⟩ (fun q hq => by rw [HR.out, hf] at hq; cases hq) (by simp) _ (by rw [HR.out, hf]; rfl) rfl ?_
    ((have hbw := below_own hb1); repeat (with_reducible (first | exact hbw | refine below_set ?_ (Nat.le_refl _) _ _ | refine belowN ?_ _ | refine belowA ?_ _)))
  · have hf : foreignOf s.data.toList = none := foreign_no (by rintro ⟨h, _⟩; rw [hp.out] at h; cases h)
    refine bodyPost_ret (v := .tuple #[.agg #[.int .i64 0, .int .i64 0, .int .i64 0, .int .i64 0, .int .i64 0, .int .i64 0], .bool false]) (by simp [results, Tryz.results154, go_sem, c0, hz]) rfl ?_
    refine read_post ⟨0, 0, []⟩ (fun q hq => by rw [HR.out, hf] at hq; cases hq) (by simp) _ (by rw [HR.out, hf]; rfl) rfl ?_
    ((have hbw := below_own hb1); repeat (with_reducible (first | exact hbw | refine below_set ?_ (Nat.le_refl _) _ _ | refine belowN ?_ _ | refine belowA ?_ _)))
end Go.Proofs.YtmepjbjmjbpchaaGreatDoor
end
section
/- types.read, where the type ends as one with cells. -/
namespace Go.Proofs.YtmepjbjmjbpchaaGreatDoor
open Go Go.RowKit
set_option linter.unusedVariables false
set_option linter.unusedSimpArgs false

theorem words_m (w : World) : Calls Tryz.prog 163 #[] w fun e w' => ∃ m, e = .returned (.map (some m)) ∧ m = w.heap.size ∧ w'.heap.size = m + 1 ∧ w'.heap[m]? = some (.map wordEs 2) ∧ Below w.heap.size w w' :=
  (words_any w).mono fun e w' ⟨he, hw⟩ => ⟨_, he, rfl, by rw [← hw]; simp, by rw [← hw]; exact heap_alloc_new w _, by rw [← hw]; exact (Below.refl _ w).alloc (Nat.le_refl _) _⟩
/-- The world at the head of the loop over the beginnings, of which those in `seen` are behind. -/
structure RdW (w : World) (m : Nat) (seen : Array Nat) (wr : World) : Prop where
  it : wr.heap[m + 1]? = some (.mapIter (some m) 2 seen 2)
  mp : wr.heap[m]? = some (.map wordEs 2)
  res : wr.heap[w.heap.size]? = some (.cells zCells 160 (0, 0))
  below : Below w.heap.size w wr
def RdS (body : List UInt8) (seen : Array Nat) : Prop :=
  (seen.contains 0 = true → Lib.hasPrefix body [109, 101, 109, 60] = false) ∧ (seen.contains 1 = true → Lib.hasPrefix body [97, 114, 114, 60] = false) ∧ ∀ x ∈ seen, x = 0 ∨ x = 1
/-- How many of the two are left. -/
def iterLeft (m : Nat) (wr : World) : Nat := match wr.heap[m + 1]? with | some (.mapIter _ _ seen _) => (leftOf wordEs seen).size | _ => 0

theorem rd_step {w wr w1 : World} {m : Nat} {seen : Array Nat} (hd : RdW w m seen wr) (hm : w.heap.size < m) (h1 : w1 = wr ∨ w1 = wr.drew) (b : Nat) : RdW w m (seen.push b) (Go.ChangeMaps.setBlock w1 (m + 1) (.mapIter (some m) 2 (seen.push b) 2)) := by
  have hsz := blkLt hd.it
  have hh : w1.heap = wr.heap := by rcases h1 with rfl | rfl <;> rfl
  have hb : Below w.heap.size w w1 := by rcases h1 with rfl | rfl; exact hd.below; exact hd.below.drew
  refine ⟨?_, ?_, ?_, ?_⟩
  · simp [Go.ChangeMaps.setBlock, hh, hsz]
  · simp [Go.ChangeMaps.setBlock, hh, Array.getElem?_setIfInBounds, hd.mp]
  · simp [Go.ChangeMaps.setBlock, hh, Array.getElem?_setIfInBounds, hd.res]; omega
  · refine ⟨hb.os, hb.tape, hb.output, by simpa [Go.ChangeMaps.setBlock] using hb.size, fun k hk => ?_⟩
    rw [← hb.block k hk]
    simp [Go.ChangeMaps.setBlock, Array.getElem?_setIfInBounds]; omega

theorem leftOf_words (seen : Array Nat) : leftOf wordEs seen = (if seen.contains 0 then #[] else #[wordEs[0]]) ++ (if seen.contains 1 then #[] else #[wordEs[1]]) := by
  apply Array.ext'
  unfold leftOf wordEs
  cases h0 : seen.contains 0 <;> cases h1 : seen.contains 1 <;> simp [Array.toList_filter, List.filter_cons, h0, h1] <;> simp_all
theorem rd_next (ty : TypeId) {w wr : World} {m : Nat} {seen : Array Nat} (hd : RdW w m seen wr) (hm : w.heap.size < m) :
    (seen.contains 0 = true ∧ seen.contains 1 = true ∧ (Instr.next (.pointer (some ⟨m + 1, 0, none⟩)) false ty).run Tryz.prog wr = .ok (.tuple #[.bool false]) wr) ∨
    (∃ (k b : Nat) (pw : List UInt8) (W : World), ((k = 2 ∧ b = 0 ∧ pw = [109, 101, 109, 60]) ∨ (k = 3 ∧ b = 1 ∧ pw = [97, 114, 114, 60])) ∧ (leftOf wordEs (seen.push b)).size < (leftOf wordEs seen).size ∧
      (Instr.next (.pointer (some ⟨m + 1, 0, none⟩)) false ty).run Tryz.prog wr = .ok (.tuple #[.bool true, .int .i64 k, .string ⟨pw.toArray⟩]) W ∧
      (Instr.entry (.pointer (some ⟨m + 1, 0, none⟩))).run Tryz.prog W = .ok (.tuple #[.int .i64 k, .string ⟨pw.toArray⟩]) W ∧ RdW w m (seen.push b) W) := by
  rcases run_next_at (P := Tryz.prog) wr ty (m + 1) m 2 2 seen wordEs 2 hd.it hd.mp (by simp [wordEs]) (Nat.le_refl _) with ⟨h, hr⟩ | ⟨e, he, w1, hw, hr⟩
  · left
    rw [leftOf_words] at h
    refine ⟨?_, ?_, hr⟩
    · cases h0 : seen.contains 0
      · rw [h0] at h; simp at h
      · rfl
    · cases h0 : seen.contains 1
      · rw [h0] at h; simp at h
      · rfl
  · right
    have hst := rd_step hd hm hw e.born
    rw [leftOf_words] at he
    have key : (e = wordEs[0] ∧ seen.contains 0 = false) ∨ (e = wordEs[1] ∧ seen.contains 1 = false) := by
      cases h0 : seen.contains 0 <;> cases h1 : seen.contains 1 <;> rw [h0, h1] at he <;> simp at he <;> simp [he]
    rcases key with ⟨rfl, h0⟩ | ⟨rfl, h0⟩
    · refine ⟨2, 0, [109, 101, 109, 60], _, .inl ⟨rfl, rfl, rfl⟩, ?_, hr, run_entry_at _ (m + 1) m 2 seen wordEs 2 wordEs[0] hst.it hst.mp (by simp [wordEs]) (by simp [wordEs]), hst⟩
      rw [leftOf_words, leftOf_words, h0]
      cases h1 : seen.contains 1 <;> simp_all
    · refine ⟨3, 1, [97, 114, 114, 60], _, .inr ⟨rfl, rfl, rfl⟩, ?_, hr, run_entry_at _ (m + 1) m 2 seen wordEs 2 wordEs[1] hst.it hst.mp (by simp [wordEs]) (by simp [wordEs]), hst⟩
      rw [leftOf_words, leftOf_words, h0]
      cases h1 : seen.contains 0 <;> simp_all

theorem notBoth {l : List UInt8} (h : Lib.hasPrefix l [109, 101, 109, 60] = true) (h2 : Lib.hasPrefix l [97, 114, 114, 60] = true) : False := by
  unfold Lib.hasPrefix at h h2
  match l, h, h2 with
  | a :: l, h, h2 =>
    simp only [List.isPrefixOf, Bool.and_eq_true, beq_iff_eq] at h h2
    rw [← h.1] at h2
    exact absurd h2.1 (by decide)
theorem shape_str (k : Nat) (s : ByteArray) (w : World) (hl : s.data.toList.length ≤ 140737488355328) (hk : k ≤ 5) :
    Calls Tryz.prog 164 #[.int .i64 k, .string s] w (ShapePost k s.data.toList w) := shape_any k s.data.toList w hl hk

set_option maxRecDepth 100000 in
set_option maxHeartbeats 2000000 in
theorem read_suffix (s : ByteArray) (w : World) (hs : s.size ≤ 140737488355328) (h : elemOf s.data.toList = none) (h2 : Lib.hasSuffix s.data.toList [62] = true) :
    Calls Tryz.prog 154 #[.string s] w (ReadPost s.data.toList w) := by
  have H := Lib.hid h
  have H2 := Lib.hid h2
  have hl : s.data.toList.length = s.size := by simp
  have HL := Lib.hid hl
  clear h h2 hl
  have hs1 : s.size ≤ 9223372036854775807 := by omega
  go_enter Tryz.func154, Tryz.ntmps154
  go_wp2_with (first
    | (go_at_call 162; refine (element_no _ _ H.out).mono ?_; rintro e w1 ⟨ga, gb, rfl, hb1⟩; have hz : w.heap.size < w1.heap.size := (by have := hb1.size; simp at this; omega); have c0 := rdCell hb1 w.heap.size (by simp); have f0 := rdFree hb1 w.heap.size (by simp))
    | (go_at_call 96; refine (cutSuffix_yes _ _ _ hs1 H2.out).mono ?_; rintro e w' ⟨t, rfl, ht, rfl⟩)
    | (go_at_call 163; refine (words_m _).mono ?_; rintro e w2 ⟨m, rfl, hm, hsz, hmp, hb2⟩; (have hrange := run_range_map' (P := Tryz.prog) Tryz.underlying185 hmp); rw [hsz] at hrange; (have HM := Lib.hid (And.intro hm (And.intro hsz (And.intro hmp hb2)))); clear hm hsz hmp hb2))
  have hwm : w.heap.size < m := by
    obtain ⟨hm, -⟩ := HM.out
    rw [hm]; simp [World.setCell]; omega
  have hd : RdW w m #[] (w2.alloc (Obj.mapIter (some m) 2 #[] 2)) := by
    obtain ⟨hm, hsz, hmp, hb2⟩ := HM.out
    refine ⟨by rw [← hsz]; exact heap_alloc_new _ _, allocPast _ hmp (by omega), allocPast _ ?_ (by omega), ?_⟩
    · rw [hb2.block w.heap.size (by simp [World.setCell]; omega)]
      repeat rw [heap_setCell_other _ _ _ _ (by simp; omega)]
      refine allocPast _ ?_ (by omega)
      rw [hb1.block _ (by simp)]
      exact heap_alloc_new _ _
    · have hbw := below_own hb1
      refine Below.alloc ?_ (by omega) _
      refine Below.trans ?_ (hb2.mono (by simp [World.setCell]; omega))
      repeat (with_reducible (first | exact hbw | refine below_set ?_ (Nat.le_of_lt hz) _ _ | refine belowN ?_ _ | refine belowA ?_ _))
  clear HM hrange hb1 c0 f0 hz
  generalize (w2.alloc (Obj.mapIter (some m) 2 #[] 2)) = W at hd
  go_loopw [] (fun wr => ∃ seen, RdW w m seen wr ∧ RdS t.data.toList seen) (fun wr => iterLeft m wr)
  · exact ⟨#[], hd, by simp [RdS]⟩
  · clear hd
    obtain ⟨seen, hd, hS⟩ := hrel
    have HS := Lib.hid hS
    clear hS
    have HIT := Lib.hid hd.it
    rcases rd_next 0 hd hwm with ⟨h0, h1, hn⟩ | ⟨k, b, pw, W2, hk, hlt, hn, he, hd2⟩
    · have hr : readOf s.data.toList = foreignOf s.data.toList := by
        have e0 := HS.out.1 h0
        have e1 := HS.out.2.1 h1
        rw [ht.out] at e0 e1
        have hl := HL.out
        simp only [List.length_cons, List.length_nil, hl, Nat.zero_add] at e0 e1
        unfold readOf; rw [H.out]; simp only [H2.out, hl, if_true]
        rw [if_neg (by rw [e0]; simp), if_neg (by rw [e1]; simp)]
      have HR := Lib.hid hr
      have c0 := blkCell hd.res
      have f0 := blkFree hd.res
      have hz := blkLt hd.res
      have HD := Lib.hid hd.below
      clear hr hd h0 h1 HS
      go_wp2_with (first
        | (go_at_call 95; refine (cutPrefix_or _ _ _).mono ?_; rintro e w' (⟨t, rfl, ht, hp, rfl⟩ | ⟨rfl, hp, rfl⟩))
        | (go_at_call 51; refine (cut_or _ _ _ (by have := congrArg List.length ht.out; simp at this; omega)).mono ?_; rintro e w' (⟨x, y, nd, rfl, hc, rfl⟩ | ⟨nd, rfl, hc, rfl⟩))
        | (go_at_call 42; refine (isName_any _ _).mono ?_; rintro e w' ⟨rfl, rfl⟩))
      · have hf := foreign_yes hp.out (by have := HL.out; omega) (by have := hc.out; rw [ht.out] at this; simpa using this)
        refine bodyPost_ret (v := .tuple #[.agg #[.int .i64 4, .int .i64 0, .int .i64 0, .int .i64 0, .int .i64 0, .int .i64 0], .bool (nameOf y.data.toList)]) (by simp [results, Tryz.results154, go_sem, c0, hz]) rfl ?_
        refine read_post ⟨4, 0, []⟩ (fun q hq => ?_) (by simp) _ ?_ rfl ?_
        · rw [HR.out, hf] at hq; split at hq
          · exact Option.some.inj hq
          · cases hq
        · rw [HR.out, hf]; cases nameOf y.data.toList <;> simp_all
        · ((have hbw := HD.out); repeat (with_reducible (first | exact hbw | refine below_set ?_ (Nat.le_refl _) _ _ | refine belowN ?_ _ | refine belowA ?_ _)))
      · have hf := foreign_yes hp.out (by have := HL.out; omega) (by have := hc.out; rw [ht.out] at this; simpa using this)
        refine bodyPost_ret (v := .tuple #[.agg #[.int .i64 4, .int .i64 0, .int .i64 0, .int .i64 0, .int .i64 0, .int .i64 0], .bool false]) (by simp [results, Tryz.results154, go_sem, c0, hz]) rfl ?_
        refine read_post ⟨4, 0, []⟩ (fun q hq => ?_) (by simp) _ ?_ rfl ?_
        · rw [HR.out, hf] at hq; split at hq
          · exact Option.some.inj hq
          · cases hq
        · rw [HR.out, hf]; simp_all
        · ((have hbw := HD.out); repeat (with_reducible (first | exact hbw | refine below_set ?_ (Nat.le_refl _) _ _ | refine belowN ?_ _ | refine belowA ?_ _)))
      · have hf : foreignOf s.data.toList = none := foreign_no (by rintro ⟨_, _, x, y, h, _⟩; have := hc.out; rw [ht.out] at this; simp at this; rw [h] at this; cases this)
        refine bodyPost_ret (v := .tuple #[.agg #[.int .i64 4, .int .i64 0, .int .i64 0, .int .i64 0, .int .i64 0, .int .i64 0], .bool (nameOf [])]) (by simp [results, Tryz.results154, go_sem, c0, hz]) rfl ?_
        refine read_post ⟨4, 0, []⟩ (fun q hq => by rw [HR.out, hf] at hq; cases hq) (by simp) _ (by rw [HR.out, hf]; rfl) rfl ?_
        ((have hbw := HD.out); repeat (with_reducible (first | exact hbw | refine below_set ?_ (Nat.le_refl _) _ _ | refine belowN ?_ _ | refine belowA ?_ _)))
      · have hf : foreignOf s.data.toList = none := foreign_no (by rintro ⟨_, _, x, y, h, _⟩; have := hc.out; rw [ht.out] at this; simp at this; rw [h] at this; cases this)
        refine bodyPost_ret (v := .tuple #[.agg #[.int .i64 4, .int .i64 0, .int .i64 0, .int .i64 0, .int .i64 0, .int .i64 0], .bool false]) (by simp [results, Tryz.results154, go_sem, c0, hz]) rfl ?_
        refine read_post ⟨4, 0, []⟩ (fun q hq => by rw [HR.out, hf] at hq; cases hq) (by simp) _ (by rw [HR.out, hf]; rfl) rfl ?_
        ((have hbw := HD.out); repeat (with_reducible (first | exact hbw | refine below_set ?_ (Nat.le_refl _) _ _ | refine belowN ?_ _ | refine belowA ?_ _)))
      · have hf : foreignOf s.data.toList = none := foreign_no (by rintro ⟨_, h, _⟩; have := HL.out; omega)
        refine bodyPost_ret (v := .tuple #[.agg #[.int .i64 0, .int .i64 0, .int .i64 0, .int .i64 0, .int .i64 0, .int .i64 0], .bool false]) (by simp [results, Tryz.results154, go_sem, c0, hz]) rfl ?_
        refine read_post ⟨0, 0, []⟩ (fun q hq => by rw [HR.out, hf] at hq; cases hq) (by simp) _ (by rw [HR.out, hf]; rfl) rfl ?_
        ((have hbw := HD.out); repeat (with_reducible (first | exact hbw | refine below_set ?_ (Nat.le_refl _) _ _ | refine belowN ?_ _ | refine belowA ?_ _)))
      · have hf : foreignOf s.data.toList = none := foreign_no (by rintro ⟨h, _⟩; rw [hp.out] at h; cases h)
        refine bodyPost_ret (v := .tuple #[.agg #[.int .i64 0, .int .i64 0, .int .i64 0, .int .i64 0, .int .i64 0, .int .i64 0], .bool false]) (by simp [results, Tryz.results154, go_sem, c0, hz]) rfl ?_
        refine read_post ⟨0, 0, []⟩ (fun q hq => by rw [HR.out, hf] at hq; cases hq) (by simp) _ (by rw [HR.out, hf]; rfl) rfl ?_
        ((have hbw := HD.out); repeat (with_reducible (first | exact hbw | refine below_set ?_ (Nat.le_refl _) _ _ | refine belowN ?_ _ | refine belowA ?_ _)))
    · have c0 := blkCell hd2.res
      have f0 := blkFree hd2.res
      have hz := blkLt hd2.res
      have HD := Lib.hid hd2
      clear hd2
      go_wp2_with (first
        | (go_at_call 95; refine (cutPrefix_or _ _ _).mono ?_; rintro e w' (⟨t4, rfl, ht4, hp, rfl⟩ | ⟨rfl, hp, rfl⟩))
        | (go_at_call 164; refine (shape_str k t4 _ (by have := congrArg List.length ht4.out; have h2 := congrArg List.length ht.out; simp at this h2; simp; omega) (by rcases hk with ⟨rfl, -⟩ | ⟨rfl, -⟩ <;> omega)).mono ?_; rintro e W1 ⟨⟨pk, pb, pe⟩, hp1, hp2, rfl, hb1⟩; (simp only [Pd.val]); (have c1 := blkCell (blkBelow HD.out.res hb1)); (have f1 := blkFree (blkBelow HD.out.res hb1)); (have hz1 := blkLt (blkBelow HD.out.res hb1))))
      · have hr : readOf s.data.toList = shapeOf k t4.data.toList := by
          have hl := HL.out
          have e4 := ht4.out
          have ep := hp.out
          rw [ht.out] at e4 ep
          simp only [List.length_cons, List.length_nil, hl, Nat.zero_add] at e4 ep
          unfold readOf; rw [H.out]; simp only [H2.out, hl, if_true]
          rcases hk with ⟨rfl, rfl, rfl⟩ | ⟨rfl, rfl, rfl⟩
          · rw [if_pos ep, e4]; rfl
          · rw [if_neg, if_pos ep, e4]; rfl
            intro hmem
            exact notBoth hmem ep
        refine bodyPost_ret (v := .tuple #[Pd.val ⟨pk, pb, pe⟩, .bool (shapeOf k t4.data.toList).isSome]) (by simp [results, Tryz.results154, go_sem, c1, hz1, Pd.val]) rfl ?_
        refine read_post ⟨pk, pb, pe⟩ (fun q hq => by rw [hr] at hq; exact hp1 q hq) hp2 _ (by rw [hr]) rfl ?_
        have hbw := HD.out.below.trans (hb1.mono HD.out.below.size)
        repeat (with_reducible (first | exact hbw | refine below_set ?_ (Nat.le_refl _) _ _ | refine belowN ?_ _ | refine belowA ?_ _))
      · go_roundw
        · refine ⟨_, HD.out, ?_⟩
          have hS := HS.out
          have ep := hp.out
          rcases hk with ⟨rfl, rfl, rfl⟩ | ⟨rfl, rfl, rfl⟩
          · exact ⟨fun _ => ep, fun h1 => hS.2.1 (by simpa using h1), fun x hx => by simp at hx; rcases hx with hx | rfl; exact hS.2.2 x hx; exact .inl rfl⟩
          · exact ⟨fun h1 => hS.1 (by simpa using h1), fun _ => ep, fun x hx => by simp at hx; rcases hx with hx | rfl; exact hS.2.2 x hx; exact .inr rfl⟩
        · show iterLeft m W2 < iterLeft m wr
          unfold iterLeft
          rw [HD.out.it, HIT.out]
          exact hlt
end Go.Proofs.YtmepjbjmjbpchaaGreatDoor
end
section
/- Package types: types.asked, and what is told of a type that was read. -/
namespace Go.Proofs.YtmepjbjmjbpchaaGreatDoor
open Go Go.RowKit
set_option linter.unusedVariables false
set_option linter.unusedSimpArgs false

theorem read_any (s : ByteArray) (w : World) (hs : s.size ≤ 140737488355328) :
    Calls Tryz.prog 154 #[.string s] w (ReadPost s.data.toList w) := by
  cases h : elemOf s.data.toList with
  | some q => exact read_elem s q w h
  | none =>
    cases h2 : Lib.hasSuffix s.data.toList [62] with
    | true => exact read_suffix s w hs h h2
    | false => exact read_foreign s w hs h h2

/-- `types.asked` with a property of the kind: what was read, and the error's number. -/
def askOf (P : Nat → Bool) (l : List UInt8) : Pd × Nat :=
  match readOf l with
  | none => (⟨0, 0, []⟩, 10)
  | some q => if P q.kind then (q, 0) else (⟨0, 0, []⟩, 1)

set_option maxRecDepth 100000 in
set_option maxHeartbeats 2000000 in
theorem asked_any (P : Nat → Bool) (f : Nat) (hin : ∀ args w, (callFunc f args).run Tryz.prog w = .ok (.enter f args) w) (hf : ∀ (k : Nat) (b r x y z : Int) (w : World), Calls Tryz.prog f #[pv k b r x y z] w fun e w' => e = .returned (.bool (P k)) ∧ Below w.heap.size w w')
    (s : ByteArray) (w : World) (hs : s.size ≤ 140737488355328) :
    Calls Tryz.prog 132 #[.string s, .func (.func f) #[] #[]] w fun e w' => e = .returned (.tuple #[(askOf P s.data.toList).1.val, .int .i64 (askOf P s.data.toList).2]) ∧ Below w.heap.size w w' := by
  cases h : readOf s.data.toList with
  | none =>
    have ha : askOf P s.data.toList = (⟨0, 0, []⟩, 10) := by unfold askOf; rw [h]
    rw [ha]
    have H := Lib.hid h
    clear h ha hf hin
    go_enter Tryz.func132, Tryz.ntmps132
    go_wp2_with (go_at_call 154; refine (read_any _ _ hs).mono ?_; rintro e w1 ⟨⟨pk, pb, pe⟩, -, -, rfl, hb1⟩; rw [H.out]; (simp only [Pd.val, Option.isSome]); have hz : w.heap.size < w1.heap.size := (by have := hb1.size; simp at this; omega); have c0 := rdCell hb1 w.heap.size (by simp); have f0 := rdFree hb1 w.heap.size (by simp))
    refine bodyPost_ret (v := .tuple #[.agg #[.int .i64 0, .int .i64 0, .int .i64 0, .int .i64 0, .int .i64 0, .int .i64 0], .int .i64 10]) (by simp [results, Tryz.results132, go_sem, c0, hz]) rfl ?_
    refine ⟨rfl, ?_⟩
    have hbw := below_own hb1
    repeat (with_reducible (first | exact hbw | refine below_set ?_ (Nat.le_refl _) _ _ | refine belowN ?_ _ | refine belowA ?_ _))
  | some q =>
    cases hp : P q.kind with
    | false =>
      have ha : askOf P s.data.toList = (⟨0, 0, []⟩, 1) := by unfold askOf; rw [h]; simp [hp]
      rw [ha]
      have H := Lib.hid h
      have HP := Lib.hid hp
      have HF := Lib.hid hf
      clear h ha hp hf
      go_enter Tryz.func132, Tryz.ntmps132
      go_wp2_with (first
        | (go_at_call 154; refine (read_any _ _ hs).mono ?_; rintro e w1 ⟨⟨pk, pb, pe⟩, h1, -, rfl, hb1⟩; (obtain rfl := h1 q H.out); rw [H.out]; (simp only [Pd.val, Option.isSome]); have hz : w.heap.size < w1.heap.size := (by have := hb1.size; simp at this; omega); have c0 := rdCell hb1 w.heap.size (by simp); have f0 := rdFree hb1 w.heap.size (by simp))
        | (refine (HF.out _ _ _ _ _ _ _).mono ?_; rintro e w2 ⟨rfl, hb2⟩; rw [HP.out]; have hz2 : w.heap.size < w2.heap.size := (by have := hb2.size; simp at this; omega); have hz3 : w1.heap.size < w2.heap.size := (by have := hb2.size; simp at this; omega); have c2 := rdCell hb2 w.heap.size (by simp; omega); have f2 := rdFree hb2 w.heap.size (by simp; omega)))
      refine bodyPost_ret (v := .tuple #[.agg #[.int .i64 0, .int .i64 0, .int .i64 0, .int .i64 0, .int .i64 0, .int .i64 0], .int .i64 1]) (by simp [results, Tryz.results132, go_sem, c0, c2, hz, hz2, hz3]) rfl ?_
      refine ⟨rfl, ?_⟩
      have hbw := (Below.alloc (below_own hb1) (Nat.le_of_lt hz) _).trans (hb2.mono (by simp; omega))
      repeat (with_reducible (first | exact hbw | refine below_set ?_ (Nat.le_refl _) _ _ | refine belowN ?_ _ | refine belowA ?_ _))
    | true =>
      have ha : askOf P s.data.toList = (q, 0) := by unfold askOf; rw [h]; simp [hp]
      rw [ha]
      have H := Lib.hid h
      have HP := Lib.hid hp
      have HF := Lib.hid hf
      clear h ha hp hf
      go_enter Tryz.func132, Tryz.ntmps132
      go_wp2_with (first
        | (go_at_call 154; refine (read_any _ _ hs).mono ?_; rintro e w1 ⟨⟨pk, pb, pe⟩, h1, -, rfl, hb1⟩; (obtain rfl := h1 q H.out); rw [H.out]; (simp only [Pd.val, Option.isSome]); have hz : w.heap.size < w1.heap.size := (by have := hb1.size; simp at this; omega); have c0 := rdCell hb1 w.heap.size (by simp); have f0 := rdFree hb1 w.heap.size (by simp))
        | (refine (HF.out _ _ _ _ _ _ _).mono ?_; rintro e w2 ⟨rfl, hb2⟩; rw [HP.out]; have hz2 : w.heap.size < w2.heap.size := (by have := hb2.size; simp at this; omega); have hz3 : w1.heap.size < w2.heap.size := (by have := hb2.size; simp at this; omega); have c2 := rdCell hb2 w.heap.size (by simp; omega); have f2 := rdFree hb2 w.heap.size (by simp; omega); have c3 := rdCell hb2 w1.heap.size (by simp); have f3 := rdFree hb2 w1.heap.size (by simp)))
      refine bodyPost_ret (v := .tuple #[Pd.val ⟨pk, pb, pe⟩, .int .i64 0]) (by simp [results, Tryz.results132, go_sem, c0, c2, hz, hz2, hz3, Pd.val]) rfl ?_
      refine ⟨rfl, ?_⟩
      have hbw := (Below.alloc (below_own hb1) (Nat.le_of_lt hz) _).trans (hb2.mono (by simp; omega))
      repeat (with_reducible (first | exact hbw | refine below_set ?_ (Nat.le_refl _) _ _ | refine belowN ?_ _ | refine belowA ?_ _))

theorem callFunc_enters {P : Program} {f : FuncId} {fn : Func} {c : Code} (hf : P.funcs[f]? = some fn) (hname : (fn.name == "runtime.NumGoroutine") = false) (hb : fn.body = some c) (args : Array Value) (w : World) :
    (callFunc f args).run P w = .ok (.enter f args) w := by
  have h1 : fn.name ≠ "runtime.NumGoroutine" := by simpa using hname
  simp [callFunc, hf, h1, hb]
def askAny (l : List UInt8) : Pd × Nat := askOf (fun _ => true) l
section
variable (s : ByteArray) (w : World) (hs : s.size ≤ 140737488355328)
include hs
theorem asked_anything : Calls Tryz.prog 132 #[.string s, .func (.func 133) #[] #[]] w fun e w' => e = .returned (.tuple #[(askAny s.data.toList).1.val, .int .i64 (askAny s.data.toList).2]) ∧ Below w.heap.size w w' :=
  asked_any (fun _ => true) _ (fun args w => callFunc_enters Tryz.func133 (by kernel_rfl) rfl args w) (fun k b r x y z w => anything_any k b r x y z w) s w hs
end
end Go.Proofs.YtmepjbjmjbpchaaGreatDoor
end
section
/- Package types: what is told of a type that was read, without text. -/
namespace Go.Proofs.YtmepjbjmjbpchaaGreatDoor
open Go Go.RowKit
set_option linter.unusedVariables false
set_option linter.unusedSimpArgs false

/-- What is so of every type that is read. -/
structure PdOk (q : Pd) : Prop where
  kind : q.kind ≤ 4
  bits : q.bits ≤ 64
  num : q.kind ≤ 1 → 1 ≤ q.bits ∧ q.ext = []
  rank : q.ext.length ≤ 3
  each : ∀ e ∈ q.ext, e ≤ 1000
  prod : prodN q.ext ≤ 4096

theorem elemOf_ok {l : List UInt8} {q : Pd} (h : elemOf l = some q) : PdOk q ∧ q.kind ≤ 1 := by
  unfold elemOf at h
  split at h
  · cases h; exact ⟨⟨by decide, by decide, by decide, by decide, by simp, by simp [prodN]⟩, by decide⟩
  · split at h
    · split at h
      · split at h
        · cases h; exact ⟨⟨by simp, by simp; omega, by simp; omega, by simp, by simp, by simp [prodN]⟩, by simp⟩
        · cases h
      · cases h
    · cases h
theorem shapeP_ok : ∀ (ps : List (List UInt8 × Bool)) (ext : List Nat) (r : List Nat × Nat), shapeP ext ps = some r → ext.length ≤ 3 → (∀ e ∈ ext, e ≤ 1000) → r.1.length ≤ 3 ∧ (∀ e ∈ r.1, e ≤ 1000) ∧ prodN r.1 ≤ 4096 ∧ r.2 ≤ 64
  | [], ext, r, h, _, _ => by simp [shapeP] at h
  | (p, true) :: rest, ext, r, h, hl, he => by
    simp only [shapeP] at h
    split at h
    · rename_i e hee
      have hb := (elemOf_ok hee).1.bits
      split at h
      · cases h; refine ⟨hl, he, by assumption, ?_⟩
        dsimp only; split <;> omega
      · cases h
    · cases h
  | (p, false) :: rest, ext, r, h, hl, he => by
    simp only [shapeP] at h
    split at h
    · rename_i n hn
      split at h
      · rename_i hc
        exact shapeP_ok rest _ r h (by simp; omega) (fun e hm => by simp at hm; rcases hm with hm | rfl; exact he e hm; exact hc.1)
      · cases h
    · cases h
theorem shapeOf_ok {k : Nat} {l : List UInt8} {q : Pd} (h : shapeOf k l = some q) (h2 : 2 ≤ k) (h3 : k ≤ 3) : PdOk q := by
  unfold shapeOf at h
  rw [Option.map_eq_some_iff] at h
  obtain ⟨r, hr, rfl⟩ := h
  obtain ⟨a, b, c, d⟩ := shapeP_ok _ _ _ hr (by simp) (by simp)
  exact ⟨by simp; omega, d, fun h => by simp at h; omega, a, b, c⟩
theorem foreignOf_ok {l : List UInt8} {q : Pd} (h : foreignOf l = some q) : q = ⟨4, 0, []⟩ := by
  unfold foreignOf at h
  split at h
  · split at h
    · cases h
    · split at h
      · cases h; rfl
      · cases h
  · cases h
theorem readOf_ok {l : List UInt8} {q : Pd} (h : readOf l = some q) : PdOk q := by
  have hfor : ∀ {l : List UInt8} {q : Pd}, foreignOf l = some q → PdOk q := fun h => by
    rw [foreignOf_ok h]; exact ⟨by decide, by decide, by decide, by decide, by simp, by simp [prodN]⟩
  unfold readOf at h
  split at h
  · rename_i p hp
    cases h; exact (elemOf_ok hp).1
  · split at h
    · split at h
      · exact shapeOf_ok h (by decide) (by decide)
      · split at h
        · exact shapeOf_ok h (by decide) (by decide)
        · exact hfor h
    · exact hfor h
theorem askOf_zero {P : Nat → Bool} {l : List UInt8} (h : (askOf P l).2 = 0) : readOf l = some (askOf P l).1 ∧ P (askOf P l).1.kind = true ∧ PdOk (askOf P l).1 := by
  unfold askOf at h ⊢
  split at h
  · cases h
  · rename_i q hq
    split at h
    · rename_i hp; exact ⟨by simp [hp, hq], by simp [hp], by simp only [hp, if_true]; exact readOf_ok hq⟩
    · cases h
theorem askOf_err (P : Nat → Bool) (l : List UInt8) : (askOf P l).2 = 0 ∨ (askOf P l).2 = 1 ∨ (askOf P l).2 = 10 := by
  unfold askOf
  split
  · simp
  · split <;> simp

section
variable (s : ByteArray) (w : World) (hs : s.size ≤ 140737488355328)
include hs
set_option maxRecDepth 100000 in
set_option maxHeartbeats 2000000 in
theorem check_any : Calls Tryz.prog 99 #[.string s] w fun e w' => e = .returned (.int .i64 (askAny s.data.toList).2) ∧ Below w.heap.size w w' := by
  have herr := askOf_err (fun _ => true) s.data.toList
  have hz := @askOf_zero (fun _ => true) s.data.toList
  obtain ⟨q, hq⟩ : ∃ q, q = askAny s.data.toList := ⟨_, rfl⟩
  rw [show askOf (fun _ => true) s.data.toList = q from hq.symm] at herr hz
  have HQ := Lib.hid hq
  clear hq
  obtain ⟨⟨pk, pb, pe⟩, pe2⟩ := q
  dsimp only at herr hz
  rw [← HQ.out]
  rcases herr with rfl | herr
  · have hnz : (pk : Int) ≠ 0 ∨ (pb : Int) ≠ 0 := by
      have := (hz rfl).2.2.num
      dsimp only at this; omega
    clear hz
    go_enter Tryz.func99, Tryz.ntmps99
    go_wp2_with (first
      | (go_at_call 132; refine (asked_anything _ _ hs).mono ?_; rintro e w1 ⟨rfl, hb1⟩; rw [← HQ.out]; (simp only [Pd.val]))
      | (go_at_call 134; refine (isZero_any _ _ _ _ _ _ _ hnz).mono ?_; rintro e w2 ⟨rfl, hb2⟩))
    go_ret
    exact ⟨rfl, (hb1.alloc hb1.size _).trans (hb2.mono (by have := hb1.size; simp; omega))⟩
  · clear hz
    rcases herr with rfl | rfl
    all_goals
      go_enter Tryz.func99, Tryz.ntmps99
      go_wp2_with (first
        | (go_at_call 132; refine (asked_anything _ _ hs).mono ?_; rintro e w1 ⟨rfl, hb1⟩; rw [← HQ.out]; (simp only [Pd.val])))
      go_ret
      exact ⟨rfl, hb1.alloc hb1.size _⟩
end
end Go.Proofs.YtmepjbjmjbpchaaGreatDoor
end
