/- Texts of this claim, laid together: Ty6, Ty7, Ty8, Ty9, TyI, TyJ, Sl, At0, At6, Ac0, At1, At2, At3, Rf0, Rf1, Rf4, TyA, Rf5, Rf6. -/
import Derived.Test.YtmepjbjmjbpchaaGreatDoorShelf
import Derived.Lib.Join
import Derived.Lib.SplitLaws
import Derived.WalkLawsBesides
import Derived.WalkSpells
import Derived.Deep.RegionHeld3
import Derived.Deep.DrawnRows
import Derived.Laws.EntriesVeiled
import Derived.Test.YtmepjbjmjbpchaaGreatDoorMg0
section
/- types.read. -/
namespace Go.Proofs.YtmepjbjmjbpchaaGreatDoor
open Go Go.RowKit
set_option linter.unusedVariables false
set_option linter.unusedSimpArgs false

def foreignOf (l : List UInt8) : Option Pd :=
  if Lib.hasPrefix l [33] ∧ l.length ≤ 60 then
    match cutOf 46 l.tail with
    | none => none
    | some (x, y) => if nameOf x && nameOf y then some ⟨4, 0, []⟩ else none
  else none
/-- `types.read`. -/
def readOf (l : List UInt8) : Option Pd :=
  match elemOf l with
  | some p => some p
  | none =>
    if Lib.hasSuffix l [62] then
      if Lib.hasPrefix (l.take (l.length - 1)) [109, 101, 109, 60] then shapeOf 2 ((l.take (l.length - 1)).drop 4)
      else if Lib.hasPrefix (l.take (l.length - 1)) [97, 114, 114, 60] then shapeOf 3 ((l.take (l.length - 1)).drop 4)
      else foreignOf l
    else foreignOf l
def ReadPost (l : List UInt8) (w : World) (e : Ending) (w' : World) : Prop :=
  ∃ p : Pd, (∀ q, readOf l = some q → p = q) ∧ p.ext.length ≤ 3 ∧ e = .returned (.tuple #[p.val, .bool (readOf l).isSome]) ∧ Below w.heap.size w w'

theorem elemOf_ext {l : List UInt8} {q : Pd} (h : elemOf l = some q) : q.ext = [] := by
  unfold elemOf at h
  split at h
  · cases h; rfl
  · split at h
    · split at h
      · split at h
        · cases h; rfl
        · cases h
      · cases h
    · cases h

theorem element_yes (s : ByteArray) (q : Pd) (w : World) (h : elemOf s.data.toList = some q) :
    Calls Tryz.prog 162 #[.string s] w fun e w' => e = .returned (.tuple #[.agg #[.int .i64 q.kind, .int .i64 q.bits, .int .i64 0, .int .i64 0, .int .i64 0, .int .i64 0], .bool true]) ∧ Below w.heap.size w w' :=
  (element_any s w).mono fun e w' ⟨p, h0, h1, he, hb⟩ => by
    have := h1 q h
    subst this
    refine ⟨?_, hb⟩
    rw [he, h]
    simp [Pd.val, h0]
theorem element_no (s : ByteArray) (w : World) (h : elemOf s.data.toList = none) :
    Calls Tryz.prog 162 #[.string s] w fun e w' => ∃ a b : Nat, e = .returned (.tuple #[.agg #[.int .i64 a, .int .i64 b, .int .i64 0, .int .i64 0, .int .i64 0, .int .i64 0], .bool false]) ∧ Below w.heap.size w w' :=
  (element_any s w).mono fun e w' ⟨p, h0, h1, he, hb⟩ => by
    refine ⟨p.kind, p.bits, ?_, hb⟩
    rw [he, h]
    simp [Pd.val, h0]

abbrev zCells : Array Value := #[.int .i64 0, .int .i64 0, .int .i64 0, .int .i64 0, .int .i64 0, .int .i64 0]
theorem read_post {l : List UInt8} {w w' : World} {e : Ending} (p : Pd) (h1 : ∀ q, readOf l = some q → p = q) (h2 : p.ext.length ≤ 3) (b : Bool) (h3 : b = (readOf l).isSome) (he : e = .returned (.tuple #[p.val, .bool b])) (hb : Below w.heap.size w w') : ReadPost l w e w' :=
  ⟨p, h1, h2, by rw [he, h3], hb⟩

set_option maxHeartbeats 1000000 in
theorem read_elem (s : ByteArray) (q : Pd) (w : World) (h : elemOf s.data.toList = some q) : Calls Tryz.prog 154 #[.string s] w (ReadPost s.data.toList w) := by
  have hr : readOf s.data.toList = some q := by unfold readOf; rw [h]
  have HR := Lib.hid hr
  have H := Lib.hid h
  have HX := Lib.hid (elemOf_ext h)
  clear h hr
  obtain ⟨k, b, x⟩ := q
  go_enter Tryz.func154, Tryz.ntmps154
  go_wp2_with (go_at_call 162; refine (element_yes _ _ _ H.out).mono ?_; rintro e w1 ⟨rfl, hb1⟩; have hz : w.heap.size < w1.heap.size := (by have := hb1.size; simp at this; omega); have c0 := rdCell hb1 w.heap.size (by simp); have f0 := rdFree hb1 w.heap.size (by simp))
  refine bodyPost_ret (v := .tuple #[.agg #[.int .i64 k, .int .i64 b, .int .i64 0, .int .i64 0, .int .i64 0, .int .i64 0], .bool true]) (by simp [results, Tryz.results154, go_sem, c0, hz]) rfl ?_
  have hx : x = [] := HX.out
  subst hx
  refine read_post ⟨k, b, []⟩ (fun q hq => by rw [HR.out] at hq; exact Option.some.inj hq) (by simp) true (by rw [HR.out]; rfl) rfl ?_
  exact (set6_below (below_own hb1) (Nat.le_refl _) _ _ _ _ _ _).alloc (by simp [World.setCell]; omega) _

theorem cutPrefix_or (s : ByteArray) (p : List UInt8) (w : World) :
    Calls Tryz.prog 95 #[.string s, .string ⟨p.toArray⟩] w fun e w' =>
      (∃ t : ByteArray, e = .returned (.tuple #[.string t, .bool true]) ∧ Hid (t.data.toList = s.data.toList.drop p.length) ∧ Hid (Lib.hasPrefix s.data.toList p = true) ∧ w = w') ∨
      (e = .returned (.tuple #[.string s, .bool false]) ∧ Hid (Lib.hasPrefix s.data.toList p = false) ∧ w = w') := by
  cases h : Lib.hasPrefix s.data.toList p
  · exact (cutPrefix_no s p w h).mono fun e w' ⟨he, hw⟩ => .inr ⟨he, rfl, hw⟩
  · exact (cutPrefix_yes s p w h).mono fun e w' ⟨t, he, ht, hw⟩ => .inl ⟨t, he, ht, rfl, hw⟩
theorem cutSuffix_or (s : ByteArray) (p : List UInt8) (w : World) (hs : s.size ≤ 9223372036854775807) :
    Calls Tryz.prog 96 #[.string s, .string ⟨p.toArray⟩] w fun e w' =>
      (∃ t : ByteArray, e = .returned (.tuple #[.string t, .bool true]) ∧ Hid (t.data.toList = s.data.toList.take (s.data.toList.length - p.length)) ∧ Hid (Lib.hasSuffix s.data.toList p = true) ∧ w = w') ∨
      (e = .returned (.tuple #[.string s, .bool false]) ∧ Hid (Lib.hasSuffix s.data.toList p = false) ∧ w = w') := by
  cases h : Lib.hasSuffix s.data.toList p
  · exact (cutSuffix_no s p w hs h).mono fun e w' ⟨he, hw⟩ => .inr ⟨he, rfl, hw⟩
  · exact (cutSuffix_yes s p w hs h).mono fun e w' ⟨t, he, ht, hw⟩ => .inl ⟨t, he, ht, rfl, hw⟩
theorem cut_or (s : ByteArray) (c : UInt8) (w : World) (hsz : s.size ≤ 9223372036854775806) :
    Calls Tryz.prog 51 #[.string s, .string ⟨#[c]⟩] w fun e w' =>
      (∃ (x y : ByteArray) (n : Nat), e = .returned (.tuple #[.string x, .string y, .bool true]) ∧ Hid (cutOf c s.data.toList = some (x.data.toList, y.data.toList)) ∧ w.drewN n = w') ∨
      (∃ n : Nat, e = .returned (.tuple #[.string s, .string ⟨#[]⟩, .bool false]) ∧ Hid (cutOf c s.data.toList = none) ∧ w.drewN n = w') := by
  refine (cut_one s c w hsz).mono fun e w' ⟨⟨n, hn⟩, he⟩ => ?_
  cases h : cutOf c s.data.toList with
  | none => rw [h] at he; exact .inr ⟨n, he, rfl, hn.symm⟩
  | some p => obtain ⟨x, y⟩ := p; rw [h] at he; exact .inl ⟨⟨x.toArray⟩, ⟨y.toArray⟩, n, he, by simp [Hid], hn.symm⟩

theorem belowN {B : Nat} {a w : World} (h : Below B a w) (n : Nat) : Below B a (w.drewN n) := ⟨h.os, h.tape, h.output, h.size, h.block⟩
theorem belowA {w W : World} (h : Below w.heap.size w W) (o : Obj) : Below w.heap.size w (W.alloc o) := h.alloc h.size o
theorem foreign_yes {l : List UInt8} {x y : List UInt8} (h1 : Lib.hasPrefix l [33] = true) (h2 : l.length ≤ 60) (h3 : cutOf 46 l.tail = some (x, y)) : foreignOf l = if nameOf x && nameOf y then some ⟨4, 0, []⟩ else none := by
  unfold foreignOf; rw [if_pos ⟨h1, h2⟩, h3]
theorem foreign_no {l : List UInt8} (h : ¬ (Lib.hasPrefix l [33] = true ∧ l.length ≤ 60 ∧ ∃ x y, cutOf 46 l.tail = some (x, y) ∧ nameOf x = true ∧ nameOf y = true)) : foreignOf l = none := by
  unfold foreignOf
  split
  · rename_i h1
    split
    · rfl
    · rename_i x y h2
      rw [if_neg]
      intro h3
      rw [Bool.and_eq_true] at h3
      exact h ⟨h1.1, h1.2, x, y, h2, h3.1, h3.2⟩
  · rfl

set_option maxHeartbeats 2000000 in
theorem read_foreign (s : ByteArray) (w : World) (hs : s.size ≤ 140737488355328) (h : elemOf s.data.toList = none) (h2 : Lib.hasSuffix s.data.toList [62] = false) :
    Calls Tryz.prog 154 #[.string s] w (ReadPost s.data.toList w) := by
  have hr : readOf s.data.toList = foreignOf s.data.toList := by unfold readOf; rw [h]; simp [h2]
  have HR := Lib.hid hr
  have H := Lib.hid h
  have H2 := Lib.hid h2
  have hl : s.data.toList.length = s.size := by simp
  have HL := Lib.hid hl
  clear h hr h2 hl
  have hs1 : s.size ≤ 9223372036854775807 := by omega
  go_enter Tryz.func154, Tryz.ntmps154
  go_wp2_with (first
    | (go_at_call 162; refine (element_no _ _ H.out).mono ?_; rintro e w1 ⟨ga, gb, rfl, hb1⟩; have hz : w.heap.size < w1.heap.size := (by have := hb1.size; simp at this; omega); have c0 := rdCell hb1 w.heap.size (by simp); have f0 := rdFree hb1 w.heap.size (by simp))
    | (go_at_call 96; refine (cutSuffix_no _ _ _ hs1 H2.out).mono ?_; rintro e w' ⟨rfl, rfl⟩)
    | (go_at_call 95; refine (cutPrefix_or _ _ _).mono ?_; rintro e w' (⟨t, rfl, ht, hp, rfl⟩ | ⟨rfl, hp, rfl⟩))
    | (go_at_call 51; refine (cut_or _ _ _ (by have := congrArg List.length ht.out; simp at this; omega)).mono ?_; rintro e w' (⟨x, y, nd, rfl, hc, rfl⟩ | ⟨nd, rfl, hc, rfl⟩))
    | (go_at_call 42; refine (isName_any _ _).mono ?_; rintro e w' ⟨rfl, rfl⟩))
  · have hf := foreign_yes hp.out (by have := HL.out; omega) (by have := hc.out; rw [ht.out] at this; simpa using this)
    refine bodyPost_ret (v := .tuple #[.agg #[.int .i64 4, .int .i64 0, .int .i64 0, .int .i64 0, .int .i64 0, .int .i64 0], .bool (nameOf y.data.toList)]) (by simp [results, Tryz.results154, go_sem, c0, hz]) rfl ?_
    refine read_post ⟨4, 0, []⟩ (fun q hq => ?_) (by simp) _ ?_ rfl ?_
    · rw [HR.out, hf] at hq; split at hq
      · exact Option.some.inj hq
      · cases hq
    · rw [HR.out, hf]; cases nameOf y.data.toList <;> simp_all
    · ((have hbw := below_own hb1); repeat (with_reducible (first | exact hbw | refine below_set ?_ (Nat.le_refl _) _ _ | refine belowN ?_ _ | refine belowA ?_ _)))
  · have hf := foreign_yes hp.out (by have := HL.out; omega) (by have := hc.out; rw [ht.out] at this; simpa using this)
    refine bodyPost_ret (v := .tuple #[.agg #[.int .i64 4, .int .i64 0, .int .i64 0, .int .i64 0, .int .i64 0, .int .i64 0], .bool false]) (by simp [results, Tryz.results154, go_sem, c0, hz]) rfl ?_
    refine read_post ⟨4, 0, []⟩ (fun q hq => ?_) (by simp) _ ?_ rfl ?_
    · rw [HR.out, hf] at hq; split at hq
      · exact Option.some.inj hq
      · cases hq
    · rw [HR.out, hf]; simp_all
    · ((have hbw := below_own hb1); repeat (with_reducible (first | exact hbw | refine below_set ?_ (Nat.le_refl _) _ _ | refine belowN ?_ _ | refine belowA ?_ _)))
  · have hf : foreignOf s.data.toList = none := foreign_no (by rintro ⟨_, _, x, y, h, _⟩; have := hc.out; rw [ht.out] at this; simp at this; rw [h] at this; cases this)
    refine bodyPost_ret (v := .tuple #[.agg #[.int .i64 4, .int .i64 0, .int .i64 0, .int .i64 0, .int .i64 0, .int .i64 0], .bool (nameOf [])]) (by simp [results, Tryz.results154, go_sem, c0, hz]) rfl ?_
    refine read_post ⟨4, 0, []⟩ (fun q hq => by rw [HR.out, hf] at hq; cases hq) (by simp) _ (by rw [HR.out, hf]; rfl) rfl ?_
    ((have hbw := below_own hb1); repeat (with_reducible (first | exact hbw | refine below_set ?_ (Nat.le_refl _) _ _ | refine belowN ?_ _ | refine belowA ?_ _)))
  · have hf : foreignOf s.data.toList = none := foreign_no (by rintro ⟨_, _, x, y, h, _⟩; have := hc.out; rw [ht.out] at this; simp at this; rw [h] at this; cases this)
    refine bodyPost_ret (v := .tuple #[.agg #[.int .i64 4, .int .i64 0, .int .i64 0, .int .i64 0, .int .i64 0, .int .i64 0], .bool false]) (by simp [results, Tryz.results154, go_sem, c0, hz]) rfl ?_
    refine read_post ⟨4, 0, []⟩ (fun q hq => by rw [HR.out, hf] at hq; cases hq) (by simp) _ (by rw [HR.out, hf]; rfl) rfl ?_
    ((have hbw := below_own hb1); repeat (with_reducible (first | exact hbw | refine below_set ?_ (Nat.le_refl _) _ _ | refine belowN ?_ _ | refine belowA ?_ _)))
  · have hf : foreignOf s.data.toList = none := foreign_no (by rintro ⟨_, h, _⟩; have := HL.out; omega)
    refine bodyPost_ret (v := .tuple #[.agg #[.int .i64 0, .int .i64 0, .int .i64 0, .int .i64 0, .int .i64 0, .int .i64 0], .bool false]) (by simp [results, Tryz.results154, go_sem, c0, hz]) rfl ?_
    refine read_post ⟨0, 0, []⟩ (fun q hq => by rw [HR.out, hf] at hq; cases hq) (by simp) _ (by rw [HR.out, hf]; rfl) rfl ?_
    ((have hbw := below_own hb1); repeat (with_reducible (first | exact hbw | refine below_set ?_ (Nat.le_refl _) _ _ | refine belowN ?_ _ | refine belowA ?_ _)))
  · have hf : foreignOf s.data.toList = none := foreign_no (by rintro ⟨h, _⟩; rw [hp.out] at h; cases h)
    refine bodyPost_ret (v := .tuple #[.agg #[.int .i64 0, .int .i64 0, .int .i64 0, .int .i64 0, .int .i64 0, .int .i64 0], .bool false]) (by simp [results, Tryz.results154, go_sem, c0, hz]) rfl ?_
    refine read_post ⟨0, 0, []⟩ (fun q hq => by rw [HR.out, hf] at hq; cases hq) (by simp) _ (by rw [HR.out, hf]; rfl) rfl ?_
    ((have hbw := below_own hb1); repeat (with_reducible (first | exact hbw | refine below_set ?_ (Nat.le_refl _) _ _ | refine belowN ?_ _ | refine belowA ?_ _)))
end Go.Proofs.YtmepjbjmjbpchaaGreatDoor
end
section
/- types.read, where the type ends as one with cells. -/
namespace Go.Proofs.YtmepjbjmjbpchaaGreatDoor
open Go Go.RowKit
set_option linter.unusedVariables false
set_option linter.unusedSimpArgs false

theorem words_m (w : World) : Calls Tryz.prog 163 #[] w fun e w' => ∃ m, e = .returned (.map (some m)) ∧ m = w.heap.size ∧ w'.heap.size = m + 1 ∧ w'.heap[m]? = some (.map wordEs 2) ∧ Below w.heap.size w w' :=
  (words_any w).mono fun e w' ⟨he, hw⟩ => ⟨_, he, rfl, by rw [← hw]; simp, by rw [← hw]; exact heap_alloc_new w _, by rw [← hw]; exact (Below.refl _ w).alloc (Nat.le_refl _) _⟩
/-- The world at the head of the loop over the beginnings, of which those in `seen` are behind. -/
structure RdW (w : World) (m : Nat) (seen : Array Nat) (wr : World) : Prop where
  it : wr.heap[m + 1]? = some (.mapIter (some m) 2 seen 2)
  mp : wr.heap[m]? = some (.map wordEs 2)
  res : wr.heap[w.heap.size]? = some (.cells zCells 160 (0, 0))
  below : Below w.heap.size w wr
def RdS (body : List UInt8) (seen : Array Nat) : Prop :=
  (seen.contains 0 = true → Lib.hasPrefix body [109, 101, 109, 60] = false) ∧ (seen.contains 1 = true → Lib.hasPrefix body [97, 114, 114, 60] = false) ∧ ∀ x ∈ seen, x = 0 ∨ x = 1
/-- How many of the two are left. -/
def iterLeft (m : Nat) (wr : World) : Nat := match wr.heap[m + 1]? with | some (.mapIter _ _ seen _) => (leftOf wordEs seen).size | _ => 0

theorem rd_step {w wr w1 : World} {m : Nat} {seen : Array Nat} (hd : RdW w m seen wr) (hm : w.heap.size < m) (h1 : w1 = wr ∨ w1 = wr.drew) (b : Nat) : RdW w m (seen.push b) (Go.ChangeMaps.setBlock w1 (m + 1) (.mapIter (some m) 2 (seen.push b) 2)) := by
  have hsz := blkLt hd.it
  have hh : w1.heap = wr.heap := by rcases h1 with rfl | rfl <;> rfl
  have hb : Below w.heap.size w w1 := by rcases h1 with rfl | rfl; exact hd.below; exact hd.below.drew
  refine ⟨?_, ?_, ?_, ?_⟩
  · simp [Go.ChangeMaps.setBlock, hh, hsz]
  · simp [Go.ChangeMaps.setBlock, hh, Array.getElem?_setIfInBounds, hd.mp]
  · simp [Go.ChangeMaps.setBlock, hh, Array.getElem?_setIfInBounds, hd.res]; omega
  · refine ⟨hb.os, hb.tape, hb.output, by simpa [Go.ChangeMaps.setBlock] using hb.size, fun k hk => ?_⟩
    rw [← hb.block k hk]
    simp [Go.ChangeMaps.setBlock, Array.getElem?_setIfInBounds]; omega

theorem leftOf_words (seen : Array Nat) : leftOf wordEs seen = (if seen.contains 0 then #[] else #[wordEs[0]]) ++ (if seen.contains 1 then #[] else #[wordEs[1]]) := by
  apply Array.ext'
  unfold leftOf wordEs
  cases h0 : seen.contains 0 <;> cases h1 : seen.contains 1 <;> simp [Array.toList_filter, List.filter_cons, h0, h1] <;> simp_all
theorem rd_next (ty : TypeId) {w wr : World} {m : Nat} {seen : Array Nat} (hd : RdW w m seen wr) (hm : w.heap.size < m) :
    (seen.contains 0 = true ∧ seen.contains 1 = true ∧ (Instr.next (.pointer (some ⟨m + 1, 0, none⟩)) false ty).run Tryz.prog wr = .ok (.tuple #[.bool false]) wr) ∨
    (∃ (k b : Nat) (pw : List UInt8) (W : World), ((k = 2 ∧ b = 0 ∧ pw = [109, 101, 109, 60]) ∨ (k = 3 ∧ b = 1 ∧ pw = [97, 114, 114, 60])) ∧ (leftOf wordEs (seen.push b)).size < (leftOf wordEs seen).size ∧
      (Instr.next (.pointer (some ⟨m + 1, 0, none⟩)) false ty).run Tryz.prog wr = .ok (.tuple #[.bool true, .int .i64 k, .string ⟨pw.toArray⟩]) W ∧
      (Instr.entry (.pointer (some ⟨m + 1, 0, none⟩))).run Tryz.prog W = .ok (.tuple #[.int .i64 k, .string ⟨pw.toArray⟩]) W ∧ RdW w m (seen.push b) W) := by
  rcases run_next_at (P := Tryz.prog) wr ty (m + 1) m 2 2 seen wordEs 2 hd.it hd.mp (by simp [wordEs]) (Nat.le_refl _) with ⟨h, hr⟩ | ⟨e, he, w1, hw, hr⟩
  · left
    rw [leftOf_words] at h
    refine ⟨?_, ?_, hr⟩
    · cases h0 : seen.contains 0
      · rw [h0] at h; simp at h
      · rfl
    · cases h0 : seen.contains 1
      · rw [h0] at h; simp at h
      · rfl
  · right
    have hst := rd_step hd hm hw e.born
    rw [leftOf_words] at he
    have key : (e = wordEs[0] ∧ seen.contains 0 = false) ∨ (e = wordEs[1] ∧ seen.contains 1 = false) := by
      cases h0 : seen.contains 0 <;> cases h1 : seen.contains 1 <;> rw [h0, h1] at he <;> simp at he <;> simp [he]
    rcases key with ⟨rfl, h0⟩ | ⟨rfl, h0⟩
    · refine ⟨2, 0, [109, 101, 109, 60], _, .inl ⟨rfl, rfl, rfl⟩, ?_, hr, run_entry_at _ (m + 1) m 2 seen wordEs 2 wordEs[0] hst.it hst.mp (by simp [wordEs]) (by simp [wordEs]), hst⟩
      rw [leftOf_words, leftOf_words, h0]
      cases h1 : seen.contains 1 <;> simp_all
    · refine ⟨3, 1, [97, 114, 114, 60], _, .inr ⟨rfl, rfl, rfl⟩, ?_, hr, run_entry_at _ (m + 1) m 2 seen wordEs 2 wordEs[1] hst.it hst.mp (by simp [wordEs]) (by simp [wordEs]), hst⟩
      rw [leftOf_words, leftOf_words, h0]
      cases h1 : seen.contains 0 <;> simp_all

theorem notBoth {l : List UInt8} (h : Lib.hasPrefix l [109, 101, 109, 60] = true) (h2 : Lib.hasPrefix l [97, 114, 114, 60] = true) : False := by
  unfold Lib.hasPrefix at h h2
  match l, h, h2 with
  | a :: l, h, h2 =>
    simp only [List.isPrefixOf, Bool.and_eq_true, beq_iff_eq] at h h2
    rw [← h.1] at h2
    exact absurd h2.1 (by decide)
theorem shape_str (k : Nat) (s : ByteArray) (w : World) (hl : s.data.toList.length ≤ 140737488355328) (hk : k ≤ 5) :
    Calls Tryz.prog 164 #[.int .i64 k, .string s] w (ShapePost k s.data.toList w) := shape_any k s.data.toList w hl hk

set_option maxRecDepth 100000 in
set_option maxHeartbeats 2000000 in
theorem read_suffix (s : ByteArray) (w : World) (hs : s.size ≤ 140737488355328) (h : elemOf s.data.toList = none) (h2 : Lib.hasSuffix s.data.toList [62] = true) :
    Calls Tryz.prog 154 #[.string s] w (ReadPost s.data.toList w) := by
  have H := Lib.hid h
  have H2 := Lib.hid h2
  have hl : s.data.toList.length = s.size := by simp
  have HL := Lib.hid hl
  clear h h2 hl
  have hs1 : s.size ≤ 9223372036854775807 := by omega
  go_enter Tryz.func154, Tryz.ntmps154
  go_wp2_with (first
    | (go_at_call 162; refine (element_no _ _ H.out).mono ?_; rintro e w1 ⟨ga, gb, rfl, hb1⟩; have hz : w.heap.size < w1.heap.size := (by have := hb1.size; simp at this; omega); have c0 := rdCell hb1 w.heap.size (by simp); have f0 := rdFree hb1 w.heap.size (by simp))
    | (go_at_call 96; refine (cutSuffix_yes _ _ _ hs1 H2.out).mono ?_; rintro e w' ⟨t, rfl, ht, rfl⟩)
    | (go_at_call 163; refine (words_m _).mono ?_; rintro e w2 ⟨m, rfl, hm, hsz, hmp, hb2⟩; (have hrange := run_range_map' (P := Tryz.prog) Tryz.underlying185 hmp); rw [hsz] at hrange; (have HM := Lib.hid (And.intro hm (And.intro hsz (And.intro hmp hb2)))); clear hm hsz hmp hb2))
  have hwm : w.heap.size < m := by
    obtain ⟨hm, -⟩ := HM.out
    rw [hm]; simp [World.setCell]; omega
  have hd : RdW w m #[] (w2.alloc (Obj.mapIter (some m) 2 #[] 2)) := by
    obtain ⟨hm, hsz, hmp, hb2⟩ := HM.out
    refine ⟨by rw [← hsz]; exact heap_alloc_new _ _, allocPast _ hmp (by omega), allocPast _ ?_ (by omega), ?_⟩
    · rw [hb2.block w.heap.size (by simp [World.setCell]; omega)]
      repeat rw [heap_setCell_other _ _ _ _ (by simp; omega)]
      refine allocPast _ ?_ (by omega)
      rw [hb1.block _ (by simp)]
      exact heap_alloc_new _ _
    · have hbw := below_own hb1
      refine Below.alloc ?_ (by omega) _
      refine Below.trans ?_ (hb2.mono (by simp [World.setCell]; omega))
      repeat (with_reducible (first | exact hbw | refine below_set ?_ (Nat.le_of_lt hz) _ _ | refine belowN ?_ _ | refine belowA ?_ _))
  clear HM hrange hb1 c0 f0 hz
  generalize (w2.alloc (Obj.mapIter (some m) 2 #[] 2)) = W at hd
  go_loopw [] (fun wr => ∃ seen, RdW w m seen wr ∧ RdS t.data.toList seen) (fun wr => iterLeft m wr)
  · exact ⟨#[], hd, by simp [RdS]⟩
  · clear hd
    obtain ⟨seen, hd, hS⟩ := hrel
    have HS := Lib.hid hS
    clear hS
    have HIT := Lib.hid hd.it
    rcases rd_next 0 hd hwm with ⟨h0, h1, hn⟩ | ⟨k, b, pw, W2, hk, hlt, hn, he, hd2⟩
    · have hr : readOf s.data.toList = foreignOf s.data.toList := by
        have e0 := HS.out.1 h0
        have e1 := HS.out.2.1 h1
        rw [ht.out] at e0 e1
        have hl := HL.out
        simp only [List.length_cons, List.length_nil, hl, Nat.zero_add] at e0 e1
        unfold readOf; rw [H.out]; simp only [H2.out, hl, if_true]
        rw [if_neg (by rw [e0]; simp), if_neg (by rw [e1]; simp)]
      have HR := Lib.hid hr
      have c0 := blkCell hd.res
      have f0 := blkFree hd.res
      have hz := blkLt hd.res
      have HD := Lib.hid hd.below
      clear hr hd h0 h1 HS
      go_wp2_with (first
        | (go_at_call 95; refine (cutPrefix_or _ _ _).mono ?_; rintro e w' (⟨t, rfl, ht, hp, rfl⟩ | ⟨rfl, hp, rfl⟩))
        | (go_at_call 51; refine (cut_or _ _ _ (by have := congrArg List.length ht.out; simp at this; omega)).mono ?_; rintro e w' (⟨x, y, nd, rfl, hc, rfl⟩ | ⟨nd, rfl, hc, rfl⟩))
        | (go_at_call 42; refine (isName_any _ _).mono ?_; rintro e w' ⟨rfl, rfl⟩))
      · have hf := foreign_yes hp.out (by have := HL.out; omega) (by have := hc.out; rw [ht.out] at this; simpa using this)
        refine bodyPost_ret (v := .tuple #[.agg #[.int .i64 4, .int .i64 0, .int .i64 0, .int .i64 0, .int .i64 0, .int .i64 0], .bool (nameOf y.data.toList)]) (by simp [results, Tryz.results154, go_sem, c0, hz]) rfl ?_
        refine read_post ⟨4, 0, []⟩ (fun q hq => ?_) (by simp) _ ?_ rfl ?_
        · rw [HR.out, hf] at hq; split at hq
          · exact Option.some.inj hq
          · cases hq
        · rw [HR.out, hf]; cases nameOf y.data.toList <;> simp_all
        · ((have hbw := HD.out); repeat (with_reducible (first | exact hbw | refine below_set ?_ (Nat.le_refl _) _ _ | refine belowN ?_ _ | refine belowA ?_ _)))
      · have hf := foreign_yes hp.out (by have := HL.out; omega) (by have := hc.out; rw [ht.out] at this; simpa using this)
        refine bodyPost_ret (v := .tuple #[.agg #[.int .i64 4, .int .i64 0, .int .i64 0, .int .i64 0, .int .i64 0, .int .i64 0], .bool false]) (by simp [results, Tryz.results154, go_sem, c0, hz]) rfl ?_
        refine read_post ⟨4, 0, []⟩ (fun q hq => ?_) (by simp) _ ?_ rfl ?_
        · rw [HR.out, hf] at hq; split at hq
          · exact Option.some.inj hq
          · cases hq
        · rw [HR.out, hf]; simp_all
        · ((have hbw := HD.out); repeat (with_reducible (first | exact hbw | refine below_set ?_ (Nat.le_refl _) _ _ | refine belowN ?_ _ | refine belowA ?_ _)))
      · have hf : foreignOf s.data.toList = none := foreign_no (by rintro ⟨_, _, x, y, h, _⟩; have := hc.out; rw [ht.out] at this; simp at this; rw [h] at this; cases this)
        refine bodyPost_ret (v := .tuple #[.agg #[.int .i64 4, .int .i64 0, .int .i64 0, .int .i64 0, .int .i64 0, .int .i64 0], .bool (nameOf [])]) (by simp [results, Tryz.results154, go_sem, c0, hz]) rfl ?_
        refine read_post ⟨4, 0, []⟩ (fun q hq => by rw [HR.out, hf] at hq; cases hq) (by simp) _ (by rw [HR.out, hf]; rfl) rfl ?_
        ((have hbw := HD.out); repeat (with_reducible (first | exact hbw | refine below_set ?_ (Nat.le_refl _) _ _ | refine belowN ?_ _ | refine belowA ?_ _)))
      · have hf : foreignOf s.data.toList = none := foreign_no (by rintro ⟨_, _, x, y, h, _⟩; have := hc.out; rw [ht.out] at this; simp at this; rw [h] at this; cases this)
        refine bodyPost_ret (v := .tuple #[.agg #[.int .i64 4, .int .i64 0, .int .i64 0, .int .i64 0, .int .i64 0, .int .i64 0], .bool false]) (by simp [results, Tryz.results154, go_sem, c0, hz]) rfl ?_
        refine read_post ⟨4, 0, []⟩ (fun q hq => by rw [HR.out, hf] at hq; cases hq) (by simp) _ (by rw [HR.out, hf]; rfl) rfl ?_
        ((have hbw := HD.out); repeat (with_reducible (first | exact hbw | refine below_set ?_ (Nat.le_refl _) _ _ | refine belowN ?_ _ | refine belowA ?_ _)))
      · have hf : foreignOf s.data.toList = none := foreign_no (by rintro ⟨_, h, _⟩; have := HL.out; omega)
        refine bodyPost_ret (v := .tuple #[.agg #[.int .i64 0, .int .i64 0, .int .i64 0, .int .i64 0, .int .i64 0, .int .i64 0], .bool false]) (by simp [results, Tryz.results154, go_sem, c0, hz]) rfl ?_
        refine read_post ⟨0, 0, []⟩ (fun q hq => by rw [HR.out, hf] at hq; cases hq) (by simp) _ (by rw [HR.out, hf]; rfl) rfl ?_
        ((have hbw := HD.out); repeat (with_reducible (first | exact hbw | refine below_set ?_ (Nat.le_refl _) _ _ | refine belowN ?_ _ | refine belowA ?_ _)))
      · have hf : foreignOf s.data.toList = none := foreign_no (by rintro ⟨h, _⟩; rw [hp.out] at h; cases h)
        refine bodyPost_ret (v := .tuple #[.agg #[.int .i64 0, .int .i64 0, .int .i64 0, .int .i64 0, .int .i64 0, .int .i64 0], .bool false]) (by simp [results, Tryz.results154, go_sem, c0, hz]) rfl ?_
        refine read_post ⟨0, 0, []⟩ (fun q hq => by rw [HR.out, hf] at hq; cases hq) (by simp) _ (by rw [HR.out, hf]; rfl) rfl ?_
        ((have hbw := HD.out); repeat (with_reducible (first | exact hbw | refine below_set ?_ (Nat.le_refl _) _ _ | refine belowN ?_ _ | refine belowA ?_ _)))
    · have c0 := blkCell hd2.res
      have f0 := blkFree hd2.res
      have hz := blkLt hd2.res
      have HD := Lib.hid hd2
      clear hd2
      go_wp2_with (first
        | (go_at_call 95; refine (cutPrefix_or _ _ _).mono ?_; rintro e w' (⟨t4, rfl, ht4, hp, rfl⟩ | ⟨rfl, hp, rfl⟩))
        | (go_at_call 164; refine (shape_str k t4 _ (by have := congrArg List.length ht4.out; have h2 := congrArg List.length ht.out; simp at this h2; simp; omega) (by rcases hk with ⟨rfl, -⟩ | ⟨rfl, -⟩ <;> omega)).mono ?_; rintro e W1 ⟨⟨pk, pb, pe⟩, hp1, hp2, rfl, hb1⟩; (simp only [Pd.val]); (have c1 := blkCell (blkBelow HD.out.res hb1)); (have f1 := blkFree (blkBelow HD.out.res hb1)); (have hz1 := blkLt (blkBelow HD.out.res hb1))))
      · have hr : readOf s.data.toList = shapeOf k t4.data.toList := by
          have hl := HL.out
          have e4 := ht4.out
          have ep := hp.out
          rw [ht.out] at e4 ep
          simp only [List.length_cons, List.length_nil, hl, Nat.zero_add] at e4 ep
          unfold readOf; rw [H.out]; simp only [H2.out, hl, if_true]
          rcases hk with ⟨rfl, rfl, rfl⟩ | ⟨rfl, rfl, rfl⟩
          · rw [if_pos ep, e4]; rfl
          · rw [if_neg, if_pos ep, e4]; rfl
            intro hmem
            exact notBoth hmem ep
        refine bodyPost_ret (v := .tuple #[Pd.val ⟨pk, pb, pe⟩, .bool (shapeOf k t4.data.toList).isSome]) (by simp [results, Tryz.results154, go_sem, c1, hz1, Pd.val]) rfl ?_
        refine read_post ⟨pk, pb, pe⟩ (fun q hq => by rw [hr] at hq; exact hp1 q hq) hp2 _ (by rw [hr]) rfl ?_
        have hbw := HD.out.below.trans (hb1.mono HD.out.below.size)
        repeat (with_reducible (first | exact hbw | refine below_set ?_ (Nat.le_refl _) _ _ | refine belowN ?_ _ | refine belowA ?_ _))
      · go_roundw
        · refine ⟨_, HD.out, ?_⟩
          have hS := HS.out
          have ep := hp.out
          rcases hk with ⟨rfl, rfl, rfl⟩ | ⟨rfl, rfl, rfl⟩
          · exact ⟨fun _ => ep, fun h1 => hS.2.1 (by simpa using h1), fun x hx => by simp at hx; rcases hx with hx | rfl; exact hS.2.2 x hx; exact .inl rfl⟩
          · exact ⟨fun h1 => hS.1 (by simpa using h1), fun _ => ep, fun x hx => by simp at hx; rcases hx with hx | rfl; exact hS.2.2 x hx; exact .inr rfl⟩
        · show iterLeft m W2 < iterLeft m wr
          unfold iterLeft
          rw [HD.out.it, HIT.out]
          exact hlt
end Go.Proofs.YtmepjbjmjbpchaaGreatDoor
end
section
/- Package types: types.asked, and what is told of a type that was read. -/
namespace Go.Proofs.YtmepjbjmjbpchaaGreatDoor
open Go Go.RowKit
set_option linter.unusedVariables false
set_option linter.unusedSimpArgs false

theorem read_any (s : ByteArray) (w : World) (hs : s.size ≤ 140737488355328) :
    Calls Tryz.prog 154 #[.string s] w (ReadPost s.data.toList w) := by
  cases h : elemOf s.data.toList with
  | some q => exact read_elem s q w h
  | none =>
    cases h2 : Lib.hasSuffix s.data.toList [62] with
    | true => exact read_suffix s w hs h h2
    | false => exact read_foreign s w hs h h2

/-- `types.asked` with a property of the kind: what was read, and the error's number. -/
def askOf (P : Nat → Bool) (l : List UInt8) : Pd × Nat :=
  match readOf l with
  | none => (⟨0, 0, []⟩, 10)
  | some q => if P q.kind then (q, 0) else (⟨0, 0, []⟩, 1)

set_option maxRecDepth 100000 in
set_option maxHeartbeats 2000000 in
theorem asked_any (P : Nat → Bool) (f : Nat) (hin : ∀ args w, (callFunc f args).run Tryz.prog w = .ok (.enter f args) w) (hf : ∀ (k : Nat) (b r x y z : Int) (w : World), Calls Tryz.prog f #[pv k b r x y z] w fun e w' => e = .returned (.bool (P k)) ∧ Below w.heap.size w w')
    (s : ByteArray) (w : World) (hs : s.size ≤ 140737488355328) :
    Calls Tryz.prog 132 #[.string s, .func (.func f) #[] #[]] w fun e w' => e = .returned (.tuple #[(askOf P s.data.toList).1.val, .int .i64 (askOf P s.data.toList).2]) ∧ Below w.heap.size w w' := by
  cases h : readOf s.data.toList with
  | none =>
    have ha : askOf P s.data.toList = (⟨0, 0, []⟩, 10) := by unfold askOf; rw [h]
    rw [ha]
    have H := Lib.hid h
    clear h ha hf hin
    go_enter Tryz.func132, Tryz.ntmps132
    go_wp2_with (go_at_call 154; refine (read_any _ _ hs).mono ?_; rintro e w1 ⟨⟨pk, pb, pe⟩, -, -, rfl, hb1⟩; rw [H.out]; (simp only [Pd.val, Option.isSome]); have hz : w.heap.size < w1.heap.size := (by have := hb1.size; simp at this; omega); have c0 := rdCell hb1 w.heap.size (by simp); have f0 := rdFree hb1 w.heap.size (by simp))
    refine bodyPost_ret (v := .tuple #[.agg #[.int .i64 0, .int .i64 0, .int .i64 0, .int .i64 0, .int .i64 0, .int .i64 0], .int .i64 10]) (by simp [results, Tryz.results132, go_sem, c0, hz]) rfl ?_
    refine ⟨rfl, ?_⟩
    have hbw := below_own hb1
    repeat (with_reducible (first | exact hbw | refine below_set ?_ (Nat.le_refl _) _ _ | refine belowN ?_ _ | refine belowA ?_ _))
  | some q =>
    cases hp : P q.kind with
    | false =>
      have ha : askOf P s.data.toList = (⟨0, 0, []⟩, 1) := by unfold askOf; rw [h]; simp [hp]
      rw [ha]
      have H := Lib.hid h
      have HP := Lib.hid hp
      have HF := Lib.hid hf
      clear h ha hp hf
      go_enter Tryz.func132, Tryz.ntmps132
      go_wp2_with (first
        | (go_at_call 154; refine (read_any _ _ hs).mono ?_; rintro e w1 ⟨⟨pk, pb, pe⟩, h1, -, rfl, hb1⟩; (obtain rfl := h1 q H.out); rw [H.out]; (simp only [Pd.val, Option.isSome]); have hz : w.heap.size < w1.heap.size := (by have := hb1.size; simp at this; omega); have c0 := rdCell hb1 w.heap.size (by simp); have f0 := rdFree hb1 w.heap.size (by simp))
        | (refine (HF.out _ _ _ _ _ _ _).mono ?_; rintro e w2 ⟨rfl, hb2⟩; rw [HP.out]; have hz2 : w.heap.size < w2.heap.size := (by have := hb2.size; simp at this; omega); have hz3 : w1.heap.size < w2.heap.size := (by have := hb2.size; simp at this; omega); have c2 := rdCell hb2 w.heap.size (by simp; omega); have f2 := rdFree hb2 w.heap.size (by simp; omega)))
      refine bodyPost_ret (v := .tuple #[.agg #[.int .i64 0, .int .i64 0, .int .i64 0, .int .i64 0, .int .i64 0, .int .i64 0], .int .i64 1]) (by simp [results, Tryz.results132, go_sem, c0, c2, hz, hz2, hz3]) rfl ?_
      refine ⟨rfl, ?_⟩
      have hbw := (Below.alloc (below_own hb1) (Nat.le_of_lt hz) _).trans (hb2.mono (by simp; omega))
      repeat (with_reducible (first | exact hbw | refine below_set ?_ (Nat.le_refl _) _ _ | refine belowN ?_ _ | refine belowA ?_ _))
    | true =>
      have ha : askOf P s.data.toList = (q, 0) := by unfold askOf; rw [h]; simp [hp]
      rw [ha]
      have H := Lib.hid h
      have HP := Lib.hid hp
      have HF := Lib.hid hf
      clear h ha hp hf
      go_enter Tryz.func132, Tryz.ntmps132
      go_wp2_with (first
        | (go_at_call 154; refine (read_any _ _ hs).mono ?_; rintro e w1 ⟨⟨pk, pb, pe⟩, h1, -, rfl, hb1⟩; (obtain rfl := h1 q H.out); rw [H.out]; (simp only [Pd.val, Option.isSome]); have hz : w.heap.size < w1.heap.size := (by have := hb1.size; simp at this; omega); have c0 := rdCell hb1 w.heap.size (by simp); have f0 := rdFree hb1 w.heap.size (by simp))
        | (refine (HF.out _ _ _ _ _ _ _).mono ?_; rintro e w2 ⟨rfl, hb2⟩; rw [HP.out]; have hz2 : w.heap.size < w2.heap.size := (by have := hb2.size; simp at this; omega); have hz3 : w1.heap.size < w2.heap.size := (by have := hb2.size; simp at this; omega); have c2 := rdCell hb2 w.heap.size (by simp; omega); have f2 := rdFree hb2 w.heap.size (by simp; omega); have c3 := rdCell hb2 w1.heap.size (by simp); have f3 := rdFree hb2 w1.heap.size (by simp)))
      refine bodyPost_ret (v := .tuple #[Pd.val ⟨pk, pb, pe⟩, .int .i64 0]) (by simp [results, Tryz.results132, go_sem, c0, c2, hz, hz2, hz3, Pd.val]) rfl ?_
      refine ⟨rfl, ?_⟩
      have hbw := (Below.alloc (below_own hb1) (Nat.le_of_lt hz) _).trans (hb2.mono (by simp; omega))
      repeat (with_reducible (first | exact hbw | refine below_set ?_ (Nat.le_refl _) _ _ | refine belowN ?_ _ | refine belowA ?_ _))

theorem callFunc_enters {P : Program} {f : FuncId} {fn : Func} {c : Code} (hf : P.funcs[f]? = some fn) (hname : (fn.name == "runtime.NumGoroutine") = false) (hb : fn.body = some c) (args : Array Value) (w : World) :
    (callFunc f args).run P w = .ok (.enter f args) w := by
  have h1 : fn.name ≠ "runtime.NumGoroutine" := by simpa using hname
  simp [callFunc, hf, h1, hb]
theorem beq_cast (k n : Nat) : ((k : Int) == (n : Int)) = (k == n) := by rw [Bool.eq_iff_iff]; simp; omega
def askAny (l : List UInt8) : Pd × Nat := askOf (fun _ => true) l
def askNum (l : List UInt8) : Pd × Nat := askOf (fun k => k == 0 || k == 1) l
def askCel (l : List UInt8) : Pd × Nat := askOf (fun k => k == 2 || k == 3) l
section
variable (s : ByteArray) (w : World) (hs : s.size ≤ 140737488355328)
include hs
theorem asked_anything : Calls Tryz.prog 132 #[.string s, .func (.func 133) #[] #[]] w fun e w' => e = .returned (.tuple #[(askAny s.data.toList).1.val, .int .i64 (askAny s.data.toList).2]) ∧ Below w.heap.size w w' :=
  asked_any (fun _ => true) _ (fun args w => callFunc_enters Tryz.func133 (by kernel_rfl) rfl args w) (fun k b r x y z w => anything_any k b r x y z w) s w hs
end
end Go.Proofs.YtmepjbjmjbpchaaGreatDoor
end
section
/- Package types: what is told of a type that was read, without text. -/
namespace Go.Proofs.YtmepjbjmjbpchaaGreatDoor
open Go Go.RowKit
set_option linter.unusedVariables false
set_option linter.unusedSimpArgs false

/-- What is so of every type that is read. -/
structure PdOk (q : Pd) : Prop where
  kind : q.kind ≤ 4
  bits : q.bits ≤ 64
  num : q.kind ≤ 1 → 1 ≤ q.bits ∧ q.ext = []
  rank : q.ext.length ≤ 3
  each : ∀ e ∈ q.ext, e ≤ 1000
  prod : prodN q.ext ≤ 4096

theorem elemOf_ok {l : List UInt8} {q : Pd} (h : elemOf l = some q) : PdOk q ∧ q.kind ≤ 1 := by
  unfold elemOf at h
  split at h
  · cases h; exact ⟨⟨by decide, by decide, by decide, by decide, by simp, by simp [prodN]⟩, by decide⟩
  · split at h
    · split at h
      · split at h
        · cases h; exact ⟨⟨by simp, by simp; omega, by simp; omega, by simp, by simp, by simp [prodN]⟩, by simp⟩
        · cases h
      · cases h
    · cases h
theorem shapeP_ok : ∀ (ps : List (List UInt8 × Bool)) (ext : List Nat) (r : List Nat × Nat), shapeP ext ps = some r → ext.length ≤ 3 → (∀ e ∈ ext, e ≤ 1000) → r.1.length ≤ 3 ∧ (∀ e ∈ r.1, e ≤ 1000) ∧ prodN r.1 ≤ 4096 ∧ r.2 ≤ 64
  | [], ext, r, h, _, _ => by simp [shapeP] at h
  | (p, true) :: rest, ext, r, h, hl, he => by
    simp only [shapeP] at h
    split at h
    · rename_i e hee
      have hb := (elemOf_ok hee).1.bits
      split at h
      · cases h; refine ⟨hl, he, by assumption, ?_⟩
        dsimp only; split <;> omega
      · cases h
    · cases h
  | (p, false) :: rest, ext, r, h, hl, he => by
    simp only [shapeP] at h
    split at h
    · rename_i n hn
      split at h
      · rename_i hc
        exact shapeP_ok rest _ r h (by simp; omega) (fun e hm => by simp at hm; rcases hm with hm | rfl; exact he e hm; exact hc.1)
      · cases h
    · cases h
theorem shapeOf_ok {k : Nat} {l : List UInt8} {q : Pd} (h : shapeOf k l = some q) (h2 : 2 ≤ k) (h3 : k ≤ 3) : PdOk q := by
  unfold shapeOf at h
  rw [Option.map_eq_some_iff] at h
  obtain ⟨r, hr, rfl⟩ := h
  obtain ⟨a, b, c, d⟩ := shapeP_ok _ _ _ hr (by simp) (by simp)
  exact ⟨by simp; omega, d, fun h => by simp at h; omega, a, b, c⟩
theorem foreignOf_ok {l : List UInt8} {q : Pd} (h : foreignOf l = some q) : q = ⟨4, 0, []⟩ := by
  unfold foreignOf at h
  split at h
  · split at h
    · cases h
    · split at h
      · cases h; rfl
      · cases h
  · cases h
theorem readOf_ok {l : List UInt8} {q : Pd} (h : readOf l = some q) : PdOk q := by
  have hfor : ∀ {l : List UInt8} {q : Pd}, foreignOf l = some q → PdOk q := fun h => by
    rw [foreignOf_ok h]; exact ⟨by decide, by decide, by decide, by decide, by simp, by simp [prodN]⟩
  unfold readOf at h
  split at h
  · rename_i p hp
    cases h; exact (elemOf_ok hp).1
  · split at h
    · split at h
      · exact shapeOf_ok h (by decide) (by decide)
      · split at h
        · exact shapeOf_ok h (by decide) (by decide)
        · exact hfor h
    · exact hfor h
theorem askOf_ok (P : Nat → Bool) (l : List UInt8) : PdOk (askOf P l).1 ∨ (askOf P l).1 = ⟨0, 0, []⟩ := by
  unfold askOf
  split
  · exact .inr rfl
  · rename_i q hq
    split
    · exact .inl (readOf_ok hq)
    · exact .inr rfl
theorem askOf_zero {P : Nat → Bool} {l : List UInt8} (h : (askOf P l).2 = 0) : readOf l = some (askOf P l).1 ∧ P (askOf P l).1.kind = true ∧ PdOk (askOf P l).1 := by
  unfold askOf at h ⊢
  split at h
  · cases h
  · rename_i q hq
    split at h
    · rename_i hp; exact ⟨by simp [hp, hq], by simp [hp], by simp only [hp, if_true]; exact readOf_ok hq⟩
    · cases h
theorem askOf_err (P : Nat → Bool) (l : List UInt8) : (askOf P l).2 = 0 ∨ (askOf P l).2 = 1 ∨ (askOf P l).2 = 10 := by
  unfold askOf
  split
  · simp
  · split <;> simp

section
variable (s : ByteArray) (w : World) (hs : s.size ≤ 140737488355328)
include hs
set_option maxRecDepth 100000 in
set_option maxHeartbeats 2000000 in
theorem check_any : Calls Tryz.prog 99 #[.string s] w fun e w' => e = .returned (.int .i64 (askAny s.data.toList).2) ∧ Below w.heap.size w w' := by
  have herr := askOf_err (fun _ => true) s.data.toList
  have hz := @askOf_zero (fun _ => true) s.data.toList
  obtain ⟨q, hq⟩ : ∃ q, q = askAny s.data.toList := ⟨_, rfl⟩
  rw [show askOf (fun _ => true) s.data.toList = q from hq.symm] at herr hz
  have HQ := Lib.hid hq
  clear hq
  obtain ⟨⟨pk, pb, pe⟩, pe2⟩ := q
  dsimp only at herr hz
  rw [← HQ.out]
  rcases herr with rfl | herr
  · have hnz : (pk : Int) ≠ 0 ∨ (pb : Int) ≠ 0 := by
      have := (hz rfl).2.2.num
      dsimp only at this; omega
    clear hz
    go_enter Tryz.func99, Tryz.ntmps99
    go_wp2_with (first
      | (go_at_call 132; refine (asked_anything _ _ hs).mono ?_; rintro e w1 ⟨rfl, hb1⟩; rw [← HQ.out]; (simp only [Pd.val]))
      | (go_at_call 134; refine (isZero_any _ _ _ _ _ _ _ hnz).mono ?_; rintro e w2 ⟨rfl, hb2⟩))
    go_ret
    exact ⟨rfl, (hb1.alloc hb1.size _).trans (hb2.mono (by have := hb1.size; simp; omega))⟩
  · clear hz
    rcases herr with rfl | rfl
    all_goals
      go_enter Tryz.func99, Tryz.ntmps99
      go_wp2_with (first
        | (go_at_call 132; refine (asked_anything _ _ hs).mono ?_; rintro e w1 ⟨rfl, hb1⟩; rw [← HQ.out]; (simp only [Pd.val])))
      go_ret
      exact ⟨rfl, hb1.alloc hb1.size _⟩
end
end Go.Proofs.YtmepjbjmjbpchaaGreatDoor
end
section
/- Package types: lists of types, read by a property. -/
namespace Go.Proofs.YtmepjbjmjbpchaaGreatDoor
open Go Go.RowKit Go.Sort
set_option linter.unusedVariables false
set_option linter.unusedSimpArgs false

/-- A slice of strings that is read. -/
def StrSl (w : World) (a : Option Addr) (ls : List ByteArray) : Prop :=
  ls = [] ∨ ∃ g off, a = some ⟨g, off, none⟩ ∧ g < w.heap.size ∧ ∀ j (hj : j < ls.length), w.cell? ⟨g, off + j, none⟩ = some (.string ls[j])
theorem StrSl.below {w w1 : World} {a : Option Addr} {ls : List ByteArray} (h : StrSl w a ls) (hb : Below w.heap.size w w1) : StrSl w1 a ls := by
  rcases h with h | ⟨g, off, h1, h2, h3⟩
  · exact .inl h
  · exact .inr ⟨g, off, h1, Nat.lt_of_lt_of_le h2 hb.size, fun j hj => (rdCell hb g h2 (off + j)).trans (h3 j hj)⟩
theorem StrSl.at {w : World} {a : Option Addr} {ls : List ByteArray} (h : StrSl w a ls) {j : Nat} (hj : j < ls.length) : ∃ g off, a = some ⟨g, off, none⟩ ∧ w.cell? ⟨g, off + j, none⟩ = some (.string ls[j]) := by
  rcases h with rfl | ⟨g, off, h1, h2, h3⟩
  · simp at hj
  · exact ⟨g, off, h1, h3 j hj⟩
theorem below_own' {w W w2 : World} (h : Below w.heap.size w W) (hb : Below W.heap.size W w2) : Below w.heap.size w w2 := h.trans (hb.mono h.size)
def idxOf (P : ByteArray → Bool) (ls : List ByteArray) : Int := match ls.findIdx? P with | some i => i | none => -1

set_option maxRecDepth 100000 in
set_option maxHeartbeats 2000000 in
theorem indexFunc_any (P : ByteArray → Bool) (f : Nat) (hin : ∀ args w, (callFunc f args).run Tryz.prog w = .ok (.enter f args) w)
    (a : Option Addr) (c : Nat) (ls : List ByteArray) (hf : ∀ s ∈ ls, ∀ (w : World), Calls Tryz.prog f #[.string s] w fun e w' => e = .returned (.bool (P s)) ∧ Below w.heap.size w w')
    (w : World) (hs : StrSl w a ls) (hlen : ls.length ≤ 9223372036854775807) :
    Calls Tryz.prog 131 #[.slice a ls.length c, .func (.func f) #[] #[]] w fun e w' => e = .returned (.int .i64 (idxOf P ls)) ∧ Below w.heap.size w w' := by
  have HS := Lib.hid hs
  have HF := Lib.hid hf
  clear hs hf
  go_enter Tryz.func131, Tryz.ntmps131
  go_wp2_with fail
  go_loopw [8] (fun i wr => ∃ j : Nat, j ≤ ls.length ∧ i = .int .i64 j ∧ Below w.heap.size w wr ∧ ∀ t (ht : t < j) (hl : t < ls.length), P ls[t] = false) (fun i _ => ls.length - (intOf i).toNat)
  · exact ⟨0, Nat.zero_le _, rfl, Below.refl _ _, fun t ht => by omega⟩
  · obtain ⟨j, hj, rfl, hb, hno⟩ := hrel
    have HB := Lib.hid hb
    have HNO := Lib.hid hno
    clear hb hno
    rcases Nat.lt_or_ge j ls.length with hlt | hge
    · obtain ⟨g, off, rfl, hcell⟩ := (HS.out.below HB.out).at hlt
      obtain ⟨s, hs⟩ : ∃ s, s = ls[j] := ⟨_, rfl⟩
      rw [← hs] at hcell
      have hfs := HF.out s (by rw [hs]; exact List.getElem_mem _)
      have HFS := Lib.hid hfs
      have HSJ := Lib.hid hs
      clear hfs hs
      cases hp : P s with
      | true =>
        have HP := Lib.hid hp; clear hp
        go_wp2_with (refine (HFS.out _).mono ?_; rintro e w2 ⟨rfl, hb2⟩; rw [HP.out])
        go_ret
        refine ⟨?_, below_own' HB.out hb2⟩
        have : ls.findIdx? P = some j := by
          rw [List.findIdx?_eq_some_iff_getElem]
          exact ⟨hlt, by rw [← HSJ.out]; exact HP.out, fun t ht => by rw [HNO.out t ht (by omega)]; simp⟩
        simp only [idxOf, this]
        rfl
      | false =>
        have HP := Lib.hid hp; clear hp
        go_wp2_with (refine (HFS.out _).mono ?_; rintro e w2 ⟨rfl, hb2⟩; rw [HP.out])
        go_roundw
        · refine ⟨j + 1, hlt, by simp, below_own' HB.out hb2, fun t ht hl => ?_⟩
          rcases Nat.lt_or_ge t j with h | h
          · exact HNO.out t h hl
          · have : t = j := by omega
            subst this
            rw [← HSJ.out]; exact HP.out
        · simp [intOf]; omega
    · go_wp2_with fail
      go_ret
      refine ⟨?_, HB.out⟩
      have : ls.findIdx? P = none := by
        rw [List.findIdx?_eq_none_iff]
        intro x hx
        obtain ⟨t, ht, rfl⟩ := List.getElem_of_mem hx
        exact HNO.out t (by omega) ht
      simp only [idxOf, this]
      rfl

set_option maxRecDepth 100000 in
theorem containsFunc_any (P : ByteArray → Bool) (f : Nat) (hin : ∀ args w, (callFunc f args).run Tryz.prog w = .ok (.enter f args) w)
    (a : Option Addr) (c : Nat) (ls : List ByteArray) (hf : ∀ s ∈ ls, ∀ (w : World), Calls Tryz.prog f #[.string s] w fun e w' => e = .returned (.bool (P s)) ∧ Below w.heap.size w w')
    (w : World) (hs : StrSl w a ls) (hlen : ls.length ≤ 9223372036854775807) :
    Calls Tryz.prog 97 #[.slice a ls.length c, .func (.func f) #[] #[]] w fun e w' => e = .returned (.bool (ls.any P)) ∧ Below w.heap.size w w' := by
  have HI := Lib.hid (indexFunc_any P f hin a c ls hf w hs hlen)
  clear hf hs
  obtain ⟨i, hi⟩ : ∃ i, i = idxOf P ls := ⟨_, rfl⟩
  have hany : decide (0 ≤ i) = ls.any P := by
    rw [hi, idxOf]
    split
    · rename_i n hn
      rw [List.findIdx?_eq_some_iff_getElem] at hn
      obtain ⟨h1, h2, -⟩ := hn
      rw [Bool.eq_iff_iff]
      simp
      exact ⟨_, List.getElem_mem h1, h2⟩
    · rename_i hn
      rw [List.findIdx?_eq_none_iff] at hn
      rw [Bool.eq_iff_iff]
      simp
      exact hn
  rw [← hany]
  have HA := Lib.hid hi
  clear hi hany
  go_enter Tryz.func97, Tryz.ntmps97
  go_wp2_with (go_at_call 131; refine HI.out.mono ?_; rintro e w2 ⟨rfl, hb2⟩; rw [← HA.out])
  go_ret
  exact ⟨rfl, hb2⟩

/-- A type that is wrong. -/
def badTy (s : ByteArray) : Bool := decide ((askAny s.data.toList).2 ≠ 0)
set_option maxRecDepth 100000 in
theorem split1_any (s : ByteArray) (hs : s.size ≤ 140737488355328) (w : World) : Calls Tryz.prog 98 #[.string s] w fun e w' => e = .returned (.bool (badTy s)) ∧ Below w.heap.size w w' := by
  obtain ⟨n, hn⟩ : ∃ n, n = (askAny s.data.toList).2 := ⟨_, rfl⟩
  rw [show badTy s = decide (n ≠ 0) from by rw [badTy, hn]]
  have HN := Lib.hid hn; clear hn
  go_enter Tryz.func98, Tryz.ntmps98
  go_wp2_with (go_at_call 99; refine (check_any _ _ hs).mono ?_; rintro e w2 ⟨rfl, hb2⟩; rw [← HN.out])
  go_ret
  refine ⟨?_, hb2⟩
  show Ending.returned (.bool ((n : Int) != 0)) = _
  congr 2
  rw [Bool.eq_iff_iff]; simp
set_option maxRecDepth 100000 in
theorem join1_any (s : ByteArray) (hs : s.size ≤ 140737488355328) (w : World) : Calls Tryz.prog 156 #[.string s] w fun e w' => e = .returned (.bool (badTy s)) ∧ Below w.heap.size w w' := by
  obtain ⟨n, hn⟩ : ∃ n, n = (askAny s.data.toList).2 := ⟨_, rfl⟩
  rw [show badTy s = decide (n ≠ 0) from by rw [badTy, hn]]
  have HN := Lib.hid hn; clear hn
  go_enter Tryz.func156, Tryz.ntmps156
  go_wp2_with (go_at_call 99; refine (check_any _ _ hs).mono ?_; rintro e w2 ⟨rfl, hb2⟩; rw [← HN.out])
  go_ret
  refine ⟨?_, hb2⟩
  show Ending.returned (.bool ((n : Int) != 0)) = _
  congr 2
  rw [Bool.eq_iff_iff]; simp
theorem contains_split (a : Option Addr) (c : Nat) (ls : List ByteArray) (w : World) (hs : StrSl w a ls) (hlen : ls.length ≤ 9223372036854775807) (hl : ∀ s ∈ ls, s.size ≤ 140737488355328) :
    Calls Tryz.prog 97 #[.slice a ls.length c, .func (.func 98) #[] #[]] w fun e w' => e = .returned (.bool (ls.any badTy)) ∧ Below w.heap.size w w' :=
  containsFunc_any badTy _ (fun args w => callFunc_enters Tryz.func98 (by kernel_rfl) rfl args w) a c ls (fun s hm w => split1_any s (hl s hm) w) w hs hlen
theorem contains_join (a : Option Addr) (c : Nat) (ls : List ByteArray) (w : World) (hs : StrSl w a ls) (hlen : ls.length ≤ 9223372036854775807) (hl : ∀ s ∈ ls, s.size ≤ 140737488355328) :
    Calls Tryz.prog 97 #[.slice a ls.length c, .func (.func 156) #[] #[]] w fun e w' => e = .returned (.bool (ls.any badTy)) ∧ Below w.heap.size w w' :=
  containsFunc_any badTy _ (fun args w => callFunc_enters Tryz.func156 (by kernel_rfl) rfl args w) a c ls (fun s hm w => join1_any s (hl s hm) w) w hs hlen
end Go.Proofs.YtmepjbjmjbpchaaGreatDoor
end
section
/- Package types: Join. -/
namespace Go.Proofs.YtmepjbjmjbpchaaGreatDoor
open Go Go.RowKit Go.Sort
set_option linter.unusedVariables false
set_option linter.unusedSimpArgs false

theorem elemOf_len9 {l : List UInt8} {q : Pd} (h : elemOf l = some q) : l.length ≤ 9 := by
  unfold elemOf at h
  split at h
  · rename_i h1; rw [h1]; decide
  · split at h
    · split at h
      · rename_i n hn
        unfold numOf at hn
        split at hn
        · cases hn
        · rename_i h2
          have : l.tail.length ≤ 8 := by omega
          simp at this; omega
      · cases h
    · cases h
theorem shapeP_len : ∀ (m : Nat) (l : List UInt8) (ext : List Nat) (r : List Nat × Nat), l.length ≤ m → shapeP ext (partsOf l) = some r → ext.length ≤ 3 → l.length ≤ 9 + 9 * (3 - ext.length)
  | m, l, ext, r, hm, h, hl => by
    by_cases h0 : l = [105, 110, 100, 101, 120] ∨ cutOf 120 l = none
    · rw [partsOf_last h0] at h
      simp only [shapeP] at h
      split at h
      · rename_i e he; have := elemOf_len9 he; omega
      · cases h
    · cases hc : cutOf 120 l with
      | none => exact absurd (.inr hc) h0
      | some p =>
        obtain ⟨x, y⟩ := p
        have hlen := cutOf_len hc
        obtain ⟨m', rfl⟩ : ∃ m', m = m' + 1 := ⟨m - 1, by omega⟩
        rw [partsOf_more (fun h => h0 (.inl h)) hc] at h
        simp only [shapeP] at h
        split at h
        · rename_i n hn
          have hx : x.length ≤ 8 := by
            unfold numOf at hn
            split at hn
            · cases hn
            · omega
          split at h
          · rename_i hcnd
            have := shapeP_len m' y _ r (by omega) h (by simp; omega)
            simp at this; omega
          · cases h
        · cases h
theorem readOf_len {l : List UInt8} {q : Pd} (h : readOf l = some q) : l.length ≤ 60 := by
  have hfor : ∀ {l : List UInt8} {q : Pd}, foreignOf l = some q → l.length ≤ 60 := fun {l q} h => by
    unfold foreignOf at h
    split at h
    · rename_i h1; exact h1.2
    · cases h
  have hsh : ∀ {k : Nat} {q : Pd}, shapeOf k ((l.take (l.length - 1)).drop 4) = some q → l.length ≤ 60 := fun {k q} h => by
    unfold shapeOf at h
    rw [Option.map_eq_some_iff] at h
    obtain ⟨r, hr, -⟩ := h
    have := shapeP_len _ _ _ _ (Nat.le_refl _) hr (by simp)
    simp at this; omega
  unfold readOf at h
  split at h
  · rename_i p hp
    have := elemOf_len9 hp; omega
  · split at h
    · split at h
      · exact hsh h
      · split at h
        · exact hsh h
        · exact hfor h
    · exact hfor h
theorem goodTy_len {s : ByteArray} (h : badTy s = false) : s.data.toList.length ≤ 60 := by
  unfold badTy at h
  simp only [decide_eq_false_iff_not, Decidable.not_not] at h
  exact readOf_len (askOf_zero h).1
theorem lens_le (b : Nat) : ∀ (xs : List (List UInt8)), (∀ x ∈ xs, x.length ≤ b) → Lib.lens xs ≤ b * xs.length
  | [], _ => by simp [Lib.lens]
  | x :: r, h => by
    have h1 := lens_le b r fun y hy => h y (by simp [hy])
    have h2 := h x (by simp)
    have : Lib.lens (x :: r) = x.length + Lib.lens r := by simp [Lib.lens]
    rw [this]
    simp [Nat.mul_add]; omega
theorem join_le {ls : List ByteArray} (h : ls.any badTy = false) (hn : ls.length ≤ 100) : (Lib.join (ls.map (·.data.toList)) [44, 32]).length ≤ 10000 := by
  cases ls with
  | nil => simp [Lib.join_nil]
  | cons x r =>
    rw [List.map_cons, Lib.join_length]
    have := lens_le 60 ((x :: r).map (·.data.toList)) (by
      intro y hy
      rw [List.mem_map] at hy
      obtain ⟨z, hz, rfl⟩ := hy
      rw [List.any_eq_false] at h
      exact goodTy_len (by simpa using h z hz))
    rw [List.map_cons] at this
    simp at this hn ⊢
    omega
/-- `types.Join`. -/
def joinOf (ls : List ByteArray) : List UInt8 × Nat :=
  if ls.any badTy then ([], 10) else if 100 < ls.length then ([], 2) else (40 :: Lib.join (ls.map (·.data.toList)) [44, 32] ++ [41], 0)
theorem join_sl {w : World} {a : Option Addr} {ls : List ByteArray} (h : StrSl w a ls) (c : Nat) (hc : ls.length ≤ c) (hN : ls.length ≤ 100) (hl : (Lib.join (ls.map (·.data.toList)) [44, 32]).length ≤ 10000) :
    Calls Tryz.prog 79 #[.slice a ls.length c, .string ⟨#[44, 32]⟩] w fun e w' => ∃ t : ByteArray, e = .returned (.string t) ∧ Hid (t.data.toList = Lib.join (ls.map (·.data.toList)) [44, 32]) ∧ t.size ≤ 10000 ∧ Below w.heap.size w w' := by
  rcases h with rfl | ⟨g, off, rfl, h2, h3⟩
  · exact (Tryz.strings_Join_none a c ⟨#[44, 32]⟩ w).mono fun e w' ⟨he, hw⟩ => ⟨_, he, rfl, by simp [ByteArray.size], by rw [hw]; exact Below.refl _ _⟩
  · refine (Tryz.strings_Join g off c ls ⟨#[44, 32]⟩ w (fun j x hx => ?_) h2 (by omega) hc (by simpa using Nat.le_trans hl (by decide))).mono fun e w' ⟨he, hb⟩ => ⟨_, he, rfl, ?_, hb⟩
    · obtain ⟨hj, rfl⟩ := List.getElem?_eq_some_iff.1 hx
      exact h3 j hj
    · simpa [ByteArray.size] using hl
set_option maxRecDepth 100000 in
set_option maxHeartbeats 2000000 in
theorem joinT_any (a : Option Addr) (c : Nat) (ls : List ByteArray) (w : World) (hs : StrSl w a ls) (hlen : ls.length ≤ 9223372036854775807) (hc : ls.length ≤ c) (hl : ∀ s ∈ ls, s.size ≤ 140737488355328) :
    Calls Tryz.prog 138 #[.slice a ls.length c] w fun e w' => e = .returned (.tuple #[.string ⟨(joinOf ls).1.toArray⟩, .int .i64 (joinOf ls).2]) ∧ Below w.heap.size w w' := by
  have HC := Lib.hid (contains_join a c ls w hs hlen hl)
  have HS := Lib.hid hs
  clear hs hl
  cases hb : ls.any badTy with
  | true =>
    have hj : joinOf ls = ([], 10) := by rw [joinOf, if_pos hb]
    rw [hj]
    have HB := Lib.hid hb; clear hb hj
    go_enter Tryz.func138, Tryz.ntmps138
    go_wp2_with (go_at_call 97; refine HC.out.mono ?_; rintro e w1 ⟨rfl, hb1⟩; rw [HB.out])
    go_ret2
    exact ⟨rfl, hb1⟩
  | false =>
    by_cases hn : 100 < ls.length
    · have hj : joinOf ls = ([], 2) := by rw [joinOf, if_neg (by rw [hb]; simp), if_pos hn]
      rw [hj]
      have HB := Lib.hid hb; clear hb hj
      have hn' : (100 : Int) < (ls.length : Int) := by omega
      go_enter Tryz.func138, Tryz.ntmps138
      go_wp2_with (go_at_call 97; refine HC.out.mono ?_; rintro e w1 ⟨rfl, hb1⟩; rw [HB.out])
      go_ret2
      exact ⟨rfl, hb1⟩
    · have hj : joinOf ls = (40 :: Lib.join (ls.map (·.data.toList)) [44, 32] ++ [41], 0) := by rw [joinOf, if_neg (by rw [hb]; simp), if_neg hn]
      rw [hj]
      have HJ := Lib.hid (join_le hb (by omega))
      have HB := Lib.hid hb; clear hb hj
      have hn' : (ls.length : Int) ≤ 100 := by omega
      go_enter Tryz.func138, Tryz.ntmps138
      go_wp2_with (first
        | (go_at_call 97; refine HC.out.mono ?_; rintro e w1 ⟨rfl, hb1⟩; rw [HB.out])
        | (go_at_call 79; refine (join_sl (HS.out.below hb1) c hc (by omega) HJ.out).mono ?_; rintro e w2 ⟨t, rfl, ht, htl, hb2⟩))
      go_ret2
      refine ⟨?_, below_own' hb1 hb2⟩
      have e1 : (⟨#[40]⟩ ++ t ++ ⟨#[41]⟩ : ByteArray) = ⟨(40 :: Lib.join (ls.map fun x : ByteArray => x.data.toList) [44, 32] ++ [41]).toArray⟩ := by
        apply ByteArray.ext
        rw [← ht.out]
        apply Array.ext'
        simp
      exact congrArg (fun t => Ending.returned (.tuple #[.string t, .int .i64 0])) e1
end Go.Proofs.YtmepjbjmjbpchaaGreatDoor
end
section
/- Slices of integers that are read. -/
namespace Go.Proofs.YtmepjbjmjbpchaaGreatDoor
open Go Go.RowKit
set_option linter.unusedVariables false
set_option linter.unusedSimpArgs false

/-- A slice of ints that is read. -/
def IntSl (w : World) (a : Option Addr) (zs : List Int) : Prop :=
  zs = [] ∨ ∃ g off, a = some ⟨g, off, none⟩ ∧ g < w.heap.size ∧ ∀ j, j < zs.length → w.cell? ⟨g, off + j, none⟩ = some (.int .i64 (zs.getD j 0))
theorem IntSl.below {w w1 : World} {a : Option Addr} {zs : List Int} (h : IntSl w a zs) (hb : Below w.heap.size w w1) : IntSl w1 a zs := by
  rcases h with h | ⟨g, off, h1, h2, h3⟩
  · exact .inl h
  · exact .inr ⟨g, off, h1, Nat.lt_of_lt_of_le h2 hb.size, fun j hj => (rdCell hb g h2 (off + j)).trans (h3 j hj)⟩
theorem IntSl.at {w : World} {a : Option Addr} {zs : List Int} (h : IntSl w a zs) {j : Nat} (hj : j < zs.length) : ∃ g off, a = some ⟨g, off, none⟩ ∧ g < w.heap.size ∧ w.cell? ⟨g, off + j, none⟩ = some (.int .i64 (zs.getD j 0)) := by
  rcases h with rfl | ⟨g, off, h1, h2, h3⟩
  · simp at hj
  · exact ⟨g, off, h1, h2, h3 j hj⟩
end Go.Proofs.YtmepjbjmjbpchaaGreatDoor
end
section
/- Attributes as plain data, what is right of them, and how they lie in memory. -/
namespace Go.Proofs.YtmepjbjmjbpchaaGreatDoor
open Go Go.RowKit
set_option linter.unusedVariables false
set_option linter.unusedSimpArgs false

/-- An attribute as plain data (and where its lists lie). -/
structure Atr where
  name : ByteArray
  kind : Int
  num : Int
  text : ByteArray
  ia : Option Addr
  ints : List Int
  ic : Nat
  ta : Option Addr
  texts : List ByteArray
  tc : Nat
/-- An attribute as the program's value. -/
abbrev av (nm : ByteArray) (k n : Int) (tx : ByteArray) (ia : Option Addr) (il ic : Nat) (ta : Option Addr) (tl tc : Nat) : Value :=
  .agg #[.string nm, .int .i64 k, .int .i64 n, .string tx, .slice ia il ic, .slice ta tl tc]
abbrev avCells (nm : ByteArray) (k n : Int) (tx : ByteArray) (ia : Option Addr) (il ic : Nat) (ta : Option Addr) (tl tc : Nat) : Array Value :=
  #[.string nm, .int .i64 k, .int .i64 n, .string tx, .slice ia il ic, .slice ta tl tc]
abbrev Atr.val (a : Atr) : Value := av a.name a.kind a.num a.text a.ia a.ints.length a.ic a.ta a.texts.length a.tc
def Atr.cells (a : Atr) : List Value := [.string a.name, .int .i64 a.kind, .int .i64 a.num, .string a.text, .slice a.ia a.ints.length a.ic, .slice a.ta a.texts.length a.tc]
/-- Its lists lie in memory. -/
structure Atr.Lies (w : World) (a : Atr) : Prop where
  ints : IntSl w a.ia a.ints
  texts : StrSl w a.ta a.texts
theorem Atr.Lies.below {w w1 : World} {a : Atr} (h : a.Lies w) (hb : Below w.heap.size w w1) : a.Lies w1 := ⟨h.ints.below hb, h.texts.below hb⟩
/-- Its sizes are those of a machine. -/
structure Atr.Fits (a : Atr) : Prop where
  name : a.name.size ≤ 140737488351232
  text : a.text.size ≤ 140737488351232
  num : -9223372036854775808 ≤ a.num ∧ a.num ≤ 9223372036854775807
  kind : -9223372036854775808 ≤ a.kind ∧ a.kind ≤ 9223372036854775807
  intsC : a.ints.length ≤ a.ic
  ints : ∀ z ∈ a.ints, -9223372036854775808 ≤ z ∧ z ≤ 9223372036854775807
  il : a.ints.length * 8 ≤ 140737488351232
  textsC : a.texts.length ≤ a.tc
  texts : ∀ s ∈ a.texts, s.size ≤ 140737488351232
  tl : a.texts.length * 16 ≤ 140737488351232

def isTyB (s : ByteArray) : Bool := (readOf s.data.toList).isSome
def noListsB (il tl : Nat) : Bool := ((il : Int) == 0) && ((tl : Int) == 0)
def noTextB (tx : ByteArray) (il tl : Nat) : Bool := tx.toList.isEmpty && noListsB il tl
def noNumB (n : Int) (il tl : Nat) : Bool := (n == 0) && noListsB il tl
def noneOfB (n : Int) (tx : ByteArray) : Bool := (n == 0) && tx.toList.isEmpty
def ownB (a : Atr) : Bool :=
  if a.kind = 0 then true else if a.kind = 1 then decide (a.text.size ≤ 1000) else if a.kind = 2 then nameOf a.text.data.toList
  else if a.kind = 3 then isTyB a.text else if a.kind = 4 then decide (a.ints.length ≤ 100) && (a.texts.length == 0)
  else if a.kind = 5 then decide (a.texts.length ≤ 100) && a.texts.all isTyB && (a.ints.length == 0) else false
def aloneB (a : Atr) : Bool :=
  if a.kind = 0 then noTextB a.text a.ints.length a.texts.length else if a.kind = 1 ∨ a.kind = 2 ∨ a.kind = 3 then noNumB a.num a.ints.length a.texts.length else noneOfB a.num a.text
/-- Whether an attribute is right. -/
def rightA (a : Atr) : Bool := decide (0 ≤ a.kind ∧ a.kind ≤ 5) && nameOf a.name.data.toList && ownB a && aloneB a
/-- The order of strings. -/
def nmLt (s t : ByteArray) : Bool := Op.bytesLess s.toList t.toList
/-- Whether an attribute may stand where it stands. -/
def okAt (l : List Atr) (j : Nat) : Bool :=
  match l[j]? with
  | none => true
  | some a => rightA a && (match j with | 0 => true | k + 1 => match l[k]? with | none => true | some b => nmLt b.name a.name)
def rightL (l : List Atr) : Bool := decide (l.length ≤ 100) && (List.range l.length).all (okAt l)
/-- A slice of attributes that is read. -/
structure AtrSl (w : World) (p : Option Addr) (l : List Atr) : Prop where
  at' : l = [] ∨ ∃ g off, p = some ⟨g, off, none⟩ ∧ g < w.heap.size ∧ ∀ j (hj : j < l.length) (i : Nat), i < 6 → w.cell? ⟨g, off + j * 6 + i, none⟩ = l[j].cells[i]?
  lies : ∀ a ∈ l, a.Lies w
  fits : ∀ a ∈ l, a.Fits
theorem AtrSl.below {w w1 : World} {p : Option Addr} {l : List Atr} (h : AtrSl w p l) (hb : Below w.heap.size w w1) : AtrSl w1 p l := by
  refine ⟨?_, fun a ha => (h.lies a ha).below hb, h.fits⟩
  rcases h.at' with h | ⟨g, off, h1, h2, h3⟩
  · exact .inl h
  · exact .inr ⟨g, off, h1, Nat.lt_of_lt_of_le h2 hb.size, fun j hj i hi => (rdCell hb g h2 _).trans (h3 j hj i hi)⟩
end Go.Proofs.YtmepjbjmjbpchaaGreatDoor
end
section
/- The order of names; cmp.Compare. -/
namespace Go.Proofs.YtmepjbjmjbpchaaGreatDoor
open Go Go.RowKit
set_option linter.unusedVariables false
set_option linter.unusedSimpArgs false

theorem bl_irrefl : ∀ x : List UInt8, Op.bytesLess x x = false
  | [] => rfl
  | a :: x => by simp [Op.bytesLess, bl_irrefl x]
theorem bl_trans : ∀ x y z : List UInt8, Op.bytesLess x y = true → Op.bytesLess y z = true → Op.bytesLess x z = true
  | _, [], _, h, _ => by cases ‹List UInt8› <;> simp [Op.bytesLess] at h
  | _, _ :: _, [], _, h => by simp [Op.bytesLess] at h
  | [], b :: y, c :: z, _, _ => by simp [Op.bytesLess]
  | a :: x, b :: y, c :: z, h1, h2 => by
    simp only [Op.bytesLess, Bool.or_eq_true, Bool.and_eq_true, decide_eq_true_eq, beq_iff_eq] at h1 h2 ⊢
    rcases h1 with h1 | ⟨rfl, h1⟩
    · rcases h2 with h2 | ⟨rfl, h2⟩
      · exact .inl (UInt8.lt_trans h1 h2)
      · exact .inl h1
    · rcases h2 with h2 | ⟨rfl, h2⟩
      · exact .inl h2
      · exact .inr ⟨rfl, bl_trans x y z h1 h2⟩
theorem bl_total : ∀ x y : List UInt8, Op.bytesLess x y = false → Op.bytesLess y x = false → x = y
  | [], [], _, _ => rfl
  | [], b :: y, h, _ => by simp [Op.bytesLess] at h
  | a :: x, [], _, h => by simp [Op.bytesLess] at h
  | a :: x, b :: y, h1, h2 => by
    simp only [Op.bytesLess, Bool.or_eq_false_iff, Bool.and_eq_false_iff, decide_eq_false_iff_not, beq_eq_false_iff_ne] at h1 h2
    have hab : a = b := by
      apply UInt8.toNat_inj.1
      have h3 := h1.1; have h4 := h2.1
      rw [UInt8.lt_iff_toNat_lt] at h3 h4
      omega
    subst hab
    have h3 : Op.bytesLess x y = false := by rcases h1.2 with h | h; exact absurd rfl h; simpa using h
    have h4 : Op.bytesLess y x = false := by rcases h2.2 with h | h; exact absurd rfl h; simpa using h
    rw [bl_total x y h3 h4]
theorem toList_inj {s t : ByteArray} : s.toList = t.toList ↔ s = t := by
  constructor
  · intro h
    rw [ByteArray.toList_eq, ByteArray.toList_eq] at h
    exact ByteArray.ext (Array.ext' h)
  · rintro rfl; rfl
theorem toList_beq (s t : ByteArray) : (s.toList == t.toList) = decide (s = t) := by
  rw [Bool.eq_iff_iff]; simp [toList_inj]
theorem nm_irrefl (s : ByteArray) : nmLt s s = false := bl_irrefl _
theorem nm_trans {s t u : ByteArray} (h1 : nmLt s t = true) (h2 : nmLt t u = true) : nmLt s u = true := bl_trans _ _ _ h1 h2
theorem nm_total {s t : ByteArray} (h1 : nmLt s t = false) (h2 : nmLt t s = false) : s = t := toList_inj.1 (bl_total _ _ h1 h2)
theorem nm_asymm {s t : ByteArray} (h1 : nmLt s t = true) : nmLt t s = false := by
  cases h : nmLt t s with
  | false => rfl
  | true => have := nm_trans h1 h; rw [nm_irrefl] at this; cases this
/-- cmp.Compare at strings. -/
def nmCmp (s t : ByteArray) : Int := if nmLt s t then -1 else if nmLt t s then 1 else 0

theorem isNaN_any (s : ByteArray) (w : World) : Calls Tryz.prog 80 #[.string s] w fun e w' => e = .returned (.bool false) ∧ w = w' := by
  go_enter Tryz.func80, Tryz.ntmps80
  go_wp2_with fail
  go_ret
  exact ⟨by simp, rfl⟩
theorem compare_any (s t : ByteArray) (w : World) : Calls Tryz.prog 56 #[.string s, .string t] w fun e w' => e = .returned (.int .i64 (nmCmp s t)) ∧ w = w' := by
  have h3 : (nmLt s t = true) ∨ (nmLt s t = false ∧ s ≠ t ∧ nmLt t s = true) ∨ (nmLt s t = false ∧ s = t) := by
    cases h : nmLt s t
    · cases h2 : nmLt t s
      · exact .inr (.inr ⟨rfl, nm_total h h2⟩)
      · refine .inr (.inl ⟨rfl, ?_, rfl⟩)
        rintro rfl; rw [h] at h2; cases h2
    · exact .inl rfl
  rcases h3 with h | ⟨h, h2, h3⟩ | ⟨h, rfl⟩
  · have hv : Hid (nmCmp s t = -1) := Lib.hid (by unfold nmCmp; rw [if_pos h])
    have hb : Op.bytesLess s.toList t.toList = true := h
    clear h
    go_enter Tryz.func56, Tryz.ntmps56
    go_wp2_with (go_at_call 80; refine (isNaN_any _ _).mono ?_; rintro e w1 ⟨rfl, rfl⟩)
    go_ret
    exact ⟨by rw [hv.out]; rfl, rfl⟩
  · have hv : Hid (nmCmp s t = 1) := Lib.hid (by unfold nmCmp; rw [if_neg (by rw [h]; simp), if_pos h3])
    have hb : Op.bytesLess s.toList t.toList = false := h
    have he : (s.toList == t.toList) = false := by rw [toList_beq]; simpa using h2
    clear h h2 h3
    go_enter Tryz.func56, Tryz.ntmps56
    go_wp2_with (go_at_call 80; refine (isNaN_any _ _).mono ?_; rintro e w1 ⟨rfl, rfl⟩)
    go_ret
    exact ⟨by rw [hv.out]; rfl, rfl⟩
  · have hv : Hid (nmCmp s s = 0) := Lib.hid (by unfold nmCmp; rw [nm_irrefl]; simp)
    have hb : Op.bytesLess s.toList s.toList = false := h
    clear h
    go_enter Tryz.func56, Tryz.ntmps56
    go_wp2_with (go_at_call 80; refine (isNaN_any _ _).mono ?_; rintro e w1 ⟨rfl, rfl⟩)
    go_ret
    exact ⟨by rw [hv.out]; rfl, rfl⟩
end Go.Proofs.YtmepjbjmjbpchaaGreatDoor
end
section
/- slices.Clone at []int64 and []string. -/
namespace Go.Proofs.YtmepjbjmjbpchaaGreatDoor
open Go Go.RowKit Go.Sort
set_option linter.unusedVariables false
set_option linter.unusedSimpArgs false

theorem getD_at' {α : Type} (d : α) {x : List α} {j : Nat} (h : j < x.length) : x.getD j d = x[j] := by
  rw [List.getD_eq_getElem?_getD, List.getElem?_eq_getElem h, Option.getD_some]
def ClonedI (zs : List Int) (w : World) (e : Ending) (w' : World) : Prop := ∃ a' c', e = .returned (.slice a' zs.length c') ∧ IntSl w' a' zs ∧ zs.length ≤ c' ∧ (∀ x, a' = some x → w.heap.size ≤ x.block ∧ x.block < w'.heap.size) ∧ Below w.heap.size w w'
def ClonedS (zs : List ByteArray) (w : World) (e : Ending) (w' : World) : Prop := ∃ a' c', e = .returned (.slice a' zs.length c') ∧ StrSl w' a' zs ∧ zs.length ≤ c' ∧ (∀ x, a' = some x → w.heap.size ≤ x.block ∧ x.block < w'.heap.size) ∧ Below w.heap.size w w'
theorem own_form {w : World} {base : Nat} {T : TypeId} {sz n : Nat} {v : Value} {xs : List Value} (h : w.ownsRow base T sz v n xs) : ∃ a c, v = .slice a n c ∧ n ≤ c ∧ ∀ x, a = some x → base ≤ x.block ∧ x.block < w.heap.size := by
  rcases h.2 with ⟨h1, h2⟩ | ⟨g, cap, cur, h1, hbg, hg2, h4, _⟩
  · exact ⟨none, 0, by rw [h1, h2], by omega, by simp⟩
  · exact ⟨_, cap, h1, h4, fun x hx => by cases hx; exact ⟨hbg, blkLt hg2⟩⟩
theorem own_ints {w : World} {base : Nat} {T : TypeId} {a : Option Addr} {n c : Nat} {zs : List Int} (h : w.ownsRow base T 1 (.slice a n c) n (zs.map (.int .i64))) : IntSl w a zs := by
  rcases h.2 with ⟨h1, h2⟩ | ⟨g, cap, cur, h1, hb, h2, h4, h5, h6, h7⟩
  · left; have := h.1; rw [h2] at this; simpa using this
  · cases h1
    refine .inr ⟨g, 0, rfl, blkLt h2, fun j hj => ?_⟩
    rw [blkCell h2]
    have hn : zs.length = n := by have := h.1; simpa using this
    have : cur.toList[j]? = (zs.map (Value.int .i64))[j]? := by
      rw [← h7, List.getElem?_take, if_pos (by omega)]
    rw [Nat.zero_add, ← Array.getElem?_toList, this, getD_at' _ hj]
    simp [hj]
theorem own_strs {w : World} {base : Nat} {T : TypeId} {a : Option Addr} {n c : Nat} {zs : List ByteArray} (h : w.ownsRow base T 1 (.slice a n c) n (zs.map .string)) : StrSl w a zs := by
  rcases h.2 with ⟨h1, h2⟩ | ⟨g, cap, cur, h1, hb, h2, h4, h5, h6, h7⟩
  · left; have := h.1; rw [h2] at this; simpa using this
  · cases h1
    refine .inr ⟨g, 0, rfl, blkLt h2, fun j hj => ?_⟩
    rw [blkCell h2]
    have hn : zs.length = n := by have := h.1; simpa using this
    have : cur.toList[j]? = (zs.map Value.string)[j]? := by
      rw [← h7, List.getElem?_take, if_pos (by omega)]
    rw [Nat.zero_add, ← Array.getElem?_toList, this]
    simp [hj]

set_option maxRecDepth 100000 in
set_option maxHeartbeats 4000000 in
theorem cloneI_any (a : Option Addr) (c : Nat) (zs : List Int) (w : World) (hlen : zs.length * 8 ≤ 140737488351232) (hs : IntSl w a zs) :
    Calls Tryz.prog 67 #[.slice a zs.length c] w (ClonedI zs w) := by
  obtain ⟨i0, hin, hz0, hz1, hz2⟩ := info_parts (show (Tryz.prog.info? 2).map (fun i => (i.zero, i.size, i.bytes)) = some (some (.int .i64 0), 1, 8) by kernel_rfl)
  have hcell : ∀ x, a = some x → ∀ j, j < zs.length → w.cell? (x.add j) = some (.int .i64 (zs.getD j 0)) ∧ x.block < w.heap.size := by
    rintro x rfl j hj
    rcases hs with rfl | ⟨g, off, he, hg, hc⟩
    · simp at hj
    · cases he
      have hadd : (⟨g, off, none⟩ : Addr).add j = ⟨g, off + j, none⟩ := by unfold Addr.add; simp
      rw [hadd]; exact ⟨hc j hj, hg⟩
  have hnone : a = none → zs = [] := by
    rintro rfl
    rcases hs with h | ⟨g, off, he, _⟩
    · exact h
    · cases he
  have HC := Lib.hid hcell
  clear hcell hs
  cases a with
  | none =>
    obtain rfl := hnone rfl
    clear hnone HC
    go_enter Tryz.func67, Tryz.ntmps67
    have hnil := Lib.run_eql_slice_nil w 24 2 none 0 c 0 0 Tryz.underlying24
    go_wp2_with fail
    go_ret
    exact ⟨none, 0, rfl, .inl rfl, by simp, by simp, Below.refl _ _⟩
  | some x =>
    clear hnone
    have hnil := Lib.run_eql_slice_nil w 24 2 (some x) zs.length c 0 0 Tryz.underlying24
    go_enter Tryz.func67, Tryz.ntmps67
    have hown0 : (w.alloc (.cells #[] 2)).ownsRow w.heap.size 2 1 (.slice (some ⟨w.heap.size, 0, none⟩) 0 0) 0 [] := ⟨rfl, .inr ⟨w.heap.size, 0, #[], rfl, Nat.le_refl _, heap_alloc_new _ _, Nat.le_refl _, by unfold maxLen; omega, rfl, rfl⟩⟩
    have HOWN := Lib.hid hown0
    clear hown0
    go_wp2_with (at_builtin; refine wpList_append_own _ rfl _ _ 24 rfl w.heap.size 2 i0 (.int .i64 0) 1 8 Tryz.underlying24 hin hz0 hz1 hz2 rfl (by decide) _ _ _ rfl HOWN.out x zs.length c (zs.map (.int .i64)) rfl ?c0 ?c1 ?c2 ?c3 ?c4 ?c5 ?_)
    case c0 => simp
    case c1 =>
      intro t u hj
      rw [List.getElem?_map] at hj
      obtain ⟨y, hy, rfl⟩ := Option.map_eq_some_iff.1 hj
      obtain ⟨hl, rfl⟩ := List.getElem?_eq_some_iff.1 hy
      have h1 := HC.out x rfl t hl
      rw [getD_at' _ hl] at h1
      exact (((Below.refl w.heap.size w).alloc (Nat.le_refl _) _).cell (p := x.add t) (by unfold Addr.add; split <;> exact h1.2)).trans h1.1
    case c2 => intro u hu; simp only [List.mem_map] at hu; obtain ⟨y, -, rfl⟩ := hu; rfl
    case c3 => unfold maxLen; omega
    case c4 => omega
    case c5 => simp
    intro v' w3 hown' hgrow _
    have HOWN3 := Lib.hid hown'
    have HB3 := Lib.hid ((belowA (Below.refl w.heap.size w) (.cells #[] 2)).grown hgrow (by simp) (fun k hk => (HOWN.out.lt k hk).1))
    obtain ⟨a', c', rfl, hcap, hfr⟩ := own_form hown'
    clear hown'
    go_wp2_with fail
    go_ret
    exact ⟨a', c', by simp, own_ints (by simpa using HOWN3.out), by simpa using hcap, hfr, HB3.out⟩
theorem cloneS_any (a : Option Addr) (c : Nat) (zs : List ByteArray) (w : World) (hlen : zs.length * 16 ≤ 140737488351232) (hs : StrSl w a zs) :
    Calls Tryz.prog 68 #[.slice a zs.length c] w (ClonedS zs w) := by
  rcases hs with rfl | ⟨g, off, rfl, hg, hc⟩
  · cases a with
    | none => exact (Tryz.slices_Clone_string_nil 0 c w).mono fun e w' ⟨he, hw⟩ => ⟨none, 0, he, .inl rfl, by simp, by simp, by rw [hw]; exact Below.refl _ _⟩
    | some x =>
      refine (Tryz.slices_Clone_string_zero x c w).mono ?_
      rintro e w' ⟨v, he, ho, _, hb⟩
      obtain ⟨a', c', rfl, hcap, hfr⟩ := own_form ho
      exact ⟨a', c', he, .inl rfl, hcap, hfr, hb⟩
  · refine (Tryz.slices_Clone_string g off zs.length c zs w (Nat.le_refl _) (by omega) (fun j hj => by rw [hc j hj, getD_at' _ hj])).mono fun e w' ⟨v, he, ho, _, hb⟩ => ?_
    rw [List.take_length] at ho
    obtain ⟨a', c', rfl, hcap, hfr⟩ := own_form ho
    exact ⟨a', c', he, own_strs ho, hcap, hfr, hb⟩
end Go.Proofs.YtmepjbjmjbpchaaGreatDoor
end
section
/- Package attrs: the small methods, and the table of kinds. -/
namespace Go.Proofs.YtmepjbjmjbpchaaGreatDoor
open Go Go.RowKit
set_option linter.unusedVariables false
set_option linter.unusedSimpArgs false

section
variable (nm : ByteArray) (k n : Int) (tx : ByteArray) (ia : Option Addr) (il ic : Nat) (ta : Option Addr) (tl tc : Nat) (w : World)
theorem always_any : Calls Tryz.prog 100 #[av nm k n tx ia il ic ta tl tc] w fun e w' => e = .returned (.bool true) ∧ Below w.heap.size w w' := by
  go_enter Tryz.func100, Tryz.ntmps100
  go_wp2_with fail
  go_ret
  exact ⟨rfl, (Below.refl _ w).alloc (Nat.le_refl _) _⟩
theorem noLists_any : Calls Tryz.prog 135 #[av nm k n tx ia il ic ta tl tc] w fun e w' => e = .returned (.bool (noListsB il tl)) ∧ Below w.heap.size w w' := by
  unfold noListsB
  cases h : ((il : Int) == 0)
  all_goals
    go_enter Tryz.func135, Tryz.ntmps135
    go_wp2_with fail
    all_goals (go_ret; exact ⟨by simp, (Below.refl _ w).alloc (Nat.le_refl _) _⟩)
theorem noText_any : Calls Tryz.prog 101 #[av nm k n tx ia il ic ta tl tc] w fun e w' => e = .returned (.bool (noTextB tx il tl)) ∧ Below w.heap.size w w' := by
  unfold noTextB
  cases h : tx.toList.isEmpty
  all_goals
    go_enter Tryz.func101, Tryz.ntmps101
    go_wp2_with (go_at_call 135; refine (noLists_any _ _ _ _ _ _ _ _ _ _ _).mono ?_; rintro e w1 ⟨rfl, hb1⟩)
    all_goals (go_ret; first | exact ⟨by simp, (Below.refl _ w).alloc (Nat.le_refl _) _⟩ | exact ⟨by simp, below_own hb1⟩)
theorem noNumber_any : Calls Tryz.prog 104 #[av nm k n tx ia il ic ta tl tc] w fun e w' => e = .returned (.bool (noNumB n il tl)) ∧ Below w.heap.size w w' := by
  unfold noNumB
  cases h : (n == 0)
  all_goals
    go_enter Tryz.func104, Tryz.ntmps104
    go_wp2_with (go_at_call 135; refine (noLists_any _ _ _ _ _ _ _ _ _ _ _).mono ?_; rintro e w1 ⟨rfl, hb1⟩)
    all_goals (go_ret; first | exact ⟨by simp, (Below.refl _ w).alloc (Nat.le_refl _) _⟩ | exact ⟨by simp, below_own hb1⟩)
theorem noneOf_any : Calls Tryz.prog 111 #[av nm k n tx ia il ic ta tl tc] w fun e w' => e = .returned (.bool (noneOfB n tx)) ∧ Below w.heap.size w w' := by
  unfold noneOfB
  cases h : (n == 0)
  all_goals
    go_enter Tryz.func111, Tryz.ntmps111
    go_wp2_with fail
    all_goals (go_ret; exact ⟨by simp, (Below.refl _ w).alloc (Nat.le_refl _) _⟩)
theorem isText_any : Calls Tryz.prog 103 #[av nm k n tx ia il ic ta tl tc] w fun e w' => e = .returned (.bool (decide (tx.size ≤ 1000))) ∧ Below w.heap.size w w' := by
  go_enter Tryz.func103, Tryz.ntmps103
  go_wp2_with fail
  all_goals (go_ret; exact ⟨by simp; omega, (Below.refl _ w).alloc (Nat.le_refl _) _⟩)
theorem isSymbol_any : Calls Tryz.prog 106 #[av nm k n tx ia il ic ta tl tc] w fun e w' => e = .returned (.bool (nameOf tx.data.toList)) ∧ Below w.heap.size w w' := by
  go_enter Tryz.func106, Tryz.ntmps106
  go_wp2_with (go_at_call 42; refine (isName_any _ _).mono ?_; rintro e w1 ⟨rfl, rfl⟩)
  all_goals (go_ret; exact ⟨rfl, (Below.refl _ w).alloc (Nat.le_refl _) _⟩)
theorem isInts_any : Calls Tryz.prog 110 #[av nm k n tx ia il ic ta tl tc] w fun e w' => e = .returned (.bool (decide ((il : Int) ≤ 100) && ((tl : Int) == 0))) ∧ Below w.heap.size w w' := by
  cases h : decide ((il : Int) ≤ 100)
  all_goals
    go_enter Tryz.func110, Tryz.ntmps110
    go_wp2_with fail
    all_goals (go_ret; exact ⟨by simp, (Below.refl _ w).alloc (Nat.le_refl _) _⟩)
theorem isType_any (hs : tx.size ≤ 140737488355328) : Calls Tryz.prog 108 #[av nm k n tx ia il ic ta tl tc] w fun e w' => e = .returned (.bool (isTyB tx)) ∧ Below w.heap.size w w' := by
  have hb : (((askAny tx.data.toList).2 : Int) == 0) = isTyB tx := by
    unfold isTyB askAny askOf
    cases readOf tx.data.toList <;> rfl
  have HB := Lib.hid hb
  clear hb
  go_enter Tryz.func108, Tryz.ntmps108
  go_wp2_with (go_at_call 99; refine (check_any _ _ hs).mono ?_; rintro e w1 ⟨rfl, hb1⟩)
  all_goals (go_ret; exact ⟨by rw [← HB.out]; rfl, below_own hb1⟩)
theorem isTypes_any (ls : List ByteArray) (hs : StrSl w ta ls) (hlen : ls.length ≤ 9223372036854775807) (hc : ls.length ≤ tc) (hl : ∀ s ∈ ls, s.size ≤ 140737488355328) :
    Calls Tryz.prog 113 #[av nm k n tx ia il ic ta ls.length tc] w fun e w' => e = .returned (.bool ((((joinOf ls).2 : Int) == 0) && ((il : Int) == 0))) ∧ Below w.heap.size w w' := by
  have hb0 := (Below.refl w.heap.size w).alloc (Nat.le_refl _) (.cells (avCells nm k n tx ia il ic ta ls.length tc) 120)
  have HJ := Lib.hid (joinT_any ta tc ls _ (hs.below hb0) hlen hc hl)
  clear hb0 hs hl
  cases h : (((joinOf ls).2 : Int) == 0)
  all_goals
    have H := Lib.hid h
    clear h
    go_enter Tryz.func113, Tryz.ntmps113
    go_wp2_with (go_at_call 138; refine HJ.out.mono ?_; rintro e w1 ⟨rfl, hb1⟩; have h2 := H.out; have c0 := rdCell hb1 w.heap.size (by simp); clear H)
    all_goals (go_ret; exact ⟨by simp, below_own hb1⟩)
end

abbrev kv (x y z : Nat) : Value := .agg #[.func (.func x) #[] #[], .func (.func y) #[] #[], .func (.func z) #[] #[]]
def kindE : List (Nat × Nat × Nat) := [(100, 101, 102), (103, 104, 105),
  (106, 104, 107), (108, 104, 109),
  (110, 111, 112), (113, 111, 114)]
def kindO (j : Nat) : Obj := .map ((kindE.take j).mapIdx fun i x => ⟨.int .i64 (i : Nat), kv x.1 x.2.1 x.2.2, i⟩).toArray j
theorem kind_step (w : World) (j : Nat) (k : Int) (hk : (j : Int) = k) (x : Nat × Nat × Nat) (hj : kindE[j]? = some x) :
    (Instr.mapUpdate 118 (.map (some w.heap.size)) (.int .i64 k) (kv x.1 x.2.1 x.2.2)).run Tryz.prog (w.alloc (kindO j)) = .ok () (w.alloc (kindO (j + 1))) := by
  subst hk
  have hj6 : j < 6 := (List.getElem?_eq_some_iff.1 hj).1
  have : j = 0 ∨ j = 1 ∨ j = 2 ∨ j = 3 ∨ j = 4 ∨ j = 5 := by omega
  rcases this with rfl | rfl | rfl | rfl | rfl | rfl
  all_goals
    simp only [kindE, List.getElem?_cons_succ, List.getElem?_cons_zero, Option.some.injEq] at hj
    subst hj
    unfold kindO
    rw [run_mapUpdate_new _ Tryz.underlying118 Tryz.underlying23 (run_checkKey_int Tryz.underlying23 _ _ _) rfl (heap_alloc_new w _), World.setIn_alloc]; rfl
set_option maxRecDepth 100000 in
theorem kinds_any (w : World) : Calls Tryz.prog 75 #[] w fun e w' => e = .returned (.map (some w.heap.size)) ∧ w.alloc (kindO 6) = w' := by
  have hmm := @run_makeMap Tryz.prog
  have h0 := kind_step w 0 0 rfl _ rfl; dsimp only at h0
  have h1 := kind_step w 1 1 rfl _ rfl; dsimp only at h1
  have h2 := kind_step w 2 2 rfl _ rfl; dsimp only at h2
  have h3 := kind_step w 3 3 rfl _ rfl; dsimp only at h3
  have h4 := kind_step w 4 4 rfl _ rfl; dsimp only at h4
  have h5 := kind_step w 5 5 rfl _ rfl; dsimp only at h5
  have hk0 : w.alloc (.map #[] 0) = w.alloc (kindO 0) := rfl
  go_enter Tryz.func75, Tryz.ntmps75
  go_wp2_with fail
  go_ret
  exact ⟨rfl, rfl⟩
end Go.Proofs.YtmepjbjmjbpchaaGreatDoor
end
section
/- attrs.isRight. -/
namespace Go.Proofs.YtmepjbjmjbpchaaGreatDoor
open Go Go.RowKit
set_option linter.unusedVariables false
set_option linter.unusedSimpArgs false
attribute [local go_sem ↓] Go.wp_at_zero Go.wp_at_succ

theorem run_lookup_miss {P : Program} {t kt et : TypeId} {d : TypeDesc} {w : World} {r clock : Nat} {es : Array MapEntry} {key z : Value} (ht : P.underlying t = some (.map kt et)) (hk : P.underlying kt = some d)
    (hck : ∀ b, (Instr.checkKey b 10000 kt key).run P w = .ok () w) (hf : Instr.findNow d key es.toList 0 = some none) (hr : w.heap[r]? = some (.map es clock)) (hz : (zeroValue et).run P w = .ok z w) (ok : Bool) :
    (Instr.lookup t (.map (some r)) key ok).run P w = .ok (if ok then .tuple #[z, .bool false] else z) w := by
  simp [Instr.lookup, run_underlying ht, run_getObj_map hr, hck, run_findKey_now hk hf, hz]
abbrev zKind : Value := .agg #[.nilFunc, .nilFunc, .nilFunc]
def kindRow (k : Int) : Option (Nat × Nat × Nat) := if 0 ≤ k then kindE[k.toNat]? else none
theorem find_no (k : Int) (h : kindRow k = none) : Instr.findNow (.int .i64) (.int .i64 k) ((kindE.take 6).mapIdx fun i x => (⟨.int .i64 (i : Nat), kv x.1 x.2.1 x.2.2, i⟩ : MapEntry)) 0 = some none := by
  have h6 : ¬ (k = 0 ∨ k = 1 ∨ k = 2 ∨ k = 3 ∨ k = 4 ∨ k = 5) := by
    rintro (rfl | rfl | rfl | rfl | rfl | rfl) <;> simp [kindRow, kindE] at h
  simp only [not_or] at h6
  obtain ⟨h0, h1, h2, h3, h4, h5⟩ := h6
  have e0 : (k == 0) = false := by simpa using h0
  have e1 : (k == 1) = false := by simpa using h1
  have e2 : (k == 2) = false := by simpa using h2
  have e3 : (k == 3) = false := by simpa using h3
  have e4 : (k == 4) = false := by simpa using h4
  have e5 : (k == 5) = false := by simpa using h5
  simp [Instr.findNow, Instr.sameNow, kindE, e0, e1, e2, e3, e4, e5]
theorem look_yes {w : World} {m : Nat} (hm : w.heap[m]? = some (kindO 6)) {k : Int} {x : Nat × Nat × Nat} (h : kindRow k = some x) (ok : Bool) :
    (Instr.lookup 118 (.map (some m)) (.int .i64 k) ok).run Tryz.prog w = .ok (if ok then .tuple #[kv x.1 x.2.1 x.2.2, .bool true] else kv x.1 x.2.1 x.2.2) w := by
  unfold kindRow at h
  split at h
  case isFalse => cases h
  rename_i h0
  obtain ⟨j, rfl⟩ := Int.eq_ofNat_of_zero_le h0
  have hj6 : j < 6 := by simpa [kindE] using (List.getElem?_eq_some_iff.1 h).1
  have : j = 0 ∨ j = 1 ∨ j = 2 ∨ j = 3 ∨ j = 4 ∨ j = 5 := by omega
  rcases this with rfl | rfl | rfl | rfl | rfl | rfl
  all_goals
    simp only [kindE, Int.toNat_natCast, List.getElem?_cons_succ, List.getElem?_cons_zero, Option.some.injEq] at h
    subst h
    exact run_lookup_hit Tryz.underlying118 Tryz.underlying23 (fun b => run_checkKey_int Tryz.underlying23 _ _ _) rfl hm ok
theorem look_no {w : World} {m : Nat} (hm : w.heap[m]? = some (kindO 6)) {k : Int} (h : kindRow k = none) (ok : Bool) :
    (Instr.lookup 118 (.map (some m)) (.int .i64 k) ok).run Tryz.prog w = .ok (if ok then .tuple #[zKind, .bool false] else zKind) w := by
  refine run_lookup_miss Tryz.underlying118 Tryz.underlying23 (fun b => run_checkKey_int Tryz.underlying23 _ _ _) ?_ hm (by kernel_rfl) ok
  exact find_no k h

theorem kinds_m (w : World) : Calls Tryz.prog 75 #[] w fun e w' => ∃ m, e = .returned (.map (some m)) ∧ w'.heap[m]? = some (kindO 6) ∧ Below w.heap.size w w' :=
  (kinds_any w).mono fun e w' ⟨he, hw⟩ => ⟨_, he, by rw [← hw]; exact heap_alloc_new _ _, by rw [← hw]; exact (Below.refl _ _).alloc (Nat.le_refl _) _⟩
theorem belowD {B : Nat} {a w : World} (h : Below B a w) : Below B a w.drew := ⟨h.os, h.tape, h.output, h.size, h.block⟩
theorem heap_alloc_old {w : World} {m : Nat} {x : Obj} (h : w.heap[m]? = some x) (o : Obj) : (w.alloc o).heap[m]? = some x := by
  have := blkLt h
  rw [Below.heap_alloc _ _ _ this]; exact h
section
variable (nm : ByteArray) (k n : Int) (tx : ByteArray) (ia : Option Addr) (il ic : Nat) (ta : Option Addr) (tl tc : Nat) (w : World)
set_option maxRecDepth 100000 in
set_option maxHeartbeats 2000000 in
theorem isRight_no (h : kindRow k = none) : Calls Tryz.prog 44 #[av nm k n tx ia il ic ta tl tc] w fun e w' => e = .returned (.bool false) ∧ Below w.heap.size w w' := by
  have hl := fun (W : World) (m : Nat) (hm : W.heap[m]? = some (kindO 6)) => look_no hm h true
  have HL := Lib.hid hl
  clear hl h
  go_enter Tryz.func44, Tryz.ntmps44
  go_wp2_with fail
  go_region_held3 (fun w' => w'.cell? ⟨w.heap.size, 1, none⟩ = some (.int .i64 k)) (go_keep)
    ((go_at_call 75; refine (kinds_m _).mono ?_; rintro e w1 ⟨m, rfl, hm, hb1⟩; have hl1 := HL.out w1 m hm; have hl2 := fun o => HL.out (w1.alloc o) m (heap_alloc_old hm o); have c0 := rdCell hb1 w.heap.size (by first | (simp; done) | (simp; omega)); have f0 := rdFree hb1 w.heap.size (by first | (simp; done) | (simp; omega)); first | (have c1 := rdCell hb1 (w.heap.size + 1) (by simp; done); have f1 := rdFree hb1 (w.heap.size + 1) (by simp; done); have hz1 : w.heap.size + 1 < w1.heap.size := (by have := hb1.size; simp at this; omega)) | (have hz1 : w.heap.size < w1.heap.size := (by have := hb1.size; simp at this; omega))))
  all_goals go_wp2_with fail
  all_goals go_ret
  all_goals refine ⟨rfl, ?_⟩
  all_goals ((repeat (first | (with_reducible refine below_set ?_ (by first | exact Nat.le_refl _ | omega) _ _) | with_reducible exact Below.refl _ _ | with_reducible refine belowA ?_ _ | with_reducible refine below_own' ?_ hb1 | with_reducible refine belowD ?_ | with_reducible refine belowN ?_ _)))
set_option maxRecDepth 100000 in
set_option maxHeartbeats 4000000 in
theorem isRight_row (f g t : Nat) (pr pa : Bool) (h : kindRow k = some (f, g, t)) (hinf : ∀ args w, (callFunc f args).run Tryz.prog w = .ok (.enter f args) w) (hing : ∀ args w, (callFunc g args).run Tryz.prog w = .ok (.enter g args) w)
    (hf : ∀ W, Below w.heap.size w W → Calls Tryz.prog f #[av nm k n tx ia il ic ta tl tc] W fun e w' => e = .returned (.bool pr) ∧ Below W.heap.size W w')
    (hg : ∀ W, Below w.heap.size w W → Calls Tryz.prog g #[av nm k n tx ia il ic ta tl tc] W fun e w' => e = .returned (.bool pa) ∧ Below W.heap.size W w') :
    Calls Tryz.prog 44 #[av nm k n tx ia il ic ta tl tc] w fun e w' => e = .returned (.bool (nameOf nm.data.toList && (pr && pa))) ∧ Below w.heap.size w w' := by
  have hl := fun (W : World) (m : Nat) (hm : W.heap[m]? = some (kindO 6)) => look_yes hm h true
  have HL := Lib.hid hl
  have HF := Lib.hid hf
  have HG := Lib.hid hg
  clear hl h hf hg
  obtain ⟨bn, hbn⟩ : ∃ bn, bn = nameOf nm.data.toList := ⟨_, rfl⟩
  rw [← hbn]
  have HBN := Lib.hid hbn
  clear hbn
  go_enter Tryz.func44, Tryz.ntmps44
  go_wp2_with fail
  go_region_held3 (fun w' => w'.cell? ⟨w.heap.size, 1, none⟩ = some (.int .i64 k)) (go_keep)
    ((go_at_call 75; refine (kinds_m _).mono ?_; rintro e w1 ⟨m, rfl, hm, hb1⟩; have hl1 := HL.out w1 m hm; have hl2 := fun o => HL.out (w1.alloc o) m (heap_alloc_old hm o); have c0 := rdCell hb1 w.heap.size (by first | (simp; done) | (simp; omega)); have f0 := rdFree hb1 w.heap.size (by first | (simp; done) | (simp; omega)); first | (have c1 := rdCell hb1 (w.heap.size + 1) (by simp; done); have f1 := rdFree hb1 (w.heap.size + 1) (by simp; done); have hz1 : w.heap.size + 1 < w1.heap.size := (by have := hb1.size; simp at this; omega)) | (have hz1 : w.heap.size < w1.heap.size := (by have := hb1.size; simp at this; omega))))
  all_goals cases bn
  all_goals try cases pr
  all_goals
    go_wp2_with (first
      | (go_at_call 42; refine (isName_any _ _).mono ?_; rintro e w9 ⟨rfl, rfl⟩; rw [← HBN.out])
      | ((with_reducible refine Calls.mono (HF.out _ ?_) ?_); (focus ((repeat (first | (with_reducible refine below_set ?_ (by first | exact Nat.le_refl _ | omega) _ _) | with_reducible exact Below.refl _ _ | with_reducible refine belowA ?_ _ | with_reducible refine below_own' ?_ hb1 | with_reducible refine belowD ?_ | with_reducible refine belowN ?_ _)); done)); rintro e w2 ⟨rfl, hb2⟩; have c2 := rdCell hb2 w.heap.size (by first | (simp; done) | (simp; omega)); have f2 := rdFree hb2 w.heap.size (by first | (simp; done) | (simp; omega)); first | (have c3 := rdCell hb2 w1.heap.size (by simp; done); have f3 := rdFree hb2 w1.heap.size (by simp; done); have hz2 : w1.heap.size < w2.heap.size := (by have := Below.size hb2; simp at this; omega)) | (have c3 := rdCell hb2 (w.heap.size + 1) (by first | (simp; done) | (simp; omega)); have f3 := rdFree hb2 (w.heap.size + 1) (by first | (simp; done) | (simp; omega)); have hz2 : w.heap.size + 1 < w2.heap.size := (by have := Below.size hb2; simp at this; omega)))
      | ((with_reducible refine Calls.mono (HG.out _ ?_) ?_); (focus ((repeat (first | (with_reducible refine below_set ?_ (by first | exact Nat.le_refl _ | omega) _ _) | with_reducible exact Below.refl _ _ | with_reducible refine belowA ?_ _ | with_reducible refine below_own' ?_ hb2 | with_reducible refine below_own' ?_ hb1 | with_reducible refine belowD ?_ | with_reducible refine belowN ?_ _)); done)); rintro e w3 ⟨rfl, hb3⟩))
  all_goals go_ret
  all_goals refine ⟨rfl, ?_⟩
  all_goals first
    | ((repeat (first | (with_reducible refine below_set ?_ (by first | exact Nat.le_refl _ | omega) _ _) | with_reducible exact Below.refl _ _ | with_reducible refine belowA ?_ _ | with_reducible refine below_own' ?_ hb1 | with_reducible refine belowD ?_ | with_reducible refine belowN ?_ _)); done)
    | ((repeat (first | (with_reducible refine below_set ?_ (by first | exact Nat.le_refl _ | omega) _ _) | with_reducible exact Below.refl _ _ | with_reducible refine belowA ?_ _ | with_reducible refine below_own' ?_ hb2 | with_reducible refine below_own' ?_ hb1 | with_reducible refine belowD ?_ | with_reducible refine belowN ?_ _)); done)
    | ((repeat (first | (with_reducible refine below_set ?_ (by first | exact Nat.le_refl _ | omega) _ _) | with_reducible exact Below.refl _ _ | with_reducible refine belowA ?_ _ | with_reducible refine below_own' ?_ hb3 | with_reducible refine below_own' ?_ hb2 | with_reducible refine below_own' ?_ hb1 | with_reducible refine belowD ?_ | with_reducible refine belowN ?_ _)); done)
end
end Go.Proofs.YtmepjbjmjbpchaaGreatDoor
end
section
/- attrs.isRight at an attribute. -/
namespace Go.Proofs.YtmepjbjmjbpchaaGreatDoor
open Go Go.RowKit
set_option linter.unusedVariables false
set_option linter.unusedSimpArgs false

theorem badTy_eq (s : ByteArray) : badTy s = !isTyB s := by
  unfold badTy isTyB askAny askOf
  cases readOf s.data.toList <;> rfl
theorem join_ok (ls : List ByteArray) : (((joinOf ls).2 : Int) == 0) = (decide (ls.length ≤ 100) && ls.all isTyB) := by
  have hall : ls.all isTyB = !ls.any badTy := by
    rw [List.not_any_eq_all_not]
    congr 1; funext s; simp [badTy_eq]
  unfold joinOf
  rw [hall]
  cases ls.any badTy
  · by_cases h : 100 < ls.length
    · simp [h]
    · simp [h]; omega
  · simp
theorem kindRow_no {k : Int} (h : ¬ (0 ≤ k ∧ k ≤ 5)) : kindRow k = none := by
  unfold kindRow
  split
  · rw [List.getElem?_eq_none]
    simp [kindE]; omega
  · rfl
theorem isRight_any (a : Atr) (w : World) (hl : a.Lies w) (hf : a.Fits) : Calls Tryz.prog 44 #[a.val] w fun e w' => e = .returned (.bool (rightA a)) ∧ Below w.heap.size w w' := by
  by_cases hk : 0 ≤ a.kind ∧ a.kind ≤ 5
  · have h6 : a.kind = 0 ∨ a.kind = 1 ∨ a.kind = 2 ∨ a.kind = 3 ∨ a.kind = 4 ∨ a.kind = 5 := by omega
    have hx : a.text.size ≤ 140737488355328 := by have := hf.text; omega
    have hq : ∀ s ∈ a.texts, s.size ≤ 140737488355328 := fun s hs => by have := hf.texts s hs; omega
    have hn : a.texts.length ≤ 9223372036854775807 := by have := hf.tl; omega
    have hi : (((a.ints.length : Nat) : Int) == 0) = (a.ints.length == 0) := by rw [Bool.eq_iff_iff]; simp
    have ht : (((a.texts.length : Nat) : Int) == 0) = (a.texts.length == 0) := by rw [Bool.eq_iff_iff]; simp
    have h100 : decide (((a.ints.length : Nat) : Int) ≤ 100) = decide (a.ints.length ≤ 100) := by rw [decide_eq_decide]; omega
    have go : ∀ (f g t : Nat) (pr pa : Bool), kindRow a.kind = some (f, g, t) → (∀ args w, (callFunc f args).run Tryz.prog w = .ok (.enter f args) w) → (∀ args w, (callFunc g args).run Tryz.prog w = .ok (.enter g args) w) →
        (∀ W, Below w.heap.size w W → Calls Tryz.prog f #[a.val] W fun e w' => e = .returned (.bool pr) ∧ Below W.heap.size W w') → (∀ W, Below w.heap.size w W → Calls Tryz.prog g #[a.val] W fun e w' => e = .returned (.bool pa) ∧ Below W.heap.size W w') →
        pr = ownB a → pa = aloneB a → Calls Tryz.prog 44 #[a.val] w fun e w' => e = .returned (.bool (rightA a)) ∧ Below w.heap.size w w' := by
      intro f g t pr pa h1 h2 h3 h4 h5 h6 h7
      have := isRight_row a.name a.kind a.num a.text a.ia a.ints.length a.ic a.ta a.texts.length a.tc w f g t pr pa h1 h2 h3 h4 h5
      have e : (nameOf a.name.data.toList && (pr && pa)) = rightA a := by
        unfold rightA
        rw [h6, h7]
        simp [hk, Bool.and_assoc]
      rwa [e] at this
    rcases h6 with h | h | h | h | h | h
    · refine go _ _ _ _ _ (by rw [h]; rfl) (fun args w => callFunc_enters Tryz.func100 (by kernel_rfl) rfl args w) (fun args w => callFunc_enters Tryz.func101 (by kernel_rfl) rfl args w)
        (fun W _ => always_any _ _ _ _ _ _ _ _ _ _ W) (fun W _ => noText_any _ _ _ _ _ _ _ _ _ _ W) ?_ ?_
      · simp [ownB, h]
      · simp [aloneB, h]
    · refine go _ _ _ _ _ (by rw [h]; rfl) (fun args w => callFunc_enters Tryz.func103 (by kernel_rfl) rfl args w) (fun args w => callFunc_enters Tryz.func104 (by kernel_rfl) rfl args w)
        (fun W _ => isText_any _ _ _ _ _ _ _ _ _ _ W) (fun W _ => noNumber_any _ _ _ _ _ _ _ _ _ _ W) ?_ ?_
      · simp [ownB, h]
      · simp [aloneB, h]
    · refine go _ _ _ _ _ (by rw [h]; rfl) (fun args w => callFunc_enters Tryz.func106 (by kernel_rfl) rfl args w) (fun args w => callFunc_enters Tryz.func104 (by kernel_rfl) rfl args w)
        (fun W _ => isSymbol_any _ _ _ _ _ _ _ _ _ _ W) (fun W _ => noNumber_any _ _ _ _ _ _ _ _ _ _ W) ?_ ?_
      · simp [ownB, h]
      · simp [aloneB, h]
    · refine go _ _ _ _ _ (by rw [h]; rfl) (fun args w => callFunc_enters Tryz.func108 (by kernel_rfl) rfl args w) (fun args w => callFunc_enters Tryz.func104 (by kernel_rfl) rfl args w)
        (fun W _ => isType_any _ _ _ _ _ _ _ _ _ _ W hx) (fun W _ => noNumber_any _ _ _ _ _ _ _ _ _ _ W) ?_ ?_
      · simp [ownB, h]
      · simp [aloneB, h]
    · refine go _ _ _ _ _ (by rw [h]; rfl) (fun args w => callFunc_enters Tryz.func110 (by kernel_rfl) rfl args w) (fun args w => callFunc_enters Tryz.func111 (by kernel_rfl) rfl args w)
        (fun W _ => isInts_any _ _ _ _ _ _ _ _ _ _ W) (fun W _ => noneOf_any _ _ _ _ _ _ _ _ _ _ W) ?_ ?_
      · rw [h100, ht]; simp [ownB, h]
      · simp [aloneB, h]
    · refine go _ _ _ _ _ (by rw [h]; rfl) (fun args w => callFunc_enters Tryz.func113 (by kernel_rfl) rfl args w) (fun args w => callFunc_enters Tryz.func111 (by kernel_rfl) rfl args w)
        (fun W hb => isTypes_any _ _ _ _ _ _ _ _ _ W a.texts (hl.texts.below hb) hn hf.textsC hq) (fun W _ => noneOf_any _ _ _ _ _ _ _ _ _ _ W) ?_ ?_
      · rw [join_ok, hi]; simp [ownB, h]
      · simp [aloneB, h]
  · have e : rightA a = false := by unfold rightA; simp [hk]
    rw [e]
    exact isRight_no _ _ _ _ _ _ _ _ _ _ w (kindRow_no hk)
end Go.Proofs.YtmepjbjmjbpchaaGreatDoor
end
section
/- The reference of types: numbers. -/
namespace Go.Proofs.YtmepjbjmjbpchaaGreatDoor
open Go Go.RowKit Go.Sort
set_option linter.unusedVariables false
set_option linter.unusedSimpArgs false

/-- `Num`. -/
def rnumOf (l : List UInt8) : Option Nat :=
  if l = [] ∨ 9 < l.length ∨ (1 < l.length ∧ l.head? = some 48) then none else numFrom l 0
theorem numFrom_ge : ∀ (l : List UInt8) (n N : Nat), numFrom l n = some N → n * 10 ^ l.length ≤ N
  | [], n, N, h => by simp [numFrom] at h; simp; omega
  | c :: l, n, N, h => by
    simp only [numFrom] at h
    split at h
    · have := numFrom_ge l _ _ h
      rw [List.length_cons, Nat.pow_succ]
      have h2 : 10 * n * 10 ^ l.length ≤ (10 * n + (c.toNat - 48)) * 10 ^ l.length := Nat.mul_le_mul_right _ (by omega)
      rw [Nat.mul_comm (10 ^ l.length) 10, ← Nat.mul_assoc, Nat.mul_comm n 10]
      omega
    · cases h
theorem rnum_small {l : List UInt8} {n : Nat} (h : n ≤ 1000) : rnumOf l = some n ↔ numOf l = some n := by
  unfold rnumOf numOf
  by_cases h9 : l.length = 9
  · rw [if_pos (c := l = [] ∨ 8 < l.length ∨ _) (.inr (.inl (by omega)))]
    constructor
    · intro hn
      split at hn
      · cases hn
      · rename_i hc
        match l, h9, hc, hn with
        | c :: l, h9, hc, hn =>
          simp only [numFrom] at hn
          split at hn
          · rename_i hr
            have hl8 : l.length = 8 := by simpa using h9
            have hc48 : c ≠ 48 := fun he => hc (.inr (.inr ⟨by simp; omega, by simp [he]⟩))
            have hcn : c.toNat ≠ 48 := fun he => hc48 (UInt8.toNat_inj.1 (by simpa using he))
            have := numFrom_ge l _ _ hn
            rw [hl8] at this
            omega
          · cases hn
    · intro hn; cases hn
  · have h98 : (9 < l.length) = (8 < l.length) := by rw [eq_iff_iff]; omega
    simp only [h98]

def RNumPost (l : List UInt8) (m : Int) (w : World) (e : Ending) (w' : World) : Prop := e = .returned (numRes (rnumOf l) m) ∧ w = w'
theorem rnum_stop {s : ByteArray} {pos acc : Nat} (h : pos < s.size) (hd : Hid (s.data.toList.drop pos = s[pos]'h :: s.data.toList.drop (pos + 1)))
    (Hr : Hid (numFrom (s.data.toList.drop pos) acc = rnumOf s.data.toList)) (hb : ((s[pos]'h).toNat : Int) < 48 ∨ 57 < ((s[pos]'h).toNat : Int)) : rnumOf s.data.toList = none := by
  rw [← Hr.out, hd.out, numFrom, if_neg (by omega)]
theorem rnum_more {s : ByteArray} {pos acc : Nat} (h : pos < s.size) (hd : Hid (s.data.toList.drop pos = s[pos]'h :: s.data.toList.drop (pos + 1)))
    (Hr : Hid (numFrom (s.data.toList.drop pos) acc = rnumOf s.data.toList)) (hb : 48 ≤ ((s[pos]'h).toNat : Int) ∧ ((s[pos]'h).toNat : Int) ≤ 57) : numFrom (s.data.toList.drop (pos + 1)) (10 * acc + ((s[pos]'h).toNat - 48)) = rnumOf s.data.toList := by
  rw [← Hr.out, hd.out, numFrom, if_pos (by omega)]
theorem rnumPost_none {l : List UInt8} {m : Int} {w w' : World} (h : rnumOf l = none) (hb : w = w') :
    RNumPost l m w (.returned (.tuple #[.int .i64 0, .bool false])) w' := ⟨by rw [h]; rfl, hb⟩
theorem rnumPost_some {l : List UInt8} {m : Int} {n : Nat} {w w' : World} (h : rnumOf l = some n) (hb : w = w') :
    RNumPost l m w (.returned (.tuple #[.int .i64 n, .bool (decide ((n : Int) ≤ m))])) w' := ⟨by rw [h]; rfl, hb⟩

set_option maxHeartbeats 1000000 in
theorem rnum_loop (s : ByteArray) (m : Int) (w : World) (h1 : 0 < s.size) (h2 : s.size ≤ 9) (h3 : s.data.toList.head? = some 48 → s.size = 1) :
    Calls Tryz.prog 88 #[.string s, .int .i64 m] w (RNumPost s.data.toList m w) := by
  have hl : s.data.toList.length = s.size := by simp
  have hn : rnumOf s.data.toList = numFrom s.data.toList 0 := by
    unfold rnumOf; rw [if_neg]; rintro (h | h | ⟨h, h'⟩)
    · rw [h] at hl; simp at hl; omega
    · omega
    · have := h3 h'; omega
  have hne : s.toList.isEmpty = false := by
    rw [List.isEmpty_eq_false_iff]; intro h; rw [toList_nil_iff] at h; rw [h] at hl; simp at hl; omega
  have h48 : 1 < s.size → ((((s[0]'h1).toNat : Int)) == 48) = false := by
    intro h; rw [beq_eq_false_iff_ne]; intro h'
    have := data_get s 0 h1
    rw [List.drop_zero] at this
    have := h3 (by rw [this]; simp; exact UInt8.toNat_inj.1 (by simp; omega))
    omega
  have HN := Lib.hid hn; clear hn hl
  have key : ∀ (b1 : s.size ≤ 1 ∨ 1 < s.size), Calls Tryz.prog 88 #[.string s, .int .i64 m] w (RNumPost s.data.toList m w) := by
    intro b1
    rcases b1 with b1 | b1
    all_goals
      first
        | (have hb : ((1 : Int) < (s.size : Int)) = False := by simp; omega)
        | (have h0 := h48 b1)
      clear h48 h3
      go_enter Tryz.func88, Tryz.ntmps88
      go_wp2_with fail
      go_loop [6, 7] (fun n i => ∃ (pos acc : Nat), pos ≤ s.size ∧ i = .int .i64 pos ∧ n = .int .i64 acc ∧ acc < 10 ^ pos ∧ numFrom (s.data.toList.drop pos) acc = rnumOf s.data.toList) (fun _ i => s.size - (intOf i).toNat)
      case atStart => exact ⟨0, 0, by omega, rfl, rfl, by simp, by rw [HN.out]; rfl⟩
      case round =>
        obtain ⟨pos, acc, hp, rfl, rfl, hacc, hrest⟩ := hrel
        have Hr := Lib.hid hrest
        have hacc8 : acc < 1000000000 := Nat.lt_of_lt_of_le hacc (Nat.le_trans (Nat.pow_le_pow_right (by omega) (show pos ≤ 9 by omega)) (by decide))
        have Hacc := Lib.hid hacc
        clear hrest hacc
        rcases Nat.lt_or_ge pos s.size with hlt | hge
        · have hd := Lib.hid (data_get s pos hlt)
          obtain ⟨c, hc⟩ : ∃ c, c = s[pos]'hlt := ⟨_, rfl⟩
          have hcases : (((s[pos]'hlt).toNat : Int) < 48) ∨ (57 < ((s[pos]'hlt).toNat : Int)) ∨ (48 ≤ ((s[pos]'hlt).toNat : Int) ∧ ((s[pos]'hlt).toNat : Int) ≤ 57) := by omega
          clear hc
          rcases hcases with h | h | ⟨h, h'⟩
          · go_wp2_with fail
            all_goals (go_ret2; exact rnumPost_none (rnum_stop hlt hd Hr (by omega)) rfl)
          · go_wp2_with fail
            all_goals (go_ret2; exact rnumPost_none (rnum_stop hlt hd Hr (by omega)) rfl)
          · go_wp2_with fail
            go_round
            case rel =>
              refine ⟨pos + 1, 10 * acc + ((s[pos]'hlt).toNat - 48), by omega, by go_num, by go_num, ?_, rnum_more hlt hd Hr ⟨by omega, by omega⟩⟩
              have := Hacc.out
              rw [Nat.pow_succ]; omega
            case measure => simp [intOf]; omega
        · have hpe : pos = s.size := by omega
          subst hpe
          go_wp2_with fail
          all_goals (go_ret2; exact rnumPost_some (by rw [← Hr.out, List.drop_of_length_le (by simp)]; rfl) rfl)
  exact key (by omega)
theorem rnum_any (s : ByteArray) (m : Int) (w : World) :
    Calls Tryz.prog 88 #[.string s, .int .i64 m] w (RNumPost s.data.toList m w) := by
  have hl : s.data.toList.length = s.size := by simp
  by_cases hc : s.data.toList = [] ∨ 9 < s.data.toList.length ∨ (1 < s.data.toList.length ∧ s.data.toList.head? = some 48)
  · have hn : rnumOf s.data.toList = none := by unfold rnumOf; rw [if_pos hc]
    have HN := Lib.hid hn; clear hn
    have hr : ∀ e w', e = .returned (.tuple #[.int .i64 0, .bool false]) → w = w' → RNumPost s.data.toList m w e w' := fun e w' h1 h2 => by subst h1; exact rnumPost_none HN.out h2
    have hc2 : s.toList.isEmpty = true ∨ (s.toList.isEmpty = false ∧ 9 < s.size) ∨ (s.toList.isEmpty = false ∧ 1 < s.size ∧ s.size ≤ 9 ∧ ∃ h : 0 < s.size, ((((s[0]'h).toNat : Int)) == 48) = true) := by
      rw [hl] at hc
      by_cases h : s.toList = []
      · exact .inl (by rw [h]; rfl)
      · right
        have h' : s.toList.isEmpty = false := by rw [List.isEmpty_eq_false_iff]; exact h
        rw [toList_nil_iff] at h
        rcases hc with hc | hc | ⟨hc, hc'⟩
        · exact absurd hc h
        · exact .inl ⟨h', hc⟩
        · by_cases h8 : 9 < s.size
          · exact .inl ⟨h', h8⟩
          · refine .inr ⟨h', hc, by omega, by omega, ?_⟩
            have := data_get s 0 (by omega)
            rw [List.drop_zero] at this
            rw [this] at hc'
            simp at hc'
            rw [hc']; decide
    clear hc hl
    rcases hc2 with h | ⟨h, h8⟩ | ⟨h, h1, h8, hp, h0⟩
    all_goals
      go_enter Tryz.func88, Tryz.ntmps88
      go_wp2_with fail
      all_goals (go_ret2; exact hr _ _ rfl rfl)
  · have h1 : 0 < s.size := by
      rcases Nat.eq_zero_or_pos s.size with h | h
      · exact absurd (.inl (List.length_eq_zero_iff.1 (by omega))) hc
      · exact h
    exact rnum_loop s m w h1 (by omega) (fun h => by
      rcases Nat.lt_or_ge 1 s.size with h' | h'
      · exact absurd (.inr (.inr ⟨by omega, h⟩)) hc
      · omega)
end Go.Proofs.YtmepjbjmjbpchaaGreatDoor
end
section
/- The reference of types: number types, digits. -/
namespace Go.Proofs.YtmepjbjmjbpchaaGreatDoor
open Go Go.RowKit Go.Sort
set_option linter.unusedVariables false
set_option linter.unusedSimpArgs false

theorem elemOf_index : elemOf [105, 110, 100, 101, 120] = some ⟨1, 64, []⟩ := by rfl
theorem elemOf_i {l : List UInt8} (h : 105 :: l ≠ [105, 110, 100, 101, 120]) : elemOf (105 :: l) = match numOf l with | some n => if 0 < n ∧ n ≤ 64 then some ⟨0, n, []⟩ else none | none => none := by
  unfold elemOf; rw [if_neg h]; rfl
theorem elemOf_other {c : UInt8} {l : List UInt8} (h : c ≠ 105) : elemOf (c :: l) = none := by
  unfold elemOf
  rw [if_neg (by intro he; cases he; exact h rfl), if_neg]
  simp [Lib.hasPrefix, List.isPrefixOf, Ne.symm h]
/-- `number`: bits, whether it is the index type, whether it is a number type. -/
def NumTPost (l : List UInt8) (w : World) (e : Ending) (w' : World) : Prop :=
  w = w' ∧ match elemOf l with
  | some q => e = .returned (.tuple #[.int .i64 q.bits, .bool (q.kind == 1), .bool true])
  | none => ∃ v : Int, e = .returned (.tuple #[.int .i64 v, .bool false, .bool false])
theorem numT_yes {l : List UInt8} {w w' : World} {e : Ending} {q : Pd} (hw : w = w') (h : elemOf l = some q) (he : e = .returned (.tuple #[.int .i64 q.bits, .bool (q.kind == 1), .bool true])) : NumTPost l w e w' := ⟨hw, by rw [h]; exact he⟩
theorem numT_no {l : List UInt8} {w w' : World} {e : Ending} (v : Int) (hw : w = w') (h : elemOf l = none) (he : e = .returned (.tuple #[.int .i64 v, .bool false, .bool false])) : NumTPost l w e w' := ⟨hw, by rw [h]; exact ⟨v, he⟩⟩

set_option maxRecDepth 100000 in
set_option maxHeartbeats 1000000 in
theorem numT_any (s : ByteArray) (w : World) : Calls Tryz.prog 86 #[.string s] w (NumTPost s.data.toList w) := by
  have hl : s.data.toList.length = s.size := by simp
  by_cases hi : s.data.toList = [105, 110, 100, 101, 120]
  · have hs : s = ⟨#[105, 110, 100, 101, 120]⟩ := ByteArray.ext (by rw [← Array.toList_inj, hi])
    subst hs
    clear hl hi
    go_enter Tryz.func86, Tryz.ntmps86
    go_wp2_with fail
    go_ret3
    exact numT_yes rfl elemOf_index rfl
  · have hne : (s.toList == [105, 110, 100, 101, 120]) = false := by
      rw [beq_eq_false_iff_ne, ByteArray.toList_eq]; exact hi
    by_cases h0 : s.toList = []
    · have he : s.toList.isEmpty = true := by rw [h0]; rfl
      have hn : elemOf s.data.toList = none := by rw [(toList_nil_iff s).1 h0]; rfl
      have HN := Lib.hid hn
      clear hl hi hn h0
      go_enter Tryz.func86, Tryz.ntmps86
      go_wp2_with fail
      go_ret3
      exact numT_no 0 rfl HN.out rfl
    · have he : s.toList.isEmpty = false := by rw [List.isEmpty_eq_false_iff]; exact h0
      have h1 : 0 < s.size := by
        rcases Nat.eq_zero_or_pos s.size with h | h
        · exact absurd ((toList_nil_iff s).2 (List.length_eq_zero_iff.1 (by omega))) h0
        · exact h
      have hd := data_get s 0 h1
      rw [List.drop_zero] at hd
      by_cases hc : s[0]'h1 = 105
      · have hcn : ((s[0]'h1).toNat : Int) = 105 := by rw [hc]; rfl
        have hd1 : s.data.toList = 105 :: s.data.toList.drop 1 := by rw [hd, hc]; rfl
        have hel := elemOf_i (l := s.data.toList.drop 1) (by rw [← hd1]; exact hi)
        rw [← hd1] at hel
        have hex : (s.extract 1 s.size).data.toList = s.data.toList.drop 1 := by
          simp [ByteArray.data_extract]
          exact List.take_of_length_le (by simp)
        have HEX := Lib.hid hex
        have HEL := Lib.hid hel
        have hq1 : (1 : Int) ≤ (s.size : Int) := by omega
        clear hl hi hd hc hd1 hel hex h0
        cases hr : rnumOf (s.data.toList.drop 1) with
        | none =>
          have hno : elemOf s.data.toList = none := by
            rw [HEL.out]
            cases hn : numOf (s.data.toList.drop 1) with
            | none => rfl
            | some n =>
              dsimp only
              rw [if_neg]
              intro ⟨h1, h2⟩
              have := (rnum_small (l := s.data.toList.drop 1) (n := n) (by omega)).2 hn
              rw [hr] at this; cases this
          have HR := Lib.hid hr
          have HNO := Lib.hid hno
          clear hr hno
          go_enter Tryz.func86, Tryz.ntmps86
          go_wp2_with (go_at_call 88; refine (rnum_any _ _ _).mono ?_; rintro e w' ⟨rfl, rfl⟩; rw [HEX.out, HR.out]; (simp only [numRes]))
          go_ret3
          exact numT_no 0 rfl HNO.out rfl
        | some n =>
          by_cases hn : 0 < n ∧ n ≤ 64
          · have hyes : elemOf s.data.toList = some ⟨0, n, []⟩ := by
              rw [HEL.out, (rnum_small (by omega)).1 hr]
              dsimp only
              rw [if_pos hn]
            have HR := Lib.hid hr
            have HY := Lib.hid hyes
            have hn1 : (1 : Int) ≤ (n : Int) := by omega
            have hn2 : (n : Int) ≤ 64 := by omega
            clear hr hyes
            go_enter Tryz.func86, Tryz.ntmps86
            go_wp2_with (go_at_call 88; refine (rnum_any _ _ _).mono ?_; rintro e w' ⟨rfl, rfl⟩; rw [HEX.out, HR.out]; (simp only [numRes]))
            go_ret3
            exact numT_yes rfl HY.out (by simp [hn1, hn2])
          · have hno : elemOf s.data.toList = none := by
              rw [HEL.out]
              cases hm : numOf (s.data.toList.drop 1) with
              | none => rfl
              | some m =>
                dsimp only
                rw [if_neg]
                intro ⟨h1, h2⟩
                have := (rnum_small (l := s.data.toList.drop 1) (n := m) (by omega)).2 hm
                rw [hr] at this; cases this
                exact hn ⟨h1, h2⟩
            have HR := Lib.hid hr
            have HNO := Lib.hid hno
            have hn12 : ((n : Int) < 1 ∧ (n : Int) ≤ 64) ∨ (1 ≤ (n : Int) ∧ 64 < (n : Int)) := by omega
            clear hr hno
            rcases hn12 with ⟨h3, h4⟩ | ⟨h3, h4⟩
            all_goals
              go_enter Tryz.func86, Tryz.ntmps86
              go_wp2_with (go_at_call 88; refine (rnum_any _ _ _).mono ?_; rintro e w' ⟨rfl, rfl⟩; rw [HEX.out, HR.out]; (simp only [numRes]))
              go_ret3
              exact numT_no n rfl HNO.out (by simp [h3, h4]; try omega)
      · have hcn : ¬ ((s[0]'h1).toNat : Int) = 105 := by
          intro h; exact hc (UInt8.toNat_inj.1 (by simp; omega))
        have hno : elemOf s.data.toList = none := by rw [hd]; exact elemOf_other hc
        have HNO := Lib.hid hno
        clear hl hi hd hc h0 hno
        go_enter Tryz.func86, Tryz.ntmps86
        go_wp2_with fail
        go_ret3
        exact numT_no 0 rfl HNO.out rfl

theorem low_high : ∀ b : Fin 65, 1 ≤ b.val → wrap64 (-wrap64 (-2 ^ (b.val - 1) + 1)) = 2 ^ (b.val - 1) - 1 := by decide +kernel
end Go.Proofs.YtmepjbjmjbpchaaGreatDoor
end
section
/- The reference of types: names, and two names with a point between. -/
namespace Go.Proofs.YtmepjbjmjbpchaaGreatDoor
open Go Go.RowKit Go.Sort
set_option linter.unusedVariables false
set_option linter.unusedSimpArgs false

theorem data_last {s : ByteArray} {i : Nat} (h : i < s.size) : s.data.toList[i]? = some (s[i]'h) := bytes_get s i h
theorem isWord_cases (c : UInt8) : isWord c = true ↔ (97 ≤ (c.toNat : Int) ∧ (c.toNat : Int) ≤ 122) ∨ (48 ≤ (c.toNat : Int) ∧ (c.toNat : Int) ≤ 57) ∨ (c.toNat : Int) = 95 := by
  simp [isWord, isLet]; omega
set_option maxHeartbeats 1000000 in
theorem risName_any (s : ByteArray) (w : World) :
    Calls Tryz.prog 37 #[.string s] w (BoolPost (nameOf s.data.toList) w) := by
  have hl : s.data.toList.length = s.size := by simp
  by_cases h0 : s.toList = []
  · have hf := Lib.hid (nameOf_empty (l := s.data.toList) (by rw [← toList_nil_iff]; exact h0))
    have h0' : s.toList.isEmpty = true := by rw [h0]; rfl
    clear h0 hl
    go_enter Tryz.func37, Tryz.ntmps37
    go_wp2_with fail
    all_goals (go_ret; exact ⟨by rw [hf.out]; rfl, rfl⟩)
  have h0' : s.toList.isEmpty = false := by rw [List.isEmpty_eq_false_iff]; exact h0
  have hpos : 0 < s.size := by
    rcases Nat.eq_zero_or_pos s.size with h | h
    · exact absurd ((toList_nil_iff s).2 (List.length_eq_zero_iff.1 (by omega))) h0
    · exact h
  rcases Nat.lt_or_ge 60 s.size with h60 | h60
  · have hf := Lib.hid (nameOf_long (l := s.data.toList) (by omega))
    clear h0 hl
    go_enter Tryz.func37, Tryz.ntmps37
    go_wp2_with fail
    all_goals (go_ret; exact ⟨by rw [hf.out]; rfl, rfl⟩)
  have hhd : s.data.toList.head? = some (s[0]'hpos) := by rw [List.head?_eq_getElem?]; exact bytes_get s 0 hpos
  have hcs : ((s[0]'hpos).toNat : Int) < 97 ∨ (97 ≤ ((s[0]'hpos).toNat : Int) ∧ 122 < ((s[0]'hpos).toNat : Int)) ∨ (97 ≤ ((s[0]'hpos).toNat : Int) ∧ ((s[0]'hpos).toNat : Int) ≤ 122) := by omega
  have hnl : (((s[0]'hpos).toNat : Int) < 97 ∨ 122 < ((s[0]'hpos).toNat : Int)) → nameOf s.data.toList = false := fun h => nameOf_first hhd (by simp [isLet]; omega)
  have hyl : (97 ≤ ((s[0]'hpos).toNat : Int) ∧ ((s[0]'hpos).toNat : Int) ≤ 122) → isLet (s[0]'hpos) = true := fun h => by simp [isLet]; omega
  have HNL := Lib.hid hnl
  have HYL := Lib.hid hyl
  have Hhd := Lib.hid hhd
  have hget0 := Lib.hid (bytes_get s 0 hpos)
  clear h0 hl hhd hnl hyl
  rcases hcs with h | ⟨h, h'⟩ | ⟨h, h'⟩
  · go_enter Tryz.func37, Tryz.ntmps37
    go_wp2_with fail
    all_goals (go_ret; exact ⟨by rw [HNL.out (.inl h)]; rfl, rfl⟩)
  · go_enter Tryz.func37, Tryz.ntmps37
    go_wp2_with fail
    all_goals (go_ret; exact ⟨by rw [HNL.out (.inr h')]; rfl, rfl⟩)
  · have hlet := Lib.hid (HYL.out ⟨h, h'⟩)
    go_enter Tryz.func37, Tryz.ntmps37
    go_wp2_with fail
    go_loop [3] (fun i => ∃ k : Nat, 1 ≤ k ∧ k ≤ s.size ∧ i = .int .i64 k ∧ (s.data.toList.take k).all isWord = true) (fun i => s.size - (intOf i).toNat)
    case atStart => exact ⟨1, Nat.le_refl _, hpos, rfl, by rw [show (1 : Nat) = 0 + 1 from rfl, take_word hget0.out]; simp [isWord, hlet.out]⟩
    case round =>
      obtain ⟨k, hk1, hk, rfl, hall⟩ := hrel
      have Hall := Lib.hid hall; clear hall
      rcases Nat.lt_or_ge k s.size with hlt | hge
      · have hget := Lib.hid (bytes_get s k hlt)
        have hw := Lib.hid (isWord_cases (s[k]'hlt))
        go_wp2_with fail
        all_goals (try simp only [Bool.not_eq_eq_eq_not, Bool.not_true, Bool.not_false, decide_eq_true_eq, decide_eq_false_iff_not, bne_iff_ne, bne_eq_false_iff_eq, beq_iff_eq, beq_eq_false_iff_ne] at *)
        all_goals first
          | (go_ret
             have hno : isWord (s[k]'hlt) = false := by
               rw [Bool.eq_false_iff]; intro he; have := hw.out.1 he; omega
             exact ⟨by rw [nameOf_bad hget.out hno]; rfl, rfl⟩)
          | (go_round
             case rel => exact ⟨k + 1, by omega, by omega, by go_num, by rw [take_word hget.out, Hall.out, hw.out.2 (by omega)]; rfl⟩
             case measure => simp [intOf]; omega)
      · go_wp2_with fail
        all_goals
          (go_ret
           exact ⟨by
            have h1 : nameOf s.data.toList = true := by
              have := Hall.out
              rw [List.take_of_length_le (by simp; omega)] at this
              have h60' : s.data.toList.length ≤ 60 := by simpa using h60
              simp [nameOf, this, Hhd.out, hlet.out]
              constructor
              · intro hn; rw [hn] at Hhd; have := Hhd.out; simp at this
              · simpa using h60'
            rw [h1]; rfl, rfl⟩)

/-- `IsPair`. -/
def pairOf (l : List UInt8) (most : Nat) : Bool :=
  decide (l.length ≤ most) && match cutOf 46 l with
  | some (x, y) => nameOf x && nameOf y
  | none => false
theorem cutOf_take : ∀ (l : List UInt8) (c : UInt8) (k : Nat), (∀ x ∈ l.take k, x ≠ c) → (∀ x, l[k]? = some x → x = c) → cutOf c l = if k < l.length then some (l.take k, l.drop (k + 1)) else none
  | [], c, k, _, _ => by simp [cutOf]
  | b :: l, c, 0, _, h => by
    have := h b (by simp)
    simp [cutOf, this]
  | b :: l, c, k + 1, h1, h2 => by
    have hb : b ≠ c := h1 b (by simp)
    have ih := cutOf_take l c k (fun x hx => h1 x (by simp [hx])) (fun x hx => h2 x (by simpa using hx))
    simp only [cutOf, if_neg hb, ih, List.length_cons, Nat.add_lt_add_iff_right]
    split <;> simp
theorem pair_found {l : List UInt8} {k most : Nat} (h1 : ∀ x ∈ l.take k, x ≠ 46) (h2 : l[k]? = some 46) (hm : l.length ≤ most) : pairOf l most = (nameOf (l.take k) && nameOf (l.drop (k + 1))) := by
  have hk : k < l.length := by
    rcases Nat.lt_or_ge k l.length with h | h
    · exact h
    · rw [List.getElem?_eq_none h] at h2; cases h2
  rw [pairOf, cutOf_take l 46 k h1 (fun x hx => by rw [h2] at hx; exact (Option.some.inj hx).symm), if_pos hk]
  simp [hm]
theorem pair_none {l : List UInt8} {most : Nat} (h1 : ∀ x ∈ l, x ≠ 46) : pairOf l most = false := by
  rw [pairOf, cutOf_take l 46 l.length (by simpa using h1) (by simp), if_neg (Nat.lt_irrefl _)]
  simp
theorem take_ne {l : List UInt8} {k : Nat} {c d : UInt8} (h : ∀ x ∈ l.take k, x ≠ d) (hk : l[k]? = some c) (hc : c ≠ d) : ∀ x ∈ l.take (k + 1), x ≠ d := by
  intro x hx
  rw [List.take_add_one, hk] at hx
  simp at hx
  rcases hx with hx | rfl
  · exact h x hx
  · exact hc
theorem byte_ne {c : UInt8} (n : Nat) (hn : n < 256) (h : ¬ (c.toNat : Int) = (n : Int)) : c ≠ UInt8.ofNat n := by
  intro he; apply h; rw [he, UInt8.toNat_ofNat']; omega
theorem byte_eq {c : UInt8} (n : Nat) (hn : n < 256) (h : (c.toNat : Int) = (n : Int)) : c = UInt8.ofNat n := by
  apply UInt8.toNat_inj.1; rw [UInt8.toNat_ofNat']; omega

set_option maxHeartbeats 1000000 in
theorem risPair_any (s : ByteArray) (m : Nat) (hm : m ≤ 1000) (w : World) :
    Calls Tryz.prog 87 #[.string s, .int .i64 m] w (BoolPost (pairOf s.data.toList m) w) := by
  have hl : s.data.toList.length = s.size := by simp
  rcases Nat.lt_or_ge m s.size with hlt | hge
  · have hf : pairOf s.data.toList m = false := by simp [pairOf]; intro h; omega
    have HF := Lib.hid hf
    have hpos : (0 : Int) < (s.size : Int) := by omega
    clear hf hl
    go_enter Tryz.func87, Tryz.ntmps87
    go_wp2_with fail
    go_loop [5] (fun i => i = .int .i64 0) (fun i => 0)
    case atStart => rfl
    case round =>
      subst hrel
      go_wp2_with fail
      all_goals (go_ret; exact ⟨by rw [HF.out]; rfl, rfl⟩)
  · have hsz : s.size ≤ 1000 := by omega
    have HL := Lib.hid hl
    clear hl
    go_enter Tryz.func87, Tryz.ntmps87
    go_wp2_with fail
    go_loop [5] (fun i => ∃ k : Nat, k ≤ s.size ∧ i = .int .i64 k ∧ ∀ x ∈ s.data.toList.take k, x ≠ 46) (fun i => s.size - (intOf i).toNat)
    case atStart => exact ⟨0, Nat.zero_le _, rfl, by simp⟩
    case round =>
      obtain ⟨k, hk, rfl, hall⟩ := hrel
      have Hall := Lib.hid hall; clear hall
      rcases Nat.lt_or_ge k s.size with hlt | hge2
      · have hget := Lib.hid (bytes_get s k hlt)
        by_cases hc : ((s[k]'hlt).toNat : Int) = 46
        · have hp : pairOf s.data.toList m = (nameOf (s.extract 0 k).data.toList && nameOf (s.extract (k + 1) s.size).data.toList) := by
            rw [pair_found (k := k) Hall.out (by rw [hget.out, byte_eq 46 (by omega) hc]; rfl) (by rw [HL.out]; omega)]
            congr 2
            · simp [ByteArray.data_extract]
            · simp [ByteArray.data_extract]
              exact (List.take_of_length_le (by simp)).symm
          have HP := Lib.hid hp
          have hb : (((s[k]'hlt).toNat : Int) == 46) = true := by rw [hc]; rfl
          have hk1 : wrap64 ((k : Int) + 1) = (k : Int) + 1 := by unfold wrap64; omega
          have hk2 : (k : Int) + 1 ≤ (s.size : Int) := by omega
          clear hp hc
          cases hn1 : nameOf (s.extract 0 k).data.toList
          · have HN1 := Lib.hid hn1
            clear hn1
            go_wp2_with (go_at_call 37; refine (risName_any _ _).mono ?_; rintro e w1 ⟨rfl, rfl⟩; rw [HN1.out])
            go_ret
            exact ⟨by rw [HP.out, HN1.out]; rfl, rfl⟩
          · have HN1 := Lib.hid hn1
            clear hn1
            go_wp2_with fail
            refine (risName_any _ _).mono ?_
            rintro e w1 ⟨rfl, rfl⟩
            rw [HN1.out]
            obtain ⟨b2, hb2⟩ : ∃ b, nameOf (s.extract (k + 1) s.size).data.toList = b := ⟨_, rfl⟩
            have HB2 := Lib.hid hb2
            clear hb2
            go_wp2_with fail
            refine (risName_any _ _).mono ?_
            rintro e w1 ⟨rfl, rfl⟩
            rw [HB2.out]
            go_wp2_with fail
            go_ret
            exact ⟨by rw [HP.out, HN1.out, HB2.out]; simp, rfl⟩
        · have hb : (((s[k]'hlt).toNat : Int) == 46) = false := by rw [beq_eq_false_iff_ne]; exact hc
          have hne := Lib.hid (byte_ne (c := s[k]'hlt) 46 (by omega) hc)
          clear hc
          go_wp2_with fail
          go_round
          case rel => exact ⟨k + 1, by omega, by go_num, take_ne Hall.out hget.out hne.out⟩
          case measure => simp [intOf]; omega
      · have hn : pairOf s.data.toList m = false := pair_none (by have := Hall.out; rw [List.take_of_length_le (by simp; omega)] at this; exact this)
        have HN := Lib.hid hn
        clear hn
        go_wp2_with fail
        all_goals (go_ret; exact ⟨by rw [HN.out]; rfl, rfl⟩)
end Go.Proofs.YtmepjbjmjbpchaaGreatDoor
end
section
/- Package types: the parts of a type with cells; ranges. -/
namespace Go.Proofs.YtmepjbjmjbpchaaGreatDoor
open Go Go.RowKit
set_option linter.unusedVariables false
set_option linter.unusedSimpArgs false

/-- The element type of a type with cells. -/
def elStr (b : Nat) : List UInt8 := if b = 0 then [105, 110, 100, 101, 120] else 105 :: Lib.decDigits b

theorem digs_small {b : Nat} (h : b < 100) : (Lib.decDigits b).length ≤ 2 := by
  rw [Lib.decDigits_length]
  unfold Lib.nDigits
  split
  · omega
  · unfold Lib.nDigits
    rw [dif_pos (by omega)]
    omega
section
variable (k : Int) (b : Nat) (r x y z : Int) (w : World)
theorem ext_cells {c : Array Value} (hc : c = #[.int .i64 k, .int .i64 b, .int .i64 r, .int .i64 x, .int .i64 y, .int .i64 z]) (t : TypeId) (j : Nat) (hj : j < 3) : (w.alloc (.cells c t (0, 0))).cell? ⟨w.heap.size, 3 + j, none⟩ = some (.int .i64 ([x, y, z].getD j 0)) := by
  rw [blkCell (heap_alloc_new w _), hc]
  match j, hj with
  | 0, _ => rfl
  | 1, _ => rfl
  | 2, _ => rfl
end
end Go.Proofs.YtmepjbjmjbpchaaGreatDoor
end
section
/- Plain laws of the reference of types: a number's string is the only one; what stands behind the extents. -/
namespace Go.Proofs.YtmepjbjmjbpchaaGreatDoor
open Go
set_option linter.unusedVariables false
set_option linter.unusedSimpArgs false

theorem decDigits_snoc {n d : Nat} (hn : 1 ≤ n) (hd : d < 10) : Lib.decDigits (10 * n + d) = Lib.decDigits n ++ [UInt8.ofNat (48 + d)] := by
  rw [Lib.decDigits, dif_neg (by omega)]
  rw [show (10 * n + d) / 10 = n by omega, show (10 * n + d) % 10 = d by omega]
theorem digit_back {c : UInt8} (h : 48 ≤ c.toNat) : UInt8.ofNat (48 + (c.toNat - 48)) = c := by
  apply UInt8.toNat_inj.1
  rw [UInt8.toNat_ofNat']
  have := c.toNat_lt
  omega
theorem numFrom_digits : ∀ (l : List UInt8) (n N : Nat), 1 ≤ n → numFrom l n = some N → Lib.decDigits N = Lib.decDigits n ++ l
  | [], n, N, _, h => by simp [numFrom] at h; simp [h]
  | c :: l, n, N, hn, h => by
    simp only [numFrom] at h
    split at h
    · rename_i hc
      rw [numFrom_digits l _ N (by omega) h, decDigits_snoc hn (by omega), digit_back hc.1, List.append_assoc]
      rfl
    · cases h
theorem numOf_digits {l : List UInt8} {N : Nat} (h : numOf l = some N) : l = Lib.decDigits N := by
  unfold numOf at h
  split at h
  · cases h
  · rename_i hc
    match l, hc, h with
    | [], hc, h => exact absurd (.inl rfl) hc
    | c :: l, hc, h =>
      simp only [numFrom] at h
      split at h
      · rename_i hr
        by_cases h48 : c = 48
        · have hl : l = [] := by
            by_cases hl : l = []
            · exact hl
            · exfalso; apply hc; right; right
              have : 0 < l.length := List.length_pos_iff.2 hl
              exact ⟨by simp; omega, by simp [h48]⟩
          subst hl
          subst h48
          simp [numFrom] at h
          subst h
          rw [Lib.decDigits_one (by decide)]
          rfl
        · have hne : c.toNat ≠ 48 := fun he => h48 (UInt8.toNat_inj.1 (by simpa using he))
          have := numFrom_digits l _ N (by omega) h
          rw [this, Lib.decDigits_one (by omega)]
          rw [show 10 * 0 + (c.toNat - 48) = c.toNat - 48 by omega, digit_back hr.1]
          rfl
      · cases h
theorem elemOf_str {l : List UInt8} {q : Pd} (h : elemOf l = some q) : l = elStr (if q.kind = 1 then 0 else q.bits) := by
  unfold elemOf at h
  split at h
  · rename_i hi; cases h; simpa [elStr] using hi
  · split at h
    · rename_i hp
      split at h
      · rename_i n hn
        split at h
        · rename_i hb
          cases h
          have := numOf_digits hn
          match l, hp with
          | [], hp => simp [Lib.hasPrefix, List.isPrefixOf] at hp
          | c :: l, hp =>
            simp [Lib.hasPrefix, List.isPrefixOf] at hp
            subst hp
            rw [elStr]
            simp at this ⊢
            rw [if_neg (by omega), this]
        · cases h
      · cases h
    · cases h
theorem numFrom_all : ∀ (l : List UInt8) (n N : Nat), numFrom l n = some N → ∀ c ∈ l, 48 ≤ c.toNat ∧ c.toNat ≤ 57
  | [], n, N, h => by simp
  | c :: l, n, N, h => by
    simp only [numFrom] at h
    split at h
    · rename_i hc
      intro x hx
      rcases List.mem_cons.1 hx with rfl | hx
      · exact hc
      · exact numFrom_all l _ N h x hx
    · cases h
theorem numOf_all {l : List UInt8} {N : Nat} (h : numOf l = some N) : ∀ c ∈ l, 48 ≤ c.toNat ∧ c.toNat ≤ 57 := by
  unfold numOf at h
  split at h
  · cases h
  · exact numFrom_all _ _ _ h
def isDig : List UInt8 → Bool
  | c :: _ => decide (48 ≤ c.toNat ∧ c.toNat ≤ 57)
  | [] => false
/-- What the reference reads of a type with cells: its extents, and what stands behind them. -/
def rshape (ext : List Nat) (l : List UInt8) : Option (List Nat × List UInt8) :=
  if isDig l then match h : cutOf 120 l with
    | none => none
    | some (x, y) => match numOf x with
      | some n => if n ≤ 1000 ∧ ext.length < 3 then rshape (ext ++ [n]) y else none
      | none => none
  else some (ext, l)
termination_by l.length
decreasing_by have := cutOf_len h; omega
theorem rshape_end {ext : List Nat} {l : List UInt8} (h : isDig l = false) : rshape ext l = some (ext, l) := by
  unfold rshape; simp [h]
theorem rshape_none {ext : List Nat} {l : List UInt8} (h : isDig l = true) (hc : cutOf 120 l = none) : rshape ext l = none := by
  unfold rshape; rw [if_pos h]
  split
  · rfl
  · rename_i h'; rw [hc] at h'; cases h'
theorem rshape_more {ext : List Nat} {l x y : List UInt8} (h : isDig l = true) (hc : cutOf 120 l = some (x, y)) :
    rshape ext l = match numOf x with | some n => if n ≤ 1000 ∧ ext.length < 3 then rshape (ext ++ [n]) y else none | none => none := by
  rw [rshape, if_pos h]
  split
  · rename_i h'; rw [hc] at h'; cases h'
  · rename_i h'; rw [hc] at h'; cases h'; rfl
def restOf (r : List Nat × List UInt8) : Option (List Nat × Nat) :=
  match elemOf r.2 with
  | some e => if prodN r.1 ≤ 4096 then some (r.1, if e.kind = 1 then 0 else e.bits) else none
  | none => none
theorem elemOf_dig {l : List UInt8} (h : isDig l = true) : elemOf l = none := by
  match l, h with
  | c :: l, h =>
    have hc : c ≠ 105 := by
      intro he; subst he
      simp [isDig] at h
    unfold elemOf
    rw [if_neg (by intro he; cases he; exact hc rfl), if_neg]
    simp [Lib.hasPrefix, List.isPrefixOf, Ne.symm hc]
theorem elemOf_noX {l : List UInt8} (h : l ≠ [105, 110, 100, 101, 120]) (hx : (120 : UInt8) ∈ l) : elemOf l = none := by
  unfold elemOf
  rw [if_neg h]
  split
  · rename_i hp
    match l, hp with
    | [], hp => simp [Lib.hasPrefix, List.isPrefixOf] at hp
    | c :: l, hp =>
      simp [Lib.hasPrefix, List.isPrefixOf] at hp
      subst hp
      split
      · rename_i n hn
        exfalso
        have : (120 : UInt8) ∈ l := by simpa using hx
        have := numOf_all (l := l) (by simpa using hn) 120 this
        exact absurd this.2 (by decide)
      · rfl
  · rfl
theorem numOf_head {x : List UInt8} {c : UInt8} {l : List UInt8} {N : Nat} (h : numOf x = some N) (hx : x = c :: l) : 48 ≤ c.toNat ∧ c.toNat ≤ 57 := numOf_all h c (by simp [hx])
theorem rshape_eq : ∀ (m : Nat) (l : List UInt8) (ext : List Nat), l.length ≤ m → shapeP ext (partsOf l) = (rshape ext l).bind restOf := by
  intro m
  induction m with
  | zero =>
    intro l ext hl
    have : l = [] := List.length_eq_zero_iff.1 (by omega)
    subst this
    rw [partsOf_last (.inr rfl), rshape_end rfl]
    rfl
  | succ m ih =>
    intro l ext hl
    by_cases hi : l = [105, 110, 100, 101, 120]
    · rw [partsOf_last (.inl hi), rshape_end (by rw [hi]; rfl)]
      rfl
    · cases hc : cutOf 120 l with
      | none =>
        rw [partsOf_last (.inr hc)]
        cases hd : isDig l
        · rw [rshape_end hd]; rfl
        · rw [rshape_none hd hc]
          simp only [shapeP, elemOf_dig hd]
          rfl
      | some p =>
        obtain ⟨x, y⟩ := p
        have hlen := cutOf_len hc
        obtain ⟨-, hxy, hnx⟩ := cutOf_some _ _ _ _ hc
        rw [partsOf_more hi hc]
        cases hd : isDig l
        · rw [rshape_end hd]
          have he : elemOf l = none := elemOf_noX hi (by rw [hxy]; simp)
          have hn : numOf x = none := by
            cases hn : numOf x with
            | none => rfl
            | some n =>
              exfalso
              match x, hxy, hn with
              | [], hxy, hn => simp [numOf] at hn
              | c :: x, hxy, hn =>
                have := numOf_head hn rfl
                rw [hxy] at hd
                simp [isDig] at hd
                omega
          simp only [shapeP, hn, Option.bind_some, restOf, he]
        · rw [rshape_more hd hc]
          cases hn : numOf x with
          | none => simp only [shapeP, hn]; rfl
          | some n =>
            simp only [shapeP, hn]
            by_cases hc2 : n ≤ 1000 ∧ ext.length < 3
            · rw [if_pos hc2, if_pos hc2]; exact ih y _ (by omega)
            · rw [if_neg hc2, if_neg hc2]; rfl
end Go.Proofs.YtmepjbjmjbpchaaGreatDoor
end
section
/- The reference of types: Read, where the string is no type with cells. -/
namespace Go.Proofs.YtmepjbjmjbpchaaGreatDoor
open Go Go.RowKit Go.Sort
set_option linter.unusedVariables false
set_option linter.unusedSimpArgs false

theorem numT_some {s : ByteArray} {q : Pd} (h : elemOf s.data.toList = some q) (w : World) :
    Calls Tryz.prog 86 #[.string s] w fun e w' => e = .returned (.tuple #[.int .i64 q.bits, .bool (q.kind == 1), .bool true]) ∧ w = w' :=
  (numT_any s w).mono fun e w' ⟨hw, he⟩ => ⟨by rw [h] at he; exact he, hw⟩
theorem numT_none {s : ByteArray} (h : elemOf s.data.toList = none) (w : World) :
    Calls Tryz.prog 86 #[.string s] w fun e w' => (∃ v : Int, e = .returned (.tuple #[.int .i64 v, .bool false, .bool false])) ∧ w = w' :=
  (numT_any s w).mono fun e w' ⟨hw, he⟩ => ⟨by rw [h] at he; exact he, hw⟩

/-- A value of the reference's T. -/
abbrev tv (k b : Int) (v : Value) (el : ByteArray) : Value := .agg #[.int .i64 k, .int .i64 b, v, .string el]
abbrev tCells (k b : Int) (v : Value) (el : ByteArray) : Array Value := #[.int .i64 k, .int .i64 b, v, .string el]
def elT (q : Pd) : List UInt8 := if q.kind = 2 ∨ q.kind = 3 then elStr q.bits else []
def bitsT (q : Pd) : Nat := if q.kind ≤ 1 then q.bits else 0
theorem own_slice {W : World} {base : Nat} {e : TypeId} {v : Value} {n : Nat} {xs : List Value} (h : W.ownsRow base e 1 v n xs) : ∃ sa sc, v = .slice sa n sc := by
  rcases h.2 with ⟨h1, h2⟩ | ⟨g, c, cur, h1, -⟩
  · exact ⟨none, 0, by rw [h1, h2]⟩
  · exact ⟨_, _, h1⟩
def RReadPost (l : List UInt8) (w : World) (e : Ending) (w' : World) : Prop :=
  Below w.heap.size w w' ∧ match readOf l with
  | some q => ∃ sa sc, e = .returned (.tuple #[tv q.kind (bitsT q) (.slice sa q.ext.length sc) ⟨(elT q).toArray⟩, .bool true]) ∧ w'.ownsRow w.heap.size 3 1 (.slice sa q.ext.length sc) q.ext.length (q.ext.map (fun (n : Nat) => Value.int .i64 n))
  | none => ∃ k b el, e = .returned (.tuple #[tv k b (.slice none 0 0) el, .bool false])
theorem rread_yes {l : List UInt8} {q : Pd} {w w' : World} {e : Ending} (h : readOf l = some q) (v : Value) (he : e = .returned (.tuple #[tv q.kind (bitsT q) v ⟨(elT q).toArray⟩, .bool true]))
    (hv : w'.ownsRow w.heap.size 3 1 v q.ext.length (q.ext.map (fun (n : Nat) => Value.int .i64 n))) (hb : Below w.heap.size w w') : RReadPost l w e w' := ⟨hb, by
  rw [h]
  obtain ⟨sa, sc, rfl⟩ := own_slice hv
  exact ⟨sa, sc, he, hv⟩⟩
theorem rread_no {l : List UInt8} {w w' : World} {e : Ending} (h : readOf l = none) (k b : Int) (el : ByteArray) (he : e = .returned (.tuple #[tv k b (.slice none 0 0) el, .bool false])) (hb : Below w.heap.size w w') : RReadPost l w e w' :=
  ⟨hb, by rw [h]; exact ⟨k, b, el, he⟩⟩

theorem elemOf_form {l : List UInt8} {q : Pd} (h : elemOf l = some q) : q = ⟨1, 64, []⟩ ∨ ∃ n, q = ⟨0, n, []⟩ := by
  unfold elemOf at h
  split at h
  · cases h; exact .inl rfl
  · split at h
    · split at h
      · split at h
        · cases h; exact .inr ⟨_, rfl⟩
        · cases h
      · cases h
    · cases h

set_option maxRecDepth 100000 in
set_option maxHeartbeats 1000000 in
theorem rread_elem (s : ByteArray) (q : Pd) (w : World) (h : elemOf s.data.toList = some q) : Calls Tryz.prog 66 #[.string s] w (RReadPost s.data.toList w) := by
  have hr : readOf s.data.toList = some q := by unfold readOf; rw [h]
  have HR := Lib.hid hr
  have H := Lib.hid h
  rcases elemOf_form h with rfl | ⟨n, rfl⟩
  all_goals
    clear h hr
    go_enter Tryz.func66, Tryz.ntmps66
    go_wp2_with (go_at_call 86; refine (numT_some H.out _).mono ?_; rintro e w1 ⟨rfl, rfl⟩)
  · refine bodyPost_ret (v := .tuple #[tv 1 64 (.slice none 0 0) ⟨#[]⟩, .bool true]) (by simp [results, Tryz.results66, go_sem]) rfl ?_
    exact rread_yes HR.out (.slice none 0 0) rfl (World.ownsRow_nil _ _ _ _) (by repeat (with_reducible (first | exact Below.refl _ _ | refine below_set ?_ (Nat.le_refl _) _ _ | refine belowA ?_ _)))
  · refine bodyPost_ret (v := .tuple #[tv 0 n (.slice none 0 0) ⟨#[]⟩, .bool true]) (by simp [results, Tryz.results66, go_sem]) rfl ?_
    exact rread_yes HR.out (.slice none 0 0) rfl (World.ownsRow_nil _ _ _ _) (by repeat (with_reducible (first | exact Below.refl _ _ | refine below_set ?_ (Nat.le_refl _) _ _ | refine belowA ?_ _)))

theorem foreignOf_pair (l : List UInt8) : foreignOf (33 :: l) = if pairOf l 59 then some ⟨4, 0, []⟩ else none := by
  unfold foreignOf pairOf
  have hp : Lib.hasPrefix (33 :: l) [33] = true := by simp [Lib.hasPrefix, List.isPrefixOf]
  have hl : ((33 :: l).length ≤ 60) = (l.length ≤ 59) := by simp
  by_cases h : l.length ≤ 59
  · rw [if_pos ⟨hp, by simp; omega⟩]
    simp only [h, decide_true, Bool.true_and, List.tail_cons]
    cases cutOf 46 l with
    | none => rfl
    | some p => obtain ⟨x, y⟩ := p; rfl
  · rw [if_neg (by simp; omega)]
    simp [h]
theorem readOf_foreign {l : List UInt8} (h : elemOf (33 :: l) = none) : readOf (33 :: l) = if pairOf l 59 then some ⟨4, 0, []⟩ else none := by
  rw [← foreignOf_pair]
  unfold readOf
  rw [h]
  have hm : ∀ (k : List UInt8) (c : UInt8), c ≠ 33 → Lib.hasPrefix ((33 :: l).take ((33 :: l).length - 1)) (c :: k) = false := by
    intro k c hc
    cases l with
    | nil => simp [Lib.hasPrefix, List.isPrefixOf]
    | cons b l => simp [Lib.hasPrefix, List.isPrefixOf, hc]
  dsimp only
  rw [hm _ _ (by decide), hm _ _ (by decide)]
  simp

set_option maxRecDepth 100000 in
set_option maxHeartbeats 1000000 in
theorem rread_foreign (s : ByteArray) (w : World) (h : elemOf s.data.toList = none) (h1 : 1 < s.size) (h0 : s[0]'(by omega) = 33) : Calls Tryz.prog 66 #[.string s] w (RReadPost s.data.toList w) := by
  have hd := data_get s 0 (by omega)
  rw [List.drop_zero, h0] at hd
  have hr := readOf_foreign (l := s.data.toList.drop 1) (by rw [← hd]; exact h)
  rw [← hd] at hr
  have hx : (s.extract 1 s.size).data.toList = s.data.toList.drop 1 := by
    simp [ByteArray.data_extract]; exact List.take_of_length_le (by simp)
  have hb0 : (((s[0]'(by omega)).toNat : Int) == 33) = true := by rw [h0]; rfl
  have hq1 : (1 : Int) < (s.size : Int) := by omega
  have hq2 : (1 : Int) ≤ (s.size : Int) := by omega
  have H := Lib.hid h
  have HR := Lib.hid hr
  have HX := Lib.hid hx
  clear h hd hr hx h0
  go_enter Tryz.func66, Tryz.ntmps66
  go_wp2_with (first
    | (go_at_call 86; refine (numT_none H.out _).mono ?_; rintro e w1 ⟨⟨v, rfl⟩, rfl⟩)
    | (go_at_call 87; refine (risPair_any _ 59 (by omega) _).mono ?_; rintro e w1 ⟨rfl, rfl⟩; rw [HX.out]))
  refine bodyPost_ret (v := .tuple #[tv 4 0 (.slice none 0 0) ⟨#[]⟩, .bool (pairOf (s.data.toList.drop 1) 59)]) (by simp [results, Tryz.results66, go_sem]) rfl ?_
  cases hp : pairOf (s.data.toList.drop 1) 59
  · exact rread_no (by rw [HR.out, hp]; rfl) 4 0 ⟨#[]⟩ rfl (by repeat (with_reducible (first | exact Below.refl _ _ | refine below_set ?_ (Nat.le_refl _) _ _ | refine belowA ?_ _)))
  · exact rread_yes (by rw [HR.out, hp]; rfl) (.slice none 0 0) rfl (World.ownsRow_nil _ _ _ _) (by repeat (with_reducible (first | exact Below.refl _ _ | refine below_set ?_ (Nat.le_refl _) _ _ | refine belowA ?_ _)))
end Go.Proofs.YtmepjbjmjbpchaaGreatDoor
end
