/- types.read. -/
import Derived.Test.YthgiianmfehcaaaDoorTy5
namespace Go.Proofs.YthgiianmfehcaaaDoor
open Go Go.RowKit
set_option linter.unusedVariables false
set_option linter.unusedSimpArgs false

def foreignOf (l : List UInt8) : Option Pd :=
  if Lib.hasPrefix l [33] ∧ l.length ≤ 60 then
    match cutOf 46 l.tail with
    | none => none
    | some (x, y) => if nameOf x && nameOf y then some ⟨4, 0, []⟩ else none
  else none
/-- `types.read`. -/
def readOf (l : List UInt8) : Option Pd :=
  match elemOf l with
  | some p => some p
  | none =>
    if Lib.hasSuffix l [62] then
      if Lib.hasPrefix (l.take (l.length - 1)) [109, 101, 109, 60] then shapeOf 2 ((l.take (l.length - 1)).drop 4)
      else if Lib.hasPrefix (l.take (l.length - 1)) [97, 114, 114, 60] then shapeOf 3 ((l.take (l.length - 1)).drop 4)
      else foreignOf l
    else foreignOf l
def ReadPost (l : List UInt8) (w : World) (e : Ending) (w' : World) : Prop :=
  ∃ p : Pd, (∀ q, readOf l = some q → p = q) ∧ p.ext.length ≤ 3 ∧ e = .returned (.tuple #[p.val, .bool (readOf l).isSome]) ∧ Below w.heap.size w w'

theorem elemOf_ext {l : List UInt8} {q : Pd} (h : elemOf l = some q) : q.ext = [] := by
  unfold elemOf at h
  split at h
  · cases h; rfl
  · split at h
    · split at h
      · split at h
        · cases h; rfl
        · cases h
      · cases h
    · cases h

theorem element_yes (s : ByteArray) (q : Pd) (w : World) (h : elemOf s.data.toList = some q) :
    Calls Tryd.prog 42 #[.string s] w fun e w' => e = .returned (.tuple #[.agg #[.int .i64 q.kind, .int .i64 q.bits, .int .i64 0, .int .i64 0, .int .i64 0, .int .i64 0], .bool true]) ∧ Below w.heap.size w w' :=
  (element_any s w).mono fun e w' ⟨p, h0, h1, he, hb⟩ => by
    have := h1 q h
    subst this
    refine ⟨?_, hb⟩
    rw [he, h]
    simp [Pd.val, h0]
theorem element_no (s : ByteArray) (w : World) (h : elemOf s.data.toList = none) :
    Calls Tryd.prog 42 #[.string s] w fun e w' => ∃ a b : Nat, e = .returned (.tuple #[.agg #[.int .i64 a, .int .i64 b, .int .i64 0, .int .i64 0, .int .i64 0, .int .i64 0], .bool false]) ∧ Below w.heap.size w w' :=
  (element_any s w).mono fun e w' ⟨p, h0, h1, he, hb⟩ => by
    refine ⟨p.kind, p.bits, ?_, hb⟩
    rw [he, h]
    simp [Pd.val, h0]

abbrev zCells : Array Value := #[.int .i64 0, .int .i64 0, .int .i64 0, .int .i64 0, .int .i64 0, .int .i64 0]
theorem read_post {l : List UInt8} {w w' : World} {e : Ending} (p : Pd) (h1 : ∀ q, readOf l = some q → p = q) (h2 : p.ext.length ≤ 3) (b : Bool) (h3 : b = (readOf l).isSome) (he : e = .returned (.tuple #[p.val, .bool b])) (hb : Below w.heap.size w w') : ReadPost l w e w' :=
  ⟨p, h1, h2, by rw [he, h3], hb⟩

set_option maxHeartbeats 1000000 in
theorem read_elem (s : ByteArray) (q : Pd) (w : World) (h : elemOf s.data.toList = some q) : Calls Tryd.prog 74 #[.string s] w (ReadPost s.data.toList w) := by
  have hr : readOf s.data.toList = some q := by unfold readOf; rw [h]
  have HR := Lib.hid hr
  have H := Lib.hid h
  have HX := Lib.hid (elemOf_ext h)
  clear h hr
  obtain ⟨k, b, x⟩ := q
  go_enter Tryd.func74, Tryd.ntmps74
  go_wp2_with (go_at_call 42; refine (element_yes _ _ _ H.out).mono ?_; rintro e w1 ⟨rfl, hb1⟩; have hz : w.heap.size < w1.heap.size := (by have := hb1.size; simp at this; omega); have c0 := rdCell hb1 w.heap.size (by simp); have f0 := rdFree hb1 w.heap.size (by simp))
  refine bodyPost_ret (v := .tuple #[.agg #[.int .i64 k, .int .i64 b, .int .i64 0, .int .i64 0, .int .i64 0, .int .i64 0], .bool true]) (by simp [results, Tryd.results74, go_sem, c0, hz]) rfl ?_
  have hx : x = [] := HX.out
  subst hx
  refine read_post ⟨k, b, []⟩ (fun q hq => by rw [HR.out] at hq; exact Option.some.inj hq) (by simp) true (by rw [HR.out]; rfl) rfl ?_
  exact (set6_below (below_own hb1) (Nat.le_refl _) _ _ _ _ _ _).alloc (by simp [World.setCell]; omega) _

theorem cutPrefix_or (s : ByteArray) (p : List UInt8) (w : World) :
    Calls Tryd.prog 51 #[.string s, .string ⟨p.toArray⟩] w fun e w' =>
      (∃ t : ByteArray, e = .returned (.tuple #[.string t, .bool true]) ∧ Hid (t.data.toList = s.data.toList.drop p.length) ∧ Hid (Lib.hasPrefix s.data.toList p = true) ∧ w = w') ∨
      (e = .returned (.tuple #[.string s, .bool false]) ∧ Hid (Lib.hasPrefix s.data.toList p = false) ∧ w = w') := by
  cases h : Lib.hasPrefix s.data.toList p
  · exact (cutPrefix_no s p w h).mono fun e w' ⟨he, hw⟩ => .inr ⟨he, rfl, hw⟩
  · exact (cutPrefix_yes s p w h).mono fun e w' ⟨t, he, ht, hw⟩ => .inl ⟨t, he, ht, rfl, hw⟩
theorem cutSuffix_or (s : ByteArray) (p : List UInt8) (w : World) (hs : s.size ≤ 9223372036854775807) :
    Calls Tryd.prog 52 #[.string s, .string ⟨p.toArray⟩] w fun e w' =>
      (∃ t : ByteArray, e = .returned (.tuple #[.string t, .bool true]) ∧ Hid (t.data.toList = s.data.toList.take (s.data.toList.length - p.length)) ∧ Hid (Lib.hasSuffix s.data.toList p = true) ∧ w = w') ∨
      (e = .returned (.tuple #[.string s, .bool false]) ∧ Hid (Lib.hasSuffix s.data.toList p = false) ∧ w = w') := by
  cases h : Lib.hasSuffix s.data.toList p
  · exact (cutSuffix_no s p w hs h).mono fun e w' ⟨he, hw⟩ => .inr ⟨he, rfl, hw⟩
  · exact (cutSuffix_yes s p w hs h).mono fun e w' ⟨t, he, ht, hw⟩ => .inl ⟨t, he, ht, rfl, hw⟩
theorem cut_or (s : ByteArray) (c : UInt8) (w : World) (hsz : s.size ≤ 9223372036854775806) :
    Calls Tryd.prog 86 #[.string s, .string ⟨#[c]⟩] w fun e w' =>
      (∃ (x y : ByteArray) (n : Nat), e = .returned (.tuple #[.string x, .string y, .bool true]) ∧ Hid (cutOf c s.data.toList = some (x.data.toList, y.data.toList)) ∧ w.drewN n = w') ∨
      (∃ n : Nat, e = .returned (.tuple #[.string s, .string ⟨#[]⟩, .bool false]) ∧ Hid (cutOf c s.data.toList = none) ∧ w.drewN n = w') := by
  refine (cut_one s c w hsz).mono fun e w' ⟨⟨n, hn⟩, he⟩ => ?_
  cases h : cutOf c s.data.toList with
  | none => rw [h] at he; exact .inr ⟨n, he, rfl, hn.symm⟩
  | some p => obtain ⟨x, y⟩ := p; rw [h] at he; exact .inl ⟨⟨x.toArray⟩, ⟨y.toArray⟩, n, he, by simp [Hid], hn.symm⟩

theorem belowN {B : Nat} {a w : World} (h : Below B a w) (n : Nat) : Below B a (w.drewN n) := ⟨h.os, h.tape, h.output, h.size, h.block⟩
theorem belowA {w W : World} (h : Below w.heap.size w W) (o : Obj) : Below w.heap.size w (W.alloc o) := h.alloc h.size o
theorem foreign_yes {l : List UInt8} {x y : List UInt8} (h1 : Lib.hasPrefix l [33] = true) (h2 : l.length ≤ 60) (h3 : cutOf 46 l.tail = some (x, y)) : foreignOf l = if nameOf x && nameOf y then some ⟨4, 0, []⟩ else none := by
  unfold foreignOf; rw [if_pos ⟨h1, h2⟩, h3]
theorem foreign_no {l : List UInt8} (h : ¬ (Lib.hasPrefix l [33] = true ∧ l.length ≤ 60 ∧ ∃ x y, cutOf 46 l.tail = some (x, y) ∧ nameOf x = true ∧ nameOf y = true)) : foreignOf l = none := by
  unfold foreignOf
  split
  · rename_i h1
    split
    · rfl
    · rename_i x y h2
      rw [if_neg]
      intro h3
      rw [Bool.and_eq_true] at h3
      exact h ⟨h1.1, h1.2, x, y, h2, h3.1, h3.2⟩
  · rfl

set_option maxHeartbeats 2000000 in
theorem read_foreign (s : ByteArray) (w : World) (hs : s.size ≤ 140737488355328) (h : elemOf s.data.toList = none) (h2 : Lib.hasSuffix s.data.toList [62] = false) :
    Calls Tryd.prog 74 #[.string s] w (ReadPost s.data.toList w) := by
  have hr : readOf s.data.toList = foreignOf s.data.toList := by unfold readOf; rw [h]; simp [h2]
  have HR := Lib.hid hr
  have H := Lib.hid h
  have H2 := Lib.hid h2
  have hl : s.data.toList.length = s.size := by simp
  have HL := Lib.hid hl
  clear h hr h2 hl
  have hs1 : s.size ≤ 9223372036854775807 := by omega
  go_enter Tryd.func74, Tryd.ntmps74
  go_wp2_with (first
    | (go_at_call 42; refine (element_no _ _ H.out).mono ?_; rintro e w1 ⟨ga, gb, rfl, hb1⟩; have hz : w.heap.size < w1.heap.size := (by have := hb1.size; simp at this; omega); have c0 := rdCell hb1 w.heap.size (by simp); have f0 := rdFree hb1 w.heap.size (by simp))
    | (go_at_call 52; refine (cutSuffix_no _ _ _ hs1 H2.out).mono ?_; rintro e w' ⟨rfl, rfl⟩)
    | (go_at_call 51; refine (cutPrefix_or _ _ _).mono ?_; rintro e w' (⟨t, rfl, ht, hp, rfl⟩ | ⟨rfl, hp, rfl⟩))
    | (go_at_call 86; refine (cut_or _ _ _ (by have := congrArg List.length ht.out; simp at this; omega)).mono ?_; rintro e w' (⟨x, y, nd, rfl, hc, rfl⟩ | ⟨nd, rfl, hc, rfl⟩))
    | (go_at_call 87; refine (isName_any _ _).mono ?_; rintro e w' ⟨rfl, rfl⟩))
  · have hf := foreign_yes hp.out (by have := HL.out; omega) (by have := hc.out; rw [ht.out] at this; simpa using this)
    refine bodyPost_ret (v := .tuple #[.agg #[.int .i64 4, .int .i64 0, .int .i64 0, .int .i64 0, .int .i64 0, .int .i64 0], .bool (nameOf y.data.toList)]) (by simp [results, Tryd.results74, go_sem, c0, hz]) rfl ?_
    refine read_post ⟨4, 0, []⟩ (fun q hq => ?_) (by simp) _ ?_ rfl ?_
    · rw [HR.out, hf] at hq; split at hq
      · exact Option.some.inj hq
      · cases hq
    · rw [HR.out, hf]; cases nameOf y.data.toList <;> simp_all
    · ((have hbw := below_own hb1); repeat (with_reducible (first | exact hbw | refine below_set ?_ (Nat.le_refl _) _ _ | refine belowN ?_ _ | refine belowA ?_ _)))
  · have hf := foreign_yes hp.out (by have := HL.out; omega) (by have := hc.out; rw [ht.out] at this; simpa using this)
    refine bodyPost_ret (v := .tuple #[.agg #[.int .i64 4, .int .i64 0, .int .i64 0, .int .i64 0, .int .i64 0, .int .i64 0], .bool false]) (by simp [results, Tryd.results74, go_sem, c0, hz]) rfl ?_
    refine read_post ⟨4, 0, []⟩ (fun q hq => ?_) (by simp) _ ?_ rfl ?_
    · rw [HR.out, hf] at hq; split at hq
      · exact Option.some.inj hq
      · cases hq
    · rw [HR.out, hf]; simp_all
    · ((have hbw := below_own hb1); repeat (with_reducible (first | exact hbw | refine below_set ?_ (Nat.le_refl _) _ _ | refine belowN ?_ _ | refine belowA ?_ _)))
  · have hf : foreignOf s.data.toList = none := foreign_no (by rintro ⟨_, _, x, y, h, _⟩; have := hc.out; rw [ht.out] at this; simp at this; rw [h] at this; cases this)
    refine bodyPost_ret (v := .tuple #[.agg #[.int .i64 4, .int .i64 0, .int .i64 0, .int .i64 0, .int .i64 0, .int .i64 0], .bool (nameOf [])]) (by simp [results, Tryd.results74, go_sem, c0, hz]) rfl ?_
    refine read_post ⟨4, 0, []⟩ (fun q hq => by rw [HR.out, hf] at hq; cases hq) (by simp) _ (by rw [HR.out, hf]; rfl) rfl ?_
    ((have hbw := below_own hb1); repeat (with_reducible (first | exact hbw | refine below_set ?_ (Nat.le_refl _) _ _ | refine belowN ?_ _ | refine belowA ?_ _)))
  · have hf : foreignOf s.data.toList = none := foreign_no (by rintro ⟨_, _, x, y, h, _⟩; have := hc.out; rw [ht.out] at this; simp at this; rw [h] at this; cases this)
    refine bodyPost_ret (v := .tuple #[.agg #[.int .i64 4, .int .i64 0, .int .i64 0, .int .i64 0, .int .i64 0, .int .i64 0], .bool false]) (by simp [results, Tryd.results74, go_sem, c0, hz]) rfl ?_
    refine read_post ⟨4, 0, []⟩ (fun q hq => by rw [HR.out, hf] at hq; cases hq) (by simp) _ (by rw [HR.out, hf]; rfl) rfl ?_
    ((have hbw := below_own hb1); repeat (with_reducible (first | exact hbw | refine below_set ?_ (Nat.le_refl _) _ _ | refine belowN ?_ _ | refine belowA ?_ _)))
  · have hf : foreignOf s.data.toList = none := foreign_no (by rintro ⟨_, h, _⟩; have := HL.out; omega)
    refine bodyPost_ret (v := .tuple #[.agg #[.int .i64 0, .int .i64 0, .int .i64 0, .int .i64 0, .int .i64 0, .int .i64 0], .bool false]) (by simp [results, Tryd.results74, go_sem, c0, hz]) rfl ?_
    refine read_post ⟨0, 0, []⟩ (fun q hq => by rw [HR.out, hf] at hq; cases hq) (by simp) _ (by rw [HR.out, hf]; rfl) rfl ?_
    ((have hbw := below_own hb1); repeat (with_reducible (first | exact hbw | refine below_set ?_ (Nat.le_refl _) _ _ | refine belowN ?_ _ | refine belowA ?_ _)))
  · have hf : foreignOf s.data.toList = none := foreign_no (by rintro ⟨h, _⟩; rw [hp.out] at h; cases h)
    refine bodyPost_ret (v := .tuple #[.agg #[.int .i64 0, .int .i64 0, .int .i64 0, .int .i64 0, .int .i64 0, .int .i64 0], .bool false]) (by simp [results, Tryd.results74, go_sem, c0, hz]) rfl ?_
    refine read_post ⟨0, 0, []⟩ (fun q hq => by rw [HR.out, hf] at hq; cases hq) (by simp) _ (by rw [HR.out, hf]; rfl) rfl ?_
    ((have hbw := below_own hb1); repeat (with_reducible (first | exact hbw | refine below_set ?_ (Nat.le_refl _) _ _ | refine belowN ?_ _ | refine belowA ?_ _)))
end Go.Proofs.YthgiianmfehcaaaDoor
