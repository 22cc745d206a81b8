/- More walks of package types: number types, products, the beginnings of types with cells, properties. -/
import Derived.Test.YthgiianmfehcaaaDoorTy1
namespace Go.Proofs.YthgiianmfehcaaaDoor
open Go Go.RowKit
set_option linter.unusedVariables false
set_option linter.unusedSimpArgs false

/-- A block of the call's own reads on behind a callee that keeps what lay. -/
theorem rdCell {W w1 : World} (hb : Below W.heap.size W w1) (A : Nat) (hA : A < W.heap.size) : ∀ j, w1.cell? ⟨A, j, none⟩ = W.cell? ⟨A, j, none⟩ := fun j => hb.cell (p := ⟨A, j, none⟩) hA
theorem rdFree {W w1 : World} (hb : Below W.heap.size W w1) (A : Nat) (hA : A < W.heap.size) : ∀ j, w1.frozen? ⟨A, j, none⟩ = W.frozen? ⟨A, j, none⟩ := fun j => hb.frozen (p := ⟨A, j, none⟩) hA

/-- What `types.read` tells of a type. -/
structure Pd where
  kind : Nat
  bits : Nat
  ext : List Nat
def Pd.val (p : Pd) : Value := .agg #[.int .i64 p.kind, .int .i64 p.bits, .int .i64 p.ext.length, .int .i64 (p.ext.getD 0 0 : Nat), .int .i64 (p.ext.getD 1 0 : Nat), .int .i64 (p.ext.getD 2 0 : Nat)]

theorem cutPrefix_yes (s : ByteArray) (p : List UInt8) (w : World) (h : Lib.hasPrefix s.data.toList p = true) :
    Calls Tryd.prog 51 #[.string s, .string ⟨p.toArray⟩] w fun e w' => ∃ t : ByteArray, e = .returned (.tuple #[.string t, .bool true]) ∧ Hid (t.data.toList = s.data.toList.drop p.length) ∧ w = w' := by
  refine (Tryd.strings_CutPrefix s ⟨p.toArray⟩ w).mono ?_
  rintro e w' ⟨rfl, rfl⟩
  exact ⟨⟨(Lib.trimPrefix s.data.toList p).toArray⟩, by simp [h], by simp [Lib.trimPrefix, h, Hid], rfl⟩
theorem cutPrefix_no (s : ByteArray) (p : List UInt8) (w : World) (h : Lib.hasPrefix s.data.toList p = false) :
    Calls Tryd.prog 51 #[.string s, .string ⟨p.toArray⟩] w fun e w' => e = .returned (.tuple #[.string s, .bool false]) ∧ w = w' := by
  refine (Tryd.strings_CutPrefix s ⟨p.toArray⟩ w).mono ?_
  rintro e w' ⟨rfl, rfl⟩
  simp [Lib.trimPrefix, h]
theorem cutSuffix_yes (s : ByteArray) (p : List UInt8) (w : World) (hs : s.size ≤ 9223372036854775807) (h : Lib.hasSuffix s.data.toList p = true) :
    Calls Tryd.prog 52 #[.string s, .string ⟨p.toArray⟩] w fun e w' => ∃ t : ByteArray, e = .returned (.tuple #[.string t, .bool true]) ∧ Hid (t.data.toList = s.data.toList.take (s.data.toList.length - p.length)) ∧ w = w' := by
  refine (Tryd.strings_CutSuffix s ⟨p.toArray⟩ w hs).mono ?_
  rintro e w' ⟨rfl, rfl⟩
  exact ⟨⟨(Lib.trimSuffix s.data.toList p).toArray⟩, by simp [h], by simp [Lib.trimSuffix, h, Hid], rfl⟩
theorem cutSuffix_no (s : ByteArray) (p : List UInt8) (w : World) (hs : s.size ≤ 9223372036854775807) (h : Lib.hasSuffix s.data.toList p = false) :
    Calls Tryd.prog 52 #[.string s, .string ⟨p.toArray⟩] w fun e w' => e = .returned (.tuple #[.string s, .bool false]) ∧ w = w' := by
  refine (Tryd.strings_CutSuffix s ⟨p.toArray⟩ w hs).mono ?_
  rintro e w' ⟨rfl, rfl⟩
  simp [Lib.trimSuffix, h]

theorem number_some (s : ByteArray) (m : Int) (n : Nat) (w : World) (h : numOf s.data.toList = some n) :
    Calls Tryd.prog 69 #[.string s, .int .i64 m] w fun e w' => e = .returned (.tuple #[.int .i64 n, .bool (decide ((n : Int) ≤ m))]) ∧ Below w.heap.size w w' :=
  (number_any s m w).mono fun e w' ⟨he, hb⟩ => ⟨by rw [he, h]; rfl, hb⟩
theorem number_none (s : ByteArray) (m : Int) (w : World) (h : numOf s.data.toList = none) :
    Calls Tryd.prog 69 #[.string s, .int .i64 m] w fun e w' => e = .returned (.tuple #[.int .i64 0, .bool false]) ∧ Below w.heap.size w w' :=
  (number_any s m w).mono fun e w' ⟨he, hb⟩ => ⟨by rw [he, h]; rfl, hb⟩

/-- `types.element`. -/
def elemOf (l : List UInt8) : Option Pd :=
  if l = [105, 110, 100, 101, 120] then some ⟨1, 64, []⟩
  else if Lib.hasPrefix l [105] then
    match numOf l.tail with
    | some n => if 0 < n ∧ n ≤ 64 then some ⟨0, n, []⟩ else none
    | none => none
  else none
def ElemPost (l : List UInt8) (w : World) (e : Ending) (w' : World) : Prop :=
  ∃ p : Pd, p.ext = [] ∧ (∀ q, elemOf l = some q → p = q) ∧ e = .returned (.tuple #[p.val, .bool (elemOf l).isSome]) ∧ Below w.heap.size w w'

theorem elem_index {s : ByteArray} {w w' : World} {e : Ending} (h : s.data.toList = [105, 110, 100, 101, 120])
    (he : e = .returned (.tuple #[.agg #[.int .i64 1, .int .i64 64, .int .i64 0, .int .i64 0, .int .i64 0, .int .i64 0], .bool true])) (hb : Below w.heap.size w w') : ElemPost s.data.toList w e w' :=
  ⟨⟨1, 64, []⟩, rfl, fun q hq => by simp [elemOf, h] at hq; exact hq, by rw [he]; simp [elemOf, h, Pd.val], hb⟩
theorem elem_any {l : List UInt8} {n : Nat} {b : Bool} {w w' : World} {e : Ending} (h0 : ¬ l = [105, 110, 100, 101, 120])
    (h1 : (b = true ∧ elemOf l = some ⟨0, n, []⟩) ∨ (b = false ∧ elemOf l = none))
    (he : e = .returned (.tuple #[.agg #[.int .i64 0, .int .i64 n, .int .i64 0, .int .i64 0, .int .i64 0, .int .i64 0], .bool b])) (hb : Below w.heap.size w w') : ElemPost l w e w' :=
  ⟨⟨0, n, []⟩, rfl, fun q hq => by rcases h1 with ⟨_, h⟩ | ⟨_, h⟩ <;> rw [h] at hq <;> simp at hq; exact hq, by rw [he]; rcases h1 with ⟨rfl, h⟩ | ⟨rfl, h⟩ <;> rw [h] <;> rfl, hb⟩

theorem below_set {B : Nat} {a w : World} {g : Nat} (h : Below B a w) (hg : B ≤ g) (i : Nat) (v : Value) : Below B a (w.setCell ⟨g, i, none⟩ v) := h.setCell (p := ⟨g, i, none⟩) hg v
theorem below_own {w w1 : World} {o : Obj} (hb : Below (w.alloc o).heap.size (w.alloc o) w1) : Below w.heap.size w w1 :=
  ((Below.refl _ w).alloc (Nat.le_refl _) _).trans (hb.mono (by simp))

set_option maxHeartbeats 1000000 in
theorem element_any (s : ByteArray) (w : World) :
    Calls Tryd.prog 42 #[.string s] w (ElemPost s.data.toList w) := by
  by_cases h0 : s.toList = [105, 110, 100, 101, 120]
  · have H0 := Lib.hid h0
    have h0b : (s.toList == [105, 110, 100, 101, 120]) = true := by rw [h0]; rfl
    clear h0
    go_enter Tryd.func42, Tryd.ntmps42
    go_wp2_with fail
    refine bodyPost_ret (v := .tuple #[.agg #[.int .i64 1, .int .i64 64, .int .i64 0, .int .i64 0, .int .i64 0, .int .i64 0], .bool true]) (by simp [results, Tryd.results42, go_sem]) rfl ?_
    exact elem_index (by rw [← ByteArray.toList_eq]; exact H0.out) rfl ((Below.refl _ w).alloc (Nat.le_refl _) _)
  · have H0 := Lib.hid (show ¬ s.data.toList = [105, 110, 100, 101, 120] by rw [← ByteArray.toList_eq]; exact h0)
    have h0b : (s.toList == [105, 110, 100, 101, 120]) = false := by rw [beq_eq_false_iff_ne]; exact h0
    clear h0
    cases hp : Lib.hasPrefix s.data.toList [105]
    · have HN := Lib.hid (show elemOf s.data.toList = none by unfold elemOf; rw [if_neg H0.out, hp]; rfl)
      have Hp := Lib.hid hp; clear hp
      cases hn : numOf s.data.toList
      all_goals
        have Hn := Lib.hid hn; clear hn
        go_enter Tryd.func42, Tryd.ntmps42
        go_wp2_with (first
          | (go_at_call 51; refine (cutPrefix_no _ _ _ Hp.out).mono ?_; rintro e w' ⟨rfl, rfl⟩)
          | (go_at_call 69; (first | refine (number_none _ _ _ Hn.out).mono ?_ | refine (number_some _ _ _ _ Hn.out).mono ?_); rintro e w' ⟨rfl, hb⟩; have hc := rdCell hb w.heap.size (by simp); have hf := rdFree hb w.heap.size (by simp)))
        refine bodyPost_ret (v := .tuple #[.agg #[.int .i64 0, .int .i64 _, .int .i64 0, .int .i64 0, .int .i64 0, .int .i64 0], .bool false]) (by simp [results, Tryd.results42, go_sem, hc]; try rfl) rfl ?_
        refine elem_any H0.out (.inr ⟨rfl, HN.out⟩) rfl ?_
        repeat (with_reducible refine below_set ?_ (Nat.le_refl _) _ _)
        exact below_own hb
    · have HP := Lib.hid (show elemOf s.data.toList = (match numOf s.data.toList.tail with | some n => if 0 < n ∧ n ≤ 64 then some ⟨0, n, []⟩ else none | none => none) by unfold elemOf; rw [if_neg H0.out, hp]; rfl)
      have Hp := Lib.hid hp; clear hp
      cases hn : numOf s.data.toList.tail
      all_goals
        rw [hn] at HP
        have Hn := Lib.hid hn; clear hn
        go_enter Tryd.func42, Tryd.ntmps42
        go_wp2_with (first
          | (go_at_call 51; refine (cutPrefix_yes _ _ _ Hp.out).mono ?_; rintro e w' ⟨t, rfl, ht, rfl⟩)
          | (go_at_call 69; (first | refine (number_none _ _ _ (by rw [ht.out]; simpa using Hn.out)).mono ?_ | refine (number_some _ _ _ _ (by rw [ht.out]; simpa using Hn.out)).mono ?_); rintro e w' ⟨rfl, hb⟩; have hc := rdCell hb w.heap.size (by simp); have hf := rdFree hb w.heap.size (by simp)))
        all_goals
          first
            | (refine bodyPost_ret (v := .tuple #[.agg #[.int .i64 0, .int .i64 _, .int .i64 0, .int .i64 0, .int .i64 0, .int .i64 0], .bool _]) (by simp [results, Tryd.results42, go_sem, hc]; first | done | exact ⟨rfl, rfl⟩ | rfl) rfl ?_
               refine elem_any H0.out ?_ rfl ?_
               · first
                   | exact .inr ⟨rfl, HP.out⟩
                   | exact .inr ⟨rfl, by rw [HP.out, if_neg (by omega)]⟩
                   | (rename_i n _; rcases Nat.eq_zero_or_pos n with h0 | h0
                      · exact .inr ⟨by simp [h0], by rw [HP.out, if_neg (by omega)]⟩
                      · exact .inl ⟨by simp [h0], by rw [HP.out, if_pos (by omega)]⟩)
                   | fail               
               · repeat (with_reducible refine below_set ?_ (Nat.le_refl _) _ _)
                 exact below_own hb)
end Go.Proofs.YthgiianmfehcaaaDoor
