/- The reference of types: Read, where the string is no type with cells. -/
import Derived.Test.YthgiianmfehcaaaDoorRf1
import Derived.Test.YthgiianmfehcaaaDoorRf4
import Derived.Test.YthgiianmfehcaaaDoorRf5
namespace Go.Proofs.YthgiianmfehcaaaDoor
open Go Go.RowKit Go.Sort
set_option linter.unusedVariables false
set_option linter.unusedSimpArgs false

theorem numT_some {s : ByteArray} {q : Pd} (h : elemOf s.data.toList = some q) (w : World) :
    Calls Tryd.prog 50 #[.string s] w fun e w' => e = .returned (.tuple #[.int .i64 q.bits, .bool (q.kind == 1), .bool true]) ∧ w = w' :=
  (numT_any s w).mono fun e w' ⟨hw, he⟩ => ⟨by rw [h] at he; exact he, hw⟩
theorem numT_none {s : ByteArray} (h : elemOf s.data.toList = none) (w : World) :
    Calls Tryd.prog 50 #[.string s] w fun e w' => (∃ v : Int, e = .returned (.tuple #[.int .i64 v, .bool false, .bool false])) ∧ w = w' :=
  (numT_any s w).mono fun e w' ⟨hw, he⟩ => ⟨by rw [h] at he; exact he, hw⟩

/-- A value of the reference's T. -/
abbrev tv (k b : Int) (v : Value) (el : ByteArray) : Value := .agg #[.int .i64 k, .int .i64 b, v, .string el]
abbrev tCells (k b : Int) (v : Value) (el : ByteArray) : Array Value := #[.int .i64 k, .int .i64 b, v, .string el]
def elT (q : Pd) : List UInt8 := if q.kind = 2 ∨ q.kind = 3 then elStr q.bits else []
def bitsT (q : Pd) : Nat := if q.kind ≤ 1 then q.bits else 0
theorem own_slice {W : World} {base : Nat} {e : TypeId} {v : Value} {n : Nat} {xs : List Value} (h : W.ownsRow base e 1 v n xs) : ∃ sa sc, v = .slice sa n sc := by
  rcases h.2 with ⟨h1, h2⟩ | ⟨g, c, cur, h1, -⟩
  · exact ⟨none, 0, by rw [h1, h2]⟩
  · exact ⟨_, _, h1⟩
def RReadPost (l : List UInt8) (w : World) (e : Ending) (w' : World) : Prop :=
  Below w.heap.size w w' ∧ match readOf l with
  | some q => ∃ sa sc, e = .returned (.tuple #[tv q.kind (bitsT q) (.slice sa q.ext.length sc) ⟨(elT q).toArray⟩, .bool true]) ∧ w'.ownsRow w.heap.size 3 1 (.slice sa q.ext.length sc) q.ext.length (q.ext.map (fun (n : Nat) => Value.int .i64 n))
  | none => ∃ k b el, e = .returned (.tuple #[tv k b (.slice none 0 0) el, .bool false])
theorem rread_yes {l : List UInt8} {q : Pd} {w w' : World} {e : Ending} (h : readOf l = some q) (v : Value) (he : e = .returned (.tuple #[tv q.kind (bitsT q) v ⟨(elT q).toArray⟩, .bool true]))
    (hv : w'.ownsRow w.heap.size 3 1 v q.ext.length (q.ext.map (fun (n : Nat) => Value.int .i64 n))) (hb : Below w.heap.size w w') : RReadPost l w e w' := ⟨hb, by
  rw [h]
  obtain ⟨sa, sc, rfl⟩ := own_slice hv
  exact ⟨sa, sc, he, hv⟩⟩
theorem rread_no {l : List UInt8} {w w' : World} {e : Ending} (h : readOf l = none) (k b : Int) (el : ByteArray) (he : e = .returned (.tuple #[tv k b (.slice none 0 0) el, .bool false])) (hb : Below w.heap.size w w') : RReadPost l w e w' :=
  ⟨hb, by rw [h]; exact ⟨k, b, el, he⟩⟩

theorem elemOf_form {l : List UInt8} {q : Pd} (h : elemOf l = some q) : q = ⟨1, 64, []⟩ ∨ ∃ n, q = ⟨0, n, []⟩ := by
  unfold elemOf at h
  split at h
  · cases h; exact .inl rfl
  · split at h
    · split at h
      · split at h
        · cases h; exact .inr ⟨_, rfl⟩
        · cases h
      · cases h
    · cases h

set_option maxRecDepth 100000 in
set_option maxHeartbeats 1000000 in
theorem rread_elem (s : ByteArray) (q : Pd) (w : World) (h : elemOf s.data.toList = some q) : Calls Tryd.prog 28 #[.string s] w (RReadPost s.data.toList w) := by
  have hr : readOf s.data.toList = some q := by unfold readOf; rw [h]
  have HR := Lib.hid hr
  have H := Lib.hid h
  rcases elemOf_form h with rfl | ⟨n, rfl⟩
  all_goals
    clear h hr
    go_enter Tryd.func28, Tryd.ntmps28
    go_wp2_with (go_at_call 50; refine (numT_some H.out _).mono ?_; rintro e w1 ⟨rfl, rfl⟩)
  · refine bodyPost_ret (v := .tuple #[tv 1 64 (.slice none 0 0) ⟨#[]⟩, .bool true]) (by simp [results, Tryd.results28, go_sem]) rfl ?_
    exact rread_yes HR.out (.slice none 0 0) rfl (World.ownsRow_nil _ _ _ _) (by repeat (with_reducible (first | exact Below.refl _ _ | refine below_set ?_ (Nat.le_refl _) _ _ | refine belowA ?_ _)))
  · refine bodyPost_ret (v := .tuple #[tv 0 n (.slice none 0 0) ⟨#[]⟩, .bool true]) (by simp [results, Tryd.results28, go_sem]) rfl ?_
    exact rread_yes HR.out (.slice none 0 0) rfl (World.ownsRow_nil _ _ _ _) (by repeat (with_reducible (first | exact Below.refl _ _ | refine below_set ?_ (Nat.le_refl _) _ _ | refine belowA ?_ _)))

theorem foreignOf_pair (l : List UInt8) : foreignOf (33 :: l) = if pairOf l 59 then some ⟨4, 0, []⟩ else none := by
  unfold foreignOf pairOf
  have hp : Lib.hasPrefix (33 :: l) [33] = true := by simp [Lib.hasPrefix, List.isPrefixOf]
  have hl : ((33 :: l).length ≤ 60) = (l.length ≤ 59) := by simp
  by_cases h : l.length ≤ 59
  · rw [if_pos ⟨hp, by simp; omega⟩]
    simp only [h, decide_true, Bool.true_and, List.tail_cons]
    cases cutOf 46 l with
    | none => rfl
    | some p => obtain ⟨x, y⟩ := p; rfl
  · rw [if_neg (by simp; omega)]
    simp [h]
theorem readOf_foreign {l : List UInt8} (h : elemOf (33 :: l) = none) : readOf (33 :: l) = if pairOf l 59 then some ⟨4, 0, []⟩ else none := by
  rw [← foreignOf_pair]
  unfold readOf
  rw [h]
  have hm : ∀ (k : List UInt8) (c : UInt8), c ≠ 33 → Lib.hasPrefix ((33 :: l).take ((33 :: l).length - 1)) (c :: k) = false := by
    intro k c hc
    cases l with
    | nil => simp [Lib.hasPrefix, List.isPrefixOf]
    | cons b l => simp [Lib.hasPrefix, List.isPrefixOf, hc]
  dsimp only
  rw [hm _ _ (by decide), hm _ _ (by decide)]
  simp

set_option maxRecDepth 100000 in
set_option maxHeartbeats 1000000 in
theorem rread_foreign (s : ByteArray) (w : World) (h : elemOf s.data.toList = none) (h1 : 1 < s.size) (h0 : s[0]'(by omega) = 33) : Calls Tryd.prog 28 #[.string s] w (RReadPost s.data.toList w) := by
  have hd := data_get s 0 (by omega)
  rw [List.drop_zero, h0] at hd
  have hr := readOf_foreign (l := s.data.toList.drop 1) (by rw [← hd]; exact h)
  rw [← hd] at hr
  have hx : (s.extract 1 s.size).data.toList = s.data.toList.drop 1 := by
    simp [ByteArray.data_extract]; exact List.take_of_length_le (by simp)
  have hb0 : (((s[0]'(by omega)).toNat : Int) == 33) = true := by rw [h0]; rfl
  have hq1 : (1 : Int) < (s.size : Int) := by omega
  have hq2 : (1 : Int) ≤ (s.size : Int) := by omega
  have H := Lib.hid h
  have HR := Lib.hid hr
  have HX := Lib.hid hx
  clear h hd hr hx h0
  go_enter Tryd.func28, Tryd.ntmps28
  go_wp2_with (first
    | (go_at_call 50; refine (numT_none H.out _).mono ?_; rintro e w1 ⟨⟨v, rfl⟩, rfl⟩)
    | (go_at_call 57; refine (risPair_any _ 59 (by omega) _).mono ?_; rintro e w1 ⟨rfl, rfl⟩; rw [HX.out]))
  refine bodyPost_ret (v := .tuple #[tv 4 0 (.slice none 0 0) ⟨#[]⟩, .bool (pairOf (s.data.toList.drop 1) 59)]) (by simp [results, Tryd.results28, go_sem]) rfl ?_
  cases hp : pairOf (s.data.toList.drop 1) 59
  · exact rread_no (by rw [HR.out, hp]; rfl) 4 0 ⟨#[]⟩ rfl (by repeat (with_reducible (first | exact Below.refl _ _ | refine below_set ?_ (Nat.le_refl _) _ _ | refine belowA ?_ _)))
  · exact rread_yes (by rw [HR.out, hp]; rfl) (.slice none 0 0) rfl (World.ownsRow_nil _ _ _ _) (by repeat (with_reducible (first | exact Below.refl _ _ | refine below_set ?_ (Nat.le_refl _) _ _ | refine belowA ?_ _)))
end Go.Proofs.YthgiianmfehcaaaDoor
