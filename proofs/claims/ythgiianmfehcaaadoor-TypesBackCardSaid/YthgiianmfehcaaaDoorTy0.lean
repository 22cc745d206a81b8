/- Walks of the smallest functions of package types. -/
import Derived.Test.YthgiianmfehcaaaDoorRows
import Derived.WalkKit
import Derived.WalkSpells
import Derived.Lib.Hide
import Derived.Deep.QuietTactic
import Derived.BigQuiet
set_option linter.unusedVariables false
set_option linter.unusedSimpArgs false
namespace Go.Proofs.YthgiianmfehcaaaDoor
open Go Go.RowKit

theorem below_iter {B : Nat} {w : World} (h : B ≤ w.heap.size) (s : ByteArray) (p : Nat) : Below B w (w.iter s p) := (Below.refl B w).alloc h _

/-- What is left of a number's digits, read on. -/
def numFrom : List UInt8 → Nat → Option Nat
  | [], n => some n
  | c :: l, n => if 48 ≤ c.toNat ∧ c.toNat ≤ 57 then numFrom l (10 * n + (c.toNat - 48)) else none
/-- `types.number`. -/
def numOf (l : List UInt8) : Option Nat :=
  if l = [] ∨ 8 < l.length ∨ (1 < l.length ∧ l.head? = some 48) then none else numFrom l 0
def numRes (o : Option Nat) (m : Int) : Value :=
  match o with
  | some n => .tuple #[.int .i64 n, .bool (decide ((n : Int) ≤ m))]
  | none => .tuple #[.int .i64 0, .bool false]
def NumPost (l : List UInt8) (m : Int) (w : World) (e : Ending) (w' : World) : Prop := e = .returned (numRes (numOf l) m) ∧ Below w.heap.size w w'

theorem numFrom_lt : ∀ (l : List UInt8) (n N : Nat), numFrom l n = some N → N < (n + 1) * 10 ^ l.length
  | [], n, N, h => by simp [numFrom] at h; simp; omega
  | c :: l, n, N, h => by
    simp only [numFrom] at h
    split at h
    · have := numFrom_lt l _ _ h
      rw [List.length_cons, Nat.pow_succ]
      have h2 : (10 * n + (c.toNat - 48) + 1) * 10 ^ l.length ≤ (n + 1) * 10 * 10 ^ l.length := Nat.mul_le_mul_right _ (by omega)
      rw [Nat.mul_comm (10 ^ l.length) 10, ← Nat.mul_assoc]
      omega
    · cases h
theorem toList_nil_iff (s : ByteArray) : s.toList = [] ↔ s.data.toList = [] := by rw [ByteArray.toList_eq]


theorem data_get (s : ByteArray) (i : Nat) (h : i < s.size) : s.data.toList.drop i = s[i]'h :: s.data.toList.drop (i + 1) := by
  rw [List.drop_eq_getElem_cons (by simpa using h)]; rfl

theorem num_stop {s : ByteArray} {pos acc : Nat} (h : pos < s.size) (hd : Hid (s.data.toList.drop pos = s[pos]'h :: s.data.toList.drop (pos + 1)))
    (Hr : Hid (numFrom (s.data.toList.drop pos) acc = numOf s.data.toList)) (hb : ((s[pos]'h).toNat : Int) < 48 ∨ 57 < ((s[pos]'h).toNat : Int)) : numOf s.data.toList = none := by
  rw [← Hr.out, hd.out, numFrom, if_neg (by omega)]
theorem num_more {s : ByteArray} {pos acc : Nat} (h : pos < s.size) (hd : Hid (s.data.toList.drop pos = s[pos]'h :: s.data.toList.drop (pos + 1)))
    (Hr : Hid (numFrom (s.data.toList.drop pos) acc = numOf s.data.toList)) (hb : 48 ≤ ((s[pos]'h).toNat : Int) ∧ ((s[pos]'h).toNat : Int) ≤ 57) : numFrom (s.data.toList.drop (pos + 1)) (10 * acc + ((s[pos]'h).toNat - 48)) = numOf s.data.toList := by
  rw [← Hr.out, hd.out, numFrom, if_pos (by omega)]
theorem numPost_none {l : List UInt8} {m : Int} {w w' : World} (h : numOf l = none) (hb : Below w.heap.size w w') :
    NumPost l m w (.returned (.tuple #[.int .i64 0, .bool false])) w' := ⟨by rw [h]; rfl, hb⟩
theorem numPost_some {l : List UInt8} {m : Int} {n : Nat} {w w' : World} (h : numOf l = some n) (hb : Below w.heap.size w w') :
    NumPost l m w (.returned (.tuple #[.int .i64 n, .bool (decide ((n : Int) ≤ m))])) w' := ⟨by rw [h]; rfl, hb⟩

set_option maxHeartbeats 1000000 in
theorem number_loop (s : ByteArray) (m : Int) (w : World) (h1 : 0 < s.size) (h2 : s.size ≤ 8) (h3 : s.data.toList.head? = some 48 → s.size = 1) :
    Calls Tryd.prog 69 #[.string s, .int .i64 m] w (NumPost s.data.toList m w) := by
  have hl : s.data.toList.length = s.size := by simp
  have hn : numOf s.data.toList = numFrom s.data.toList 0 := by
    unfold numOf; rw [if_neg]; rintro (h | h | ⟨h, h'⟩)
    · rw [h] at hl; simp at hl; omega
    · omega
    · have := h3 h'; omega
  have hne : s.toList.isEmpty = false := by
    rw [List.isEmpty_eq_false_iff]; intro h; rw [toList_nil_iff] at h; rw [h] at hl; simp at hl; omega
  have h48 : 1 < s.size → ((((s[0]'h1).toNat : Int)) == 48) = false := by
    intro h; rw [beq_eq_false_iff_ne]; intro h'
    have := data_get s 0 h1
    rw [List.drop_zero] at this
    have := h3 (by rw [this]; simp; exact UInt8.toNat_inj.1 (by simp; omega))
    omega
  have HN := Lib.hid hn; clear hn hl
  have key : ∀ (b1 : s.size ≤ 1 ∨ 1 < s.size), Calls Tryd.prog 69 #[.string s, .int .i64 m] w (NumPost s.data.toList m w) := by
    intro b1
    rcases b1 with b1 | b1
    all_goals
      first
        | (have hb : ((1 : Int) < (s.size : Int)) = False := by simp; omega)
        | (have h0 := h48 b1)
      clear h48 h3
      go_enter Tryd.func69, Tryd.ntmps69
      go_wp2_with fail
      go_loopw [6] (fun n w' => ∃ (pos acc : Nat), pos ≤ s.size ∧ w' = w.iter s pos ∧ n = .int .i64 acc ∧ acc < 10 ^ pos ∧ numFrom (s.data.toList.drop pos) acc = numOf s.data.toList) (fun _ w' => s.size - w'.iterPos w.heap.size)
      case atStart => exact ⟨0, 0, by omega, rfl, rfl, by simp, by rw [HN.out]; rfl⟩
      case round =>
        obtain ⟨pos, acc, hp, rfl, rfl, hacc, hrest⟩ := hrel
        have Hr := Lib.hid hrest
        have hacc8 : acc < 100000000 := Nat.lt_of_lt_of_le hacc (Nat.le_trans (Nat.pow_le_pow_right (by omega) (show pos ≤ 8 by omega)) (by decide))
        have Hacc := Lib.hid hacc
        clear hrest hacc
        rcases Nat.lt_or_ge pos s.size with hlt | hge
        · have hd := Lib.hid (data_get s pos hlt)
          rcases Nat.lt_or_ge (s[pos]'hlt).toNat 128 with ha | ha
          · have hnx : ∀ ty, (Instr.next (.pointer (some ⟨w.heap.size, 0, none⟩)) true ty).run Tryd.prog (w.iter s pos) = _ := fun ty => run_next_ascii w s pos ty hlt ha
            go_wp2_with fail
            all_goals first
              | (go_ret2; exact numPost_none (num_stop hlt hd Hr (by omega)) (below_iter (Nat.le_refl _) _ _))
              | (go_roundw
                 case rel =>
                  refine ⟨pos + 1, 10 * acc + ((s[pos]'hlt).toNat - 48), by omega, rfl, by go_num, ?_, num_more hlt hd Hr ⟨by omega, by omega⟩⟩
                  have := Hacc.out
                  rw [Nat.pow_succ]; omega
                 case measure => simp; omega)
          · have hdec := decode_high s pos hlt ha
            have hdec2 := hdec.1
            have hdec3 := decode_le s pos
            clear hdec
            have hnx : ∀ ty, (Instr.next (.pointer (some ⟨w.heap.size, 0, none⟩)) true ty).run Tryd.prog (w.iter s pos) = _ := fun ty => run_next_any w s pos ty hlt
            go_wp2_with fail
            all_goals (go_ret2; exact numPost_none (num_stop hlt hd Hr (by omega)) (below_iter (Nat.le_refl _) _ _))
        · have hpe : pos = s.size := by omega
          subst hpe
          have hnx : ∀ ty, (Instr.next (.pointer (some ⟨w.heap.size, 0, none⟩)) true ty).run Tryd.prog (w.iter s s.size) = _ := fun ty => run_next_end w s s.size ty (by omega)
          go_wp2_with fail
          all_goals (go_ret2; exact numPost_some (by rw [← Hr.out, List.drop_of_length_le (by simp)]; rfl) (below_iter (Nat.le_refl _) _ _))
  exact key (by omega)

theorem number_any (s : ByteArray) (m : Int) (w : World) :
    Calls Tryd.prog 69 #[.string s, .int .i64 m] w (NumPost s.data.toList m w) := by
  have hl : s.data.toList.length = s.size := by simp
  by_cases hc : s.data.toList = [] ∨ 8 < s.data.toList.length ∨ (1 < s.data.toList.length ∧ s.data.toList.head? = some 48)
  · have hn : numOf s.data.toList = none := by unfold numOf; rw [if_pos hc]
    have HN := Lib.hid hn; clear hn
    have hr : ∀ e w', e = .returned (.tuple #[.int .i64 0, .bool false]) → Below w.heap.size w w' → NumPost s.data.toList m w e w' := fun e w' h1 h2 => by subst h1; exact numPost_none HN.out h2
    have hc2 : s.toList.isEmpty = true ∨ (s.toList.isEmpty = false ∧ 8 < s.size) ∨ (s.toList.isEmpty = false ∧ 1 < s.size ∧ s.size ≤ 8 ∧ ∃ h : 0 < s.size, ((((s[0]'h).toNat : Int)) == 48) = true) := by
      rw [hl] at hc
      by_cases h : s.toList = []
      · exact .inl (by rw [h]; rfl)
      · right
        have h' : s.toList.isEmpty = false := by rw [List.isEmpty_eq_false_iff]; exact h
        rw [toList_nil_iff] at h
        rcases hc with hc | hc | ⟨hc, hc'⟩
        · exact absurd hc h
        · exact .inl ⟨h', hc⟩
        · by_cases h8 : 8 < s.size
          · exact .inl ⟨h', h8⟩
          · refine .inr ⟨h', hc, by omega, by omega, ?_⟩
            have := data_get s 0 (by omega)
            rw [List.drop_zero] at this
            rw [this] at hc'
            simp at hc'
            rw [hc']; decide
    clear hc hl
    rcases hc2 with h | ⟨h, h8⟩ | ⟨h, h1, h8, hp, h0⟩
    all_goals
      go_enter Tryd.func69, Tryd.ntmps69
      go_wp2_with fail
      all_goals (go_ret2; exact hr _ _ rfl (Below.refl _ _))
  · have h1 : 0 < s.size := by
      rcases Nat.eq_zero_or_pos s.size with h | h
      · exact absurd (.inl (List.length_eq_zero_iff.1 (by omega))) hc
      · exact h
    exact number_loop s m w h1 (by omega) (fun h => by
      rcases Nat.lt_or_ge 1 s.size with h' | h'
      · exact absurd (.inr (.inr ⟨by omega, h⟩)) hc
      · omega)
end Go.Proofs.YthgiianmfehcaaaDoor
