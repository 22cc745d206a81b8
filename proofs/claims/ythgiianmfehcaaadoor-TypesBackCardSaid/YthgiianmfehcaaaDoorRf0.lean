/- The reference of types: numbers. -/
import Derived.Test.YthgiianmfehcaaaDoorTy9
namespace Go.Proofs.YthgiianmfehcaaaDoor
open Go Go.RowKit Go.Sort
set_option linter.unusedVariables false
set_option linter.unusedSimpArgs false

/-- `Num`. -/
def rnumOf (l : List UInt8) : Option Nat :=
  if l = [] ∨ 9 < l.length ∨ (1 < l.length ∧ l.head? = some 48) then none else numFrom l 0
theorem numFrom_ge : ∀ (l : List UInt8) (n N : Nat), numFrom l n = some N → n * 10 ^ l.length ≤ N
  | [], n, N, h => by simp [numFrom] at h; simp; omega
  | c :: l, n, N, h => by
    simp only [numFrom] at h
    split at h
    · have := numFrom_ge l _ _ h
      rw [List.length_cons, Nat.pow_succ]
      have h2 : 10 * n * 10 ^ l.length ≤ (10 * n + (c.toNat - 48)) * 10 ^ l.length := Nat.mul_le_mul_right _ (by omega)
      rw [Nat.mul_comm (10 ^ l.length) 10, ← Nat.mul_assoc, Nat.mul_comm n 10]
      omega
    · cases h
theorem rnum_small {l : List UInt8} {n : Nat} (h : n ≤ 1000) : rnumOf l = some n ↔ numOf l = some n := by
  unfold rnumOf numOf
  by_cases h9 : l.length = 9
  · rw [if_pos (c := l = [] ∨ 8 < l.length ∨ _) (.inr (.inl (by omega)))]
    constructor
    · intro hn
      split at hn
      · cases hn
      · rename_i hc
        match l, h9, hc, hn with
        | c :: l, h9, hc, hn =>
          simp only [numFrom] at hn
          split at hn
          · rename_i hr
            have hl8 : l.length = 8 := by simpa using h9
            have hc48 : c ≠ 48 := fun he => hc (.inr (.inr ⟨by simp; omega, by simp [he]⟩))
            have hcn : c.toNat ≠ 48 := fun he => hc48 (UInt8.toNat_inj.1 (by simpa using he))
            have := numFrom_ge l _ _ hn
            rw [hl8] at this
            omega
          · cases hn
    · intro hn; cases hn
  · have h98 : (9 < l.length) = (8 < l.length) := by rw [eq_iff_iff]; omega
    simp only [h98]

def RNumPost (l : List UInt8) (m : Int) (w : World) (e : Ending) (w' : World) : Prop := e = .returned (numRes (rnumOf l) m) ∧ w = w'
theorem rnum_stop {s : ByteArray} {pos acc : Nat} (h : pos < s.size) (hd : Hid (s.data.toList.drop pos = s[pos]'h :: s.data.toList.drop (pos + 1)))
    (Hr : Hid (numFrom (s.data.toList.drop pos) acc = rnumOf s.data.toList)) (hb : ((s[pos]'h).toNat : Int) < 48 ∨ 57 < ((s[pos]'h).toNat : Int)) : rnumOf s.data.toList = none := by
  rw [← Hr.out, hd.out, numFrom, if_neg (by omega)]
theorem rnum_more {s : ByteArray} {pos acc : Nat} (h : pos < s.size) (hd : Hid (s.data.toList.drop pos = s[pos]'h :: s.data.toList.drop (pos + 1)))
    (Hr : Hid (numFrom (s.data.toList.drop pos) acc = rnumOf s.data.toList)) (hb : 48 ≤ ((s[pos]'h).toNat : Int) ∧ ((s[pos]'h).toNat : Int) ≤ 57) : numFrom (s.data.toList.drop (pos + 1)) (10 * acc + ((s[pos]'h).toNat - 48)) = rnumOf s.data.toList := by
  rw [← Hr.out, hd.out, numFrom, if_pos (by omega)]
theorem rnumPost_none {l : List UInt8} {m : Int} {w w' : World} (h : rnumOf l = none) (hb : w = w') :
    RNumPost l m w (.returned (.tuple #[.int .i64 0, .bool false])) w' := ⟨by rw [h]; rfl, hb⟩
theorem rnumPost_some {l : List UInt8} {m : Int} {n : Nat} {w w' : World} (h : rnumOf l = some n) (hb : w = w') :
    RNumPost l m w (.returned (.tuple #[.int .i64 n, .bool (decide ((n : Int) ≤ m))])) w' := ⟨by rw [h]; rfl, hb⟩

set_option maxHeartbeats 1000000 in
theorem rnum_loop (s : ByteArray) (m : Int) (w : World) (h1 : 0 < s.size) (h2 : s.size ≤ 9) (h3 : s.data.toList.head? = some 48 → s.size = 1) :
    Calls Tryd.prog 58 #[.string s, .int .i64 m] w (RNumPost s.data.toList m w) := by
  have hl : s.data.toList.length = s.size := by simp
  have hn : rnumOf s.data.toList = numFrom s.data.toList 0 := by
    unfold rnumOf; rw [if_neg]; rintro (h | h | ⟨h, h'⟩)
    · rw [h] at hl; simp at hl; omega
    · omega
    · have := h3 h'; omega
  have hne : s.toList.isEmpty = false := by
    rw [List.isEmpty_eq_false_iff]; intro h; rw [toList_nil_iff] at h; rw [h] at hl; simp at hl; omega
  have h48 : 1 < s.size → ((((s[0]'h1).toNat : Int)) == 48) = false := by
    intro h; rw [beq_eq_false_iff_ne]; intro h'
    have := data_get s 0 h1
    rw [List.drop_zero] at this
    have := h3 (by rw [this]; simp; exact UInt8.toNat_inj.1 (by simp; omega))
    omega
  have HN := Lib.hid hn; clear hn hl
  have key : ∀ (b1 : s.size ≤ 1 ∨ 1 < s.size), Calls Tryd.prog 58 #[.string s, .int .i64 m] w (RNumPost s.data.toList m w) := by
    intro b1
    rcases b1 with b1 | b1
    all_goals
      first
        | (have hb : ((1 : Int) < (s.size : Int)) = False := by simp; omega)
        | (have h0 := h48 b1)
      clear h48 h3
      go_enter Tryd.func58, Tryd.ntmps58
      go_wp2_with fail
      go_loop [6, 7] (fun n i => ∃ (pos acc : Nat), pos ≤ s.size ∧ i = .int .i64 pos ∧ n = .int .i64 acc ∧ acc < 10 ^ pos ∧ numFrom (s.data.toList.drop pos) acc = rnumOf s.data.toList) (fun _ i => s.size - (intOf i).toNat)
      case atStart => exact ⟨0, 0, by omega, rfl, rfl, by simp, by rw [HN.out]; rfl⟩
      case round =>
        obtain ⟨pos, acc, hp, rfl, rfl, hacc, hrest⟩ := hrel
        have Hr := Lib.hid hrest
        have hacc8 : acc < 1000000000 := Nat.lt_of_lt_of_le hacc (Nat.le_trans (Nat.pow_le_pow_right (by omega) (show pos ≤ 9 by omega)) (by decide))
        have Hacc := Lib.hid hacc
        clear hrest hacc
        rcases Nat.lt_or_ge pos s.size with hlt | hge
        · have hd := Lib.hid (data_get s pos hlt)
          obtain ⟨c, hc⟩ : ∃ c, c = s[pos]'hlt := ⟨_, rfl⟩
          have hcases : (((s[pos]'hlt).toNat : Int) < 48) ∨ (57 < ((s[pos]'hlt).toNat : Int)) ∨ (48 ≤ ((s[pos]'hlt).toNat : Int) ∧ ((s[pos]'hlt).toNat : Int) ≤ 57) := by omega
          clear hc
          rcases hcases with h | h | ⟨h, h'⟩
          · go_wp2_with fail
            all_goals (go_ret2; exact rnumPost_none (rnum_stop hlt hd Hr (by omega)) rfl)
          · go_wp2_with fail
            all_goals (go_ret2; exact rnumPost_none (rnum_stop hlt hd Hr (by omega)) rfl)
          · go_wp2_with fail
            go_round
            case rel =>
              refine ⟨pos + 1, 10 * acc + ((s[pos]'hlt).toNat - 48), by omega, by go_num, by go_num, ?_, rnum_more hlt hd Hr ⟨by omega, by omega⟩⟩
              have := Hacc.out
              rw [Nat.pow_succ]; omega
            case measure => simp [intOf]; omega
        · have hpe : pos = s.size := by omega
          subst hpe
          go_wp2_with fail
          all_goals (go_ret2; exact rnumPost_some (by rw [← Hr.out, List.drop_of_length_le (by simp)]; rfl) rfl)
  exact key (by omega)
theorem rnum_any (s : ByteArray) (m : Int) (w : World) :
    Calls Tryd.prog 58 #[.string s, .int .i64 m] w (RNumPost s.data.toList m w) := by
  have hl : s.data.toList.length = s.size := by simp
  by_cases hc : s.data.toList = [] ∨ 9 < s.data.toList.length ∨ (1 < s.data.toList.length ∧ s.data.toList.head? = some 48)
  · have hn : rnumOf s.data.toList = none := by unfold rnumOf; rw [if_pos hc]
    have HN := Lib.hid hn; clear hn
    have hr : ∀ e w', e = .returned (.tuple #[.int .i64 0, .bool false]) → w = w' → RNumPost s.data.toList m w e w' := fun e w' h1 h2 => by subst h1; exact rnumPost_none HN.out h2
    have hc2 : s.toList.isEmpty = true ∨ (s.toList.isEmpty = false ∧ 9 < s.size) ∨ (s.toList.isEmpty = false ∧ 1 < s.size ∧ s.size ≤ 9 ∧ ∃ h : 0 < s.size, ((((s[0]'h).toNat : Int)) == 48) = true) := by
      rw [hl] at hc
      by_cases h : s.toList = []
      · exact .inl (by rw [h]; rfl)
      · right
        have h' : s.toList.isEmpty = false := by rw [List.isEmpty_eq_false_iff]; exact h
        rw [toList_nil_iff] at h
        rcases hc with hc | hc | ⟨hc, hc'⟩
        · exact absurd hc h
        · exact .inl ⟨h', hc⟩
        · by_cases h8 : 9 < s.size
          · exact .inl ⟨h', h8⟩
          · refine .inr ⟨h', hc, by omega, by omega, ?_⟩
            have := data_get s 0 (by omega)
            rw [List.drop_zero] at this
            rw [this] at hc'
            simp at hc'
            rw [hc']; decide
    clear hc hl
    rcases hc2 with h | ⟨h, h8⟩ | ⟨h, h1, h8, hp, h0⟩
    all_goals
      go_enter Tryd.func58, Tryd.ntmps58
      go_wp2_with fail
      all_goals (go_ret2; exact hr _ _ rfl rfl)
  · have h1 : 0 < s.size := by
      rcases Nat.eq_zero_or_pos s.size with h | h
      · exact absurd (.inl (List.length_eq_zero_iff.1 (by omega))) hc
      · exact h
    exact rnum_loop s m w h1 (by omega) (fun h => by
      rcases Nat.lt_or_ge 1 s.size with h' | h'
      · exact absurd (.inr (.inr ⟨by omega, h⟩)) hc
      · omega)
end Go.Proofs.YthgiianmfehcaaaDoor
