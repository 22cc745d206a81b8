/- More walks of package types: letters and names, number types, products, the beginnings of types with cells. -/
import Derived.Test.YthgiianmfehcaaaDoorTy0
import Derived.Test.YthgiianmfehcaaaDoorShelf
namespace Go.Proofs.YthgiianmfehcaaaDoor
open Go Go.RowKit
set_option linter.unusedVariables false
set_option linter.unusedSimpArgs false

/-! ### graph.isLetter, graph.IsName -/
def isLet (c : UInt8) : Bool := decide (97 ≤ c.toNat ∧ c.toNat ≤ 122)
def isWord (c : UInt8) : Bool := isLet c || decide (48 ≤ c.toNat ∧ c.toNat ≤ 57) || decide (c.toNat = 95)
/-- `graph.IsName`. -/
def nameOf (l : List UInt8) : Bool := !l.isEmpty && decide (l.length ≤ 60) && (l.head?.map isLet).getD false && l.all isWord

theorem isLetter_any (c : UInt8) (w : World) :
    Calls Tryd.prog 98 #[.int .u8 c.toNat] w fun e w' => e = .returned (.bool (isLet c)) ∧ w = w' := by
  have hi : isLet c = (decide (97 ≤ (c.toNat : Int)) && decide ((c.toNat : Int) ≤ 122)) := by
    unfold isLet; rw [Bool.eq_iff_iff]; simp; omega
  have HI := Lib.hid hi; clear hi
  go_enter Tryd.func98, Tryd.ntmps98
  go_wp2_with fail
  all_goals (go_ret; exact ⟨by rw [HI.out]; simp; try omega, rfl⟩)

def BoolPost (b : Bool) (w : World) (e : Ending) (w' : World) : Prop := e = .returned (.bool b) ∧ w = w'

theorem nameOf_empty {l : List UInt8} (h : l = []) : nameOf l = false := by subst h; rfl
theorem nameOf_long {l : List UInt8} (h : 60 < l.length) : nameOf l = false := by simp [nameOf]; intros; omega
theorem nameOf_first {l : List UInt8} {c : UInt8} (h : l.head? = some c) (hc : isLet c = false) : nameOf l = false := by simp [nameOf, h, hc]
theorem nameOf_bad {l : List UInt8} {i : Nat} {c : UInt8} (h : l[i]? = some c) (hc : isWord c = false) : nameOf l = false := by
  have : l.all isWord = false := by
    rw [List.all_eq_false]; exact ⟨c, List.mem_of_getElem? h, by simp [hc]⟩
  simp [nameOf, this]

theorem bytes_get (s : ByteArray) (i : Nat) (h : i < s.size) : s.data.toList[i]? = some (s[i]'h) := by
  rw [List.getElem?_eq_getElem (by simpa using h)]; rfl

theorem take_word {l : List UInt8} {k : Nat} {c : UInt8} (h : l[k]? = some c) : (l.take (k + 1)).all isWord = ((l.take k).all isWord && isWord c) := by
  rw [List.take_add_one, h]; simp

set_option maxHeartbeats 1000000 in
theorem isName_any (s : ByteArray) (w : World) :
    Calls Tryd.prog 87 #[.string s] w (BoolPost (nameOf s.data.toList) w) := by
  have hl : s.data.toList.length = s.size := by simp
  by_cases h0 : s.toList = []
  · have hf := Lib.hid (nameOf_empty (l := s.data.toList) (by rw [← toList_nil_iff]; exact h0))
    have h0' : s.toList.isEmpty = true := by rw [h0]; rfl
    clear h0 hl
    go_enter Tryd.func87, Tryd.ntmps87
    go_wp2_with fail
    all_goals (go_ret; exact ⟨by rw [hf.out]; rfl, rfl⟩)
  have h0' : s.toList.isEmpty = false := by rw [List.isEmpty_eq_false_iff]; exact h0
  have hpos : 0 < s.size := by
    rcases Nat.eq_zero_or_pos s.size with h | h
    · exact absurd ((toList_nil_iff s).2 (List.length_eq_zero_iff.1 (by omega))) h0
    · exact h
  rcases Nat.lt_or_ge 60 s.size with h60 | h60
  · have hf := Lib.hid (nameOf_long (l := s.data.toList) (by omega))
    clear h0 hl
    go_enter Tryd.func87, Tryd.ntmps87
    go_wp2_with fail
    all_goals (go_ret; exact ⟨by rw [hf.out]; rfl, rfl⟩)
  have hhd : s.data.toList.head? = some (s[0]'hpos) := by rw [List.head?_eq_getElem?]; exact bytes_get s 0 hpos
  cases hc : isLet (s[0]'hpos)
  · have hf := Lib.hid (nameOf_first hhd hc)
    have Hc := Lib.hid hc
    clear h0 hl hhd hc
    go_enter Tryd.func87, Tryd.ntmps87
    go_wp2_with (go_at_call 98; refine (isLetter_any _ _).mono ?_; rintro e w' ⟨rfl, rfl⟩; rw [Hc.out])
    all_goals (go_ret; exact ⟨by rw [hf.out]; rfl, rfl⟩)
  · have Hc := Lib.hid hc
    have Hhd := Lib.hid hhd
    clear h0 hl hhd hc
    go_enter Tryd.func87, Tryd.ntmps87
    go_wp2_with (go_at_call 98; refine (isLetter_any _ _).mono ?_; rintro e w' ⟨rfl, rfl⟩; rw [Hc.out])
    go_loop [20] (fun i => ∃ k : Nat, k ≤ s.size ∧ i = .int .i64 k ∧ (s.data.toList.take k).all isWord = true) (fun i => s.size - (intOf i).toNat)
    case atStart => exact ⟨0, Nat.zero_le _, rfl, by simp⟩
    case round =>
      obtain ⟨k, hk, rfl, hall⟩ := hrel
      have Hall := Lib.hid hall; clear hall
      rcases Nat.lt_or_ge k s.size with hlt | hge
      · have hget := Lib.hid (bytes_get s k hlt)
        cases hlet : isLet (s[k]'hlt)
        · have Hlet := Lib.hid hlet; clear hlet
          go_wp2_with (go_at_call 98; refine (isLetter_any _ _).mono ?_; rintro e w' ⟨rfl, rfl⟩; rw [Hlet.out])
          all_goals (try simp only [bne_iff_ne, bne_eq_false_iff_eq] at *)
          all_goals first
            | (go_ret; exact ⟨by rw [nameOf_bad hget.out (by simp [isWord, Hlet.out]; omega)]; rfl, rfl⟩)
            | (go_round
               case rel => exact ⟨k + 1, by omega, by go_num, by rw [take_word hget.out, Hall.out]; simp [isWord, Hlet.out]; omega⟩
               case measure => simp [intOf]; omega)
        · have Hlet := Lib.hid hlet; clear hlet
          go_wp2_with (go_at_call 98; refine (isLetter_any _ _).mono ?_; rintro e w' ⟨rfl, rfl⟩; rw [Hlet.out])
          all_goals
            (go_round
             case rel => exact ⟨k + 1, by omega, by go_num, by rw [take_word hget.out, Hall.out]; simp [isWord, Hlet.out]⟩
             case measure => simp [intOf]; omega)
      · go_wp2_with fail
        all_goals
          (go_ret
           exact ⟨by
            have h1 : nameOf s.data.toList = true := by
              have := Hall.out
              rw [List.take_of_length_le (by simp; omega)] at this
              have h60' : s.data.toList.length ≤ 60 := by simpa using h60
              simp [nameOf, this, Hhd.out, Hc.out]
              constructor
              · intro hn; rw [hn] at Hhd; have := Hhd.out; simp at this
              · simpa using h60'
            rw [h1]; rfl, rfl⟩)
end Go.Proofs.YthgiianmfehcaaaDoor
