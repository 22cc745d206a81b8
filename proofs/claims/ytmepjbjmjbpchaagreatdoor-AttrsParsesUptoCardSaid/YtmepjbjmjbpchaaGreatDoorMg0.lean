/- Texts of this claim, laid together: Ty0, Ty1, Ty2, Map, Ty3. -/
import Derived.Test.YtmepjbjmjbpchaaGreatDoorRows
import Derived.WalkKit
import Derived.WalkSpells
import Derived.Lib.Hide
import Derived.Deep.QuietTactic
import Derived.BigQuiet
import Derived.Test.YtmepjbjmjbpchaaGreatDoorShelf
import Derived.Maps.RangeRun
section
/- Walks of the smallest functions of package types. -/
set_option linter.unusedVariables false
set_option linter.unusedSimpArgs false
namespace Go.Proofs.YtmepjbjmjbpchaaGreatDoor
open Go Go.RowKit

theorem below_iter {B : Nat} {w : World} (h : B ≤ w.heap.size) (s : ByteArray) (p : Nat) : Below B w (w.iter s p) := (Below.refl B w).alloc h _

/-- What is left of a number's digits, read on. -/
def numFrom : List UInt8 → Nat → Option Nat
  | [], n => some n
  | c :: l, n => if 48 ≤ c.toNat ∧ c.toNat ≤ 57 then numFrom l (10 * n + (c.toNat - 48)) else none
/-- `types.number`. -/
def numOf (l : List UInt8) : Option Nat :=
  if l = [] ∨ 8 < l.length ∨ (1 < l.length ∧ l.head? = some 48) then none else numFrom l 0
def numRes (o : Option Nat) (m : Int) : Value :=
  match o with
  | some n => .tuple #[.int .i64 n, .bool (decide ((n : Int) ≤ m))]
  | none => .tuple #[.int .i64 0, .bool false]
def NumPost (l : List UInt8) (m : Int) (w : World) (e : Ending) (w' : World) : Prop := e = .returned (numRes (numOf l) m) ∧ Below w.heap.size w w'

theorem toList_nil_iff (s : ByteArray) : s.toList = [] ↔ s.data.toList = [] := by rw [ByteArray.toList_eq]


theorem data_get (s : ByteArray) (i : Nat) (h : i < s.size) : s.data.toList.drop i = s[i]'h :: s.data.toList.drop (i + 1) := by
  rw [List.drop_eq_getElem_cons (by simpa using h)]; rfl

theorem num_stop {s : ByteArray} {pos acc : Nat} (h : pos < s.size) (hd : Hid (s.data.toList.drop pos = s[pos]'h :: s.data.toList.drop (pos + 1)))
    (Hr : Hid (numFrom (s.data.toList.drop pos) acc = numOf s.data.toList)) (hb : ((s[pos]'h).toNat : Int) < 48 ∨ 57 < ((s[pos]'h).toNat : Int)) : numOf s.data.toList = none := by
  rw [← Hr.out, hd.out, numFrom, if_neg (by omega)]
theorem num_more {s : ByteArray} {pos acc : Nat} (h : pos < s.size) (hd : Hid (s.data.toList.drop pos = s[pos]'h :: s.data.toList.drop (pos + 1)))
    (Hr : Hid (numFrom (s.data.toList.drop pos) acc = numOf s.data.toList)) (hb : 48 ≤ ((s[pos]'h).toNat : Int) ∧ ((s[pos]'h).toNat : Int) ≤ 57) : numFrom (s.data.toList.drop (pos + 1)) (10 * acc + ((s[pos]'h).toNat - 48)) = numOf s.data.toList := by
  rw [← Hr.out, hd.out, numFrom, if_pos (by omega)]
theorem numPost_none {l : List UInt8} {m : Int} {w w' : World} (h : numOf l = none) (hb : Below w.heap.size w w') :
    NumPost l m w (.returned (.tuple #[.int .i64 0, .bool false])) w' := ⟨by rw [h]; rfl, hb⟩
theorem numPost_some {l : List UInt8} {m : Int} {n : Nat} {w w' : World} (h : numOf l = some n) (hb : Below w.heap.size w w') :
    NumPost l m w (.returned (.tuple #[.int .i64 n, .bool (decide ((n : Int) ≤ m))])) w' := ⟨by rw [h]; rfl, hb⟩

set_option maxHeartbeats 1000000 in
theorem number_loop (s : ByteArray) (m : Int) (w : World) (h1 : 0 < s.size) (h2 : s.size ≤ 8) (h3 : s.data.toList.head? = some 48 → s.size = 1) :
    Calls Tryz.prog 169 #[.string s, .int .i64 m] w (NumPost s.data.toList m w) := by
  have hl : s.data.toList.length = s.size := by simp
  have hn : numOf s.data.toList = numFrom s.data.toList 0 := by
    unfold numOf; rw [if_neg]; rintro (h | h | ⟨h, h'⟩)
    · rw [h] at hl; simp at hl; omega
    · omega
    · have := h3 h'; omega
  have hne : s.toList.isEmpty = false := by
    rw [List.isEmpty_eq_false_iff]; intro h; rw [toList_nil_iff] at h; rw [h] at hl; simp at hl; omega
  have h48 : 1 < s.size → ((((s[0]'h1).toNat : Int)) == 48) = false := by
    intro h; rw [beq_eq_false_iff_ne]; intro h'
    have := data_get s 0 h1
    rw [List.drop_zero] at this
    have := h3 (by rw [this]; simp; exact UInt8.toNat_inj.1 (by simp; omega))
    omega
  have HN := Lib.hid hn; clear hn hl
  have key : ∀ (b1 : s.size ≤ 1 ∨ 1 < s.size), Calls Tryz.prog 169 #[.string s, .int .i64 m] w (NumPost s.data.toList m w) := by
    intro b1
    rcases b1 with b1 | b1
    all_goals
      first
        | (have hb : ((1 : Int) < (s.size : Int)) = False := by simp; omega)
        | (have h0 := h48 b1)
      clear h48 h3
      go_enter Tryz.func169, Tryz.ntmps169
      go_wp2_with fail
      go_loopw [6] (fun n w' => ∃ (pos acc : Nat), pos ≤ s.size ∧ w' = w.iter s pos ∧ n = .int .i64 acc ∧ acc < 10 ^ pos ∧ numFrom (s.data.toList.drop pos) acc = numOf s.data.toList) (fun _ w' => s.size - w'.iterPos w.heap.size)
      case atStart => exact ⟨0, 0, by omega, rfl, rfl, by simp, by rw [HN.out]; rfl⟩
      case round =>
        obtain ⟨pos, acc, hp, rfl, rfl, hacc, hrest⟩ := hrel
        have Hr := Lib.hid hrest
        have hacc8 : acc < 100000000 := Nat.lt_of_lt_of_le hacc (Nat.le_trans (Nat.pow_le_pow_right (by omega) (show pos ≤ 8 by omega)) (by decide))
        have Hacc := Lib.hid hacc
        clear hrest hacc
        rcases Nat.lt_or_ge pos s.size with hlt | hge
        · have hd := Lib.hid (data_get s pos hlt)
          rcases Nat.lt_or_ge (s[pos]'hlt).toNat 128 with ha | ha
          · have hnx : ∀ ty, (Instr.next (.pointer (some ⟨w.heap.size, 0, none⟩)) true ty).run Tryz.prog (w.iter s pos) = _ := fun ty => run_next_ascii w s pos ty hlt ha
            go_wp2_with fail
            all_goals first
              | (go_ret2; exact numPost_none (num_stop hlt hd Hr (by omega)) (below_iter (Nat.le_refl _) _ _))
              | (go_roundw
                 case rel =>
                  refine ⟨pos + 1, 10 * acc + ((s[pos]'hlt).toNat - 48), by omega, rfl, by go_num, ?_, num_more hlt hd Hr ⟨by omega, by omega⟩⟩
                  have := Hacc.out
                  rw [Nat.pow_succ]; omega
                 case measure => simp; omega)
          · have hdec := decode_high s pos hlt ha
            have hdec2 := hdec.1
            have hdec3 := decode_le s pos
            clear hdec
            have hnx : ∀ ty, (Instr.next (.pointer (some ⟨w.heap.size, 0, none⟩)) true ty).run Tryz.prog (w.iter s pos) = _ := fun ty => run_next_any w s pos ty hlt
            go_wp2_with fail
            all_goals (go_ret2; exact numPost_none (num_stop hlt hd Hr (by omega)) (below_iter (Nat.le_refl _) _ _))
        · have hpe : pos = s.size := by omega
          subst hpe
          have hnx : ∀ ty, (Instr.next (.pointer (some ⟨w.heap.size, 0, none⟩)) true ty).run Tryz.prog (w.iter s s.size) = _ := fun ty => run_next_end w s s.size ty (by omega)
          go_wp2_with fail
          all_goals (go_ret2; exact numPost_some (by rw [← Hr.out, List.drop_of_length_le (by simp)]; rfl) (below_iter (Nat.le_refl _) _ _))
  exact key (by omega)

theorem number_any (s : ByteArray) (m : Int) (w : World) :
    Calls Tryz.prog 169 #[.string s, .int .i64 m] w (NumPost s.data.toList m w) := by
  have hl : s.data.toList.length = s.size := by simp
  by_cases hc : s.data.toList = [] ∨ 8 < s.data.toList.length ∨ (1 < s.data.toList.length ∧ s.data.toList.head? = some 48)
  · have hn : numOf s.data.toList = none := by unfold numOf; rw [if_pos hc]
    have HN := Lib.hid hn; clear hn
    have hr : ∀ e w', e = .returned (.tuple #[.int .i64 0, .bool false]) → Below w.heap.size w w' → NumPost s.data.toList m w e w' := fun e w' h1 h2 => by subst h1; exact numPost_none HN.out h2
    have hc2 : s.toList.isEmpty = true ∨ (s.toList.isEmpty = false ∧ 8 < s.size) ∨ (s.toList.isEmpty = false ∧ 1 < s.size ∧ s.size ≤ 8 ∧ ∃ h : 0 < s.size, ((((s[0]'h).toNat : Int)) == 48) = true) := by
      rw [hl] at hc
      by_cases h : s.toList = []
      · exact .inl (by rw [h]; rfl)
      · right
        have h' : s.toList.isEmpty = false := by rw [List.isEmpty_eq_false_iff]; exact h
        rw [toList_nil_iff] at h
        rcases hc with hc | hc | ⟨hc, hc'⟩
        · exact absurd hc h
        · exact .inl ⟨h', hc⟩
        · by_cases h8 : 8 < s.size
          · exact .inl ⟨h', h8⟩
          · refine .inr ⟨h', hc, by omega, by omega, ?_⟩
            have := data_get s 0 (by omega)
            rw [List.drop_zero] at this
            rw [this] at hc'
            simp at hc'
            rw [hc']; decide
    clear hc hl
    rcases hc2 with h | ⟨h, h8⟩ | ⟨h, h1, h8, hp, h0⟩
    all_goals
      go_enter Tryz.func169, Tryz.ntmps169
      go_wp2_with fail
      all_goals (go_ret2; exact hr _ _ rfl (Below.refl _ _))
  · have h1 : 0 < s.size := by
      rcases Nat.eq_zero_or_pos s.size with h | h
      · exact absurd (.inl (List.length_eq_zero_iff.1 (by omega))) hc
      · exact h
    exact number_loop s m w h1 (by omega) (fun h => by
      rcases Nat.lt_or_ge 1 s.size with h' | h'
      · exact absurd (.inr (.inr ⟨by omega, h⟩)) hc
      · omega)
end Go.Proofs.YtmepjbjmjbpchaaGreatDoor
end
section
/- More walks of package types: letters and names, number types, products, the beginnings of types with cells. -/
namespace Go.Proofs.YtmepjbjmjbpchaaGreatDoor
open Go Go.RowKit
set_option linter.unusedVariables false
set_option linter.unusedSimpArgs false

/-! ### graph.isLetter, graph.IsName -/
def isLet (c : UInt8) : Bool := decide (97 ≤ c.toNat ∧ c.toNat ≤ 122)
def isWord (c : UInt8) : Bool := isLet c || decide (48 ≤ c.toNat ∧ c.toNat ≤ 57) || decide (c.toNat = 95)
/-- `graph.IsName`. -/
def nameOf (l : List UInt8) : Bool := !l.isEmpty && decide (l.length ≤ 60) && (l.head?.map isLet).getD false && l.all isWord

theorem isLetter_any (c : UInt8) (w : World) :
    Calls Tryz.prog 70 #[.int .u8 c.toNat] w fun e w' => e = .returned (.bool (isLet c)) ∧ w = w' := by
  have hi : isLet c = (decide (97 ≤ (c.toNat : Int)) && decide ((c.toNat : Int) ≤ 122)) := by
    unfold isLet; rw [Bool.eq_iff_iff]; simp; omega
  have HI := Lib.hid hi; clear hi
  go_enter Tryz.func70, Tryz.ntmps70
  go_wp2_with fail
  all_goals (go_ret; exact ⟨by rw [HI.out]; simp; try omega, rfl⟩)

def BoolPost (b : Bool) (w : World) (e : Ending) (w' : World) : Prop := e = .returned (.bool b) ∧ w = w'

theorem nameOf_empty {l : List UInt8} (h : l = []) : nameOf l = false := by subst h; rfl
theorem nameOf_long {l : List UInt8} (h : 60 < l.length) : nameOf l = false := by simp [nameOf]; intros; omega
theorem nameOf_first {l : List UInt8} {c : UInt8} (h : l.head? = some c) (hc : isLet c = false) : nameOf l = false := by simp [nameOf, h, hc]
theorem nameOf_bad {l : List UInt8} {i : Nat} {c : UInt8} (h : l[i]? = some c) (hc : isWord c = false) : nameOf l = false := by
  have : l.all isWord = false := by
    rw [List.all_eq_false]; exact ⟨c, List.mem_of_getElem? h, by simp [hc]⟩
  simp [nameOf, this]

theorem bytes_get (s : ByteArray) (i : Nat) (h : i < s.size) : s.data.toList[i]? = some (s[i]'h) := by
  rw [List.getElem?_eq_getElem (by simpa using h)]; rfl

theorem take_word {l : List UInt8} {k : Nat} {c : UInt8} (h : l[k]? = some c) : (l.take (k + 1)).all isWord = ((l.take k).all isWord && isWord c) := by
  rw [List.take_add_one, h]; simp

set_option maxHeartbeats 1000000 in
theorem isName_any (s : ByteArray) (w : World) :
    Calls Tryz.prog 42 #[.string s] w (BoolPost (nameOf s.data.toList) w) := by
  have hl : s.data.toList.length = s.size := by simp
  by_cases h0 : s.toList = []
  · have hf := Lib.hid (nameOf_empty (l := s.data.toList) (by rw [← toList_nil_iff]; exact h0))
    have h0' : s.toList.isEmpty = true := by rw [h0]; rfl
    clear h0 hl
    go_enter Tryz.func42, Tryz.ntmps42
    go_wp2_with fail
    all_goals (go_ret; exact ⟨by rw [hf.out]; rfl, rfl⟩)
  have h0' : s.toList.isEmpty = false := by rw [List.isEmpty_eq_false_iff]; exact h0
  have hpos : 0 < s.size := by
    rcases Nat.eq_zero_or_pos s.size with h | h
    · exact absurd ((toList_nil_iff s).2 (List.length_eq_zero_iff.1 (by omega))) h0
    · exact h
  rcases Nat.lt_or_ge 60 s.size with h60 | h60
  · have hf := Lib.hid (nameOf_long (l := s.data.toList) (by omega))
    clear h0 hl
    go_enter Tryz.func42, Tryz.ntmps42
    go_wp2_with fail
    all_goals (go_ret; exact ⟨by rw [hf.out]; rfl, rfl⟩)
  have hhd : s.data.toList.head? = some (s[0]'hpos) := by rw [List.head?_eq_getElem?]; exact bytes_get s 0 hpos
  cases hc : isLet (s[0]'hpos)
  · have hf := Lib.hid (nameOf_first hhd hc)
    have Hc := Lib.hid hc
    clear h0 hl hhd hc
    go_enter Tryz.func42, Tryz.ntmps42
    go_wp2_with (go_at_call 70; refine (isLetter_any _ _).mono ?_; rintro e w' ⟨rfl, rfl⟩; rw [Hc.out])
    all_goals (go_ret; exact ⟨by rw [hf.out]; rfl, rfl⟩)
  · have Hc := Lib.hid hc
    have Hhd := Lib.hid hhd
    clear h0 hl hhd hc
    go_enter Tryz.func42, Tryz.ntmps42
    go_wp2_with (go_at_call 70; refine (isLetter_any _ _).mono ?_; rintro e w' ⟨rfl, rfl⟩; rw [Hc.out])
    go_loop [20] (fun i => ∃ k : Nat, k ≤ s.size ∧ i = .int .i64 k ∧ (s.data.toList.take k).all isWord = true) (fun i => s.size - (intOf i).toNat)
    case atStart => exact ⟨0, Nat.zero_le _, rfl, by simp⟩
    case round =>
      obtain ⟨k, hk, rfl, hall⟩ := hrel
      have Hall := Lib.hid hall; clear hall
      rcases Nat.lt_or_ge k s.size with hlt | hge
      · have hget := Lib.hid (bytes_get s k hlt)
        cases hlet : isLet (s[k]'hlt)
        · have Hlet := Lib.hid hlet; clear hlet
          go_wp2_with (go_at_call 70; refine (isLetter_any _ _).mono ?_; rintro e w' ⟨rfl, rfl⟩; rw [Hlet.out])
          all_goals (try simp only [bne_iff_ne, bne_eq_false_iff_eq] at *)
          all_goals first
            | (go_ret; exact ⟨by rw [nameOf_bad hget.out (by simp [isWord, Hlet.out]; omega)]; rfl, rfl⟩)
            | (go_round
               case rel => exact ⟨k + 1, by omega, by go_num, by rw [take_word hget.out, Hall.out]; simp [isWord, Hlet.out]; omega⟩
               case measure => simp [intOf]; omega)
        · have Hlet := Lib.hid hlet; clear hlet
          go_wp2_with (go_at_call 70; refine (isLetter_any _ _).mono ?_; rintro e w' ⟨rfl, rfl⟩; rw [Hlet.out])
          all_goals
            (go_round
             case rel => exact ⟨k + 1, by omega, by go_num, by rw [take_word hget.out, Hall.out]; simp [isWord, Hlet.out]⟩
             case measure => simp [intOf]; omega)
      · go_wp2_with fail
        all_goals
          (go_ret
           exact ⟨by
            have h1 : nameOf s.data.toList = true := by
              have := Hall.out
              rw [List.take_of_length_le (by simp; omega)] at this
              have h60' : s.data.toList.length ≤ 60 := by simpa using h60
              simp [nameOf, this, Hhd.out, Hc.out]
              constructor
              · intro hn; rw [hn] at Hhd; have := Hhd.out; simp at this
              · simpa using h60'
            rw [h1]; rfl, rfl⟩)
end Go.Proofs.YtmepjbjmjbpchaaGreatDoor
end
section
/- More walks of package types: number types, products, the beginnings of types with cells, properties. -/
namespace Go.Proofs.YtmepjbjmjbpchaaGreatDoor
open Go Go.RowKit
set_option linter.unusedVariables false
set_option linter.unusedSimpArgs false

/-- A block of the call's own reads on behind a callee that keeps what lay. -/
theorem rdCell {W w1 : World} (hb : Below W.heap.size W w1) (A : Nat) (hA : A < W.heap.size) : ∀ j, w1.cell? ⟨A, j, none⟩ = W.cell? ⟨A, j, none⟩ := fun j => hb.cell (p := ⟨A, j, none⟩) hA
theorem rdFree {W w1 : World} (hb : Below W.heap.size W w1) (A : Nat) (hA : A < W.heap.size) : ∀ j, w1.frozen? ⟨A, j, none⟩ = W.frozen? ⟨A, j, none⟩ := fun j => hb.frozen (p := ⟨A, j, none⟩) hA

/-- What `types.read` tells of a type. -/
structure Pd where
  kind : Nat
  bits : Nat
  ext : List Nat
def Pd.val (p : Pd) : Value := .agg #[.int .i64 p.kind, .int .i64 p.bits, .int .i64 p.ext.length, .int .i64 (p.ext.getD 0 0 : Nat), .int .i64 (p.ext.getD 1 0 : Nat), .int .i64 (p.ext.getD 2 0 : Nat)]

theorem cutPrefix_yes (s : ByteArray) (p : List UInt8) (w : World) (h : Lib.hasPrefix s.data.toList p = true) :
    Calls Tryz.prog 95 #[.string s, .string ⟨p.toArray⟩] w fun e w' => ∃ t : ByteArray, e = .returned (.tuple #[.string t, .bool true]) ∧ Hid (t.data.toList = s.data.toList.drop p.length) ∧ w = w' := by
  refine (Tryz.strings_CutPrefix s ⟨p.toArray⟩ w).mono ?_
  rintro e w' ⟨rfl, rfl⟩
  exact ⟨⟨(Lib.trimPrefix s.data.toList p).toArray⟩, by simp [h], by simp [Lib.trimPrefix, h, Hid], rfl⟩
theorem cutPrefix_no (s : ByteArray) (p : List UInt8) (w : World) (h : Lib.hasPrefix s.data.toList p = false) :
    Calls Tryz.prog 95 #[.string s, .string ⟨p.toArray⟩] w fun e w' => e = .returned (.tuple #[.string s, .bool false]) ∧ w = w' := by
  refine (Tryz.strings_CutPrefix s ⟨p.toArray⟩ w).mono ?_
  rintro e w' ⟨rfl, rfl⟩
  simp [Lib.trimPrefix, h]
theorem cutSuffix_yes (s : ByteArray) (p : List UInt8) (w : World) (hs : s.size ≤ 9223372036854775807) (h : Lib.hasSuffix s.data.toList p = true) :
    Calls Tryz.prog 96 #[.string s, .string ⟨p.toArray⟩] w fun e w' => ∃ t : ByteArray, e = .returned (.tuple #[.string t, .bool true]) ∧ Hid (t.data.toList = s.data.toList.take (s.data.toList.length - p.length)) ∧ w = w' := by
  refine (Tryz.strings_CutSuffix s ⟨p.toArray⟩ w hs).mono ?_
  rintro e w' ⟨rfl, rfl⟩
  exact ⟨⟨(Lib.trimSuffix s.data.toList p).toArray⟩, by simp [h], by simp [Lib.trimSuffix, h, Hid], rfl⟩
theorem cutSuffix_no (s : ByteArray) (p : List UInt8) (w : World) (hs : s.size ≤ 9223372036854775807) (h : Lib.hasSuffix s.data.toList p = false) :
    Calls Tryz.prog 96 #[.string s, .string ⟨p.toArray⟩] w fun e w' => e = .returned (.tuple #[.string s, .bool false]) ∧ w = w' := by
  refine (Tryz.strings_CutSuffix s ⟨p.toArray⟩ w hs).mono ?_
  rintro e w' ⟨rfl, rfl⟩
  simp [Lib.trimSuffix, h]

theorem number_some (s : ByteArray) (m : Int) (n : Nat) (w : World) (h : numOf s.data.toList = some n) :
    Calls Tryz.prog 169 #[.string s, .int .i64 m] w fun e w' => e = .returned (.tuple #[.int .i64 n, .bool (decide ((n : Int) ≤ m))]) ∧ Below w.heap.size w w' :=
  (number_any s m w).mono fun e w' ⟨he, hb⟩ => ⟨by rw [he, h]; rfl, hb⟩
theorem number_none (s : ByteArray) (m : Int) (w : World) (h : numOf s.data.toList = none) :
    Calls Tryz.prog 169 #[.string s, .int .i64 m] w fun e w' => e = .returned (.tuple #[.int .i64 0, .bool false]) ∧ Below w.heap.size w w' :=
  (number_any s m w).mono fun e w' ⟨he, hb⟩ => ⟨by rw [he, h]; rfl, hb⟩

/-- `types.element`. -/
def elemOf (l : List UInt8) : Option Pd :=
  if l = [105, 110, 100, 101, 120] then some ⟨1, 64, []⟩
  else if Lib.hasPrefix l [105] then
    match numOf l.tail with
    | some n => if 0 < n ∧ n ≤ 64 then some ⟨0, n, []⟩ else none
    | none => none
  else none
def ElemPost (l : List UInt8) (w : World) (e : Ending) (w' : World) : Prop :=
  ∃ p : Pd, p.ext = [] ∧ (∀ q, elemOf l = some q → p = q) ∧ e = .returned (.tuple #[p.val, .bool (elemOf l).isSome]) ∧ Below w.heap.size w w'

theorem elem_index {s : ByteArray} {w w' : World} {e : Ending} (h : s.data.toList = [105, 110, 100, 101, 120])
    (he : e = .returned (.tuple #[.agg #[.int .i64 1, .int .i64 64, .int .i64 0, .int .i64 0, .int .i64 0, .int .i64 0], .bool true])) (hb : Below w.heap.size w w') : ElemPost s.data.toList w e w' :=
  ⟨⟨1, 64, []⟩, rfl, fun q hq => by simp [elemOf, h] at hq; exact hq, by rw [he]; simp [elemOf, h, Pd.val], hb⟩
theorem elem_any {l : List UInt8} {n : Nat} {b : Bool} {w w' : World} {e : Ending} (h0 : ¬ l = [105, 110, 100, 101, 120])
    (h1 : (b = true ∧ elemOf l = some ⟨0, n, []⟩) ∨ (b = false ∧ elemOf l = none))
    (he : e = .returned (.tuple #[.agg #[.int .i64 0, .int .i64 n, .int .i64 0, .int .i64 0, .int .i64 0, .int .i64 0], .bool b])) (hb : Below w.heap.size w w') : ElemPost l w e w' :=
  ⟨⟨0, n, []⟩, rfl, fun q hq => by rcases h1 with ⟨_, h⟩ | ⟨_, h⟩ <;> rw [h] at hq <;> simp at hq; exact hq, by rw [he]; rcases h1 with ⟨rfl, h⟩ | ⟨rfl, h⟩ <;> rw [h] <;> rfl, hb⟩

theorem below_set {B : Nat} {a w : World} {g : Nat} (h : Below B a w) (hg : B ≤ g) (i : Nat) (v : Value) : Below B a (w.setCell ⟨g, i, none⟩ v) := h.setCell (p := ⟨g, i, none⟩) hg v
theorem below_own {w w1 : World} {o : Obj} (hb : Below (w.alloc o).heap.size (w.alloc o) w1) : Below w.heap.size w w1 :=
  ((Below.refl _ w).alloc (Nat.le_refl _) _).trans (hb.mono (by simp))

set_option maxHeartbeats 1000000 in
theorem element_any (s : ByteArray) (w : World) :
    Calls Tryz.prog 162 #[.string s] w (ElemPost s.data.toList w) := by
  by_cases h0 : s.toList = [105, 110, 100, 101, 120]
  · have H0 := Lib.hid h0
    have h0b : (s.toList == [105, 110, 100, 101, 120]) = true := by rw [h0]; rfl
    clear h0
    go_enter Tryz.func162, Tryz.ntmps162
    go_wp2_with fail
    refine bodyPost_ret (v := .tuple #[.agg #[.int .i64 1, .int .i64 64, .int .i64 0, .int .i64 0, .int .i64 0, .int .i64 0], .bool true]) (by simp [results, Tryz.results162, go_sem]) rfl ?_
    exact elem_index (by rw [← ByteArray.toList_eq]; exact H0.out) rfl ((Below.refl _ w).alloc (Nat.le_refl _) _)
  · have H0 := Lib.hid (show ¬ s.data.toList = [105, 110, 100, 101, 120] by rw [← ByteArray.toList_eq]; exact h0)
    have h0b : (s.toList == [105, 110, 100, 101, 120]) = false := by rw [beq_eq_false_iff_ne]; exact h0
    clear h0
    cases hp : Lib.hasPrefix s.data.toList [105]
    · have HN := Lib.hid (show elemOf s.data.toList = none by unfold elemOf; rw [if_neg H0.out, hp]; rfl)
      have Hp := Lib.hid hp; clear hp
      cases hn : numOf s.data.toList
      all_goals
        have Hn := Lib.hid hn; clear hn
        go_enter Tryz.func162, Tryz.ntmps162
        go_wp2_with (first
          | (go_at_call 95; refine (cutPrefix_no _ _ _ Hp.out).mono ?_; rintro e w' ⟨rfl, rfl⟩)
          | (go_at_call 169; (first | refine (number_none _ _ _ Hn.out).mono ?_ | refine (number_some _ _ _ _ Hn.out).mono ?_); rintro e w' ⟨rfl, hb⟩; have hc := rdCell hb w.heap.size (by simp); have hf := rdFree hb w.heap.size (by simp)))
        refine bodyPost_ret (v := .tuple #[.agg #[.int .i64 0, .int .i64 _, .int .i64 0, .int .i64 0, .int .i64 0, .int .i64 0], .bool false]) (by simp [results, Tryz.results162, go_sem, hc]; try rfl) rfl ?_
        refine elem_any H0.out (.inr ⟨rfl, HN.out⟩) rfl ?_
        repeat (with_reducible refine below_set ?_ (Nat.le_refl _) _ _)
        exact below_own hb
    · have HP := Lib.hid (show elemOf s.data.toList = (match numOf s.data.toList.tail with | some n => if 0 < n ∧ n ≤ 64 then some ⟨0, n, []⟩ else none | none => none) by unfold elemOf; rw [if_neg H0.out, hp]; rfl)
      have Hp := Lib.hid hp; clear hp
      cases hn : numOf s.data.toList.tail
      all_goals
        rw [hn] at HP
        have Hn := Lib.hid hn; clear hn
        go_enter Tryz.func162, Tryz.ntmps162
        go_wp2_with (first
          | (go_at_call 95; refine (cutPrefix_yes _ _ _ Hp.out).mono ?_; rintro e w' ⟨t, rfl, ht, rfl⟩)
          | (go_at_call 169; (first | refine (number_none _ _ _ (by rw [ht.out]; simpa using Hn.out)).mono ?_ | refine (number_some _ _ _ _ (by rw [ht.out]; simpa using Hn.out)).mono ?_); rintro e w' ⟨rfl, hb⟩; have hc := rdCell hb w.heap.size (by simp); have hf := rdFree hb w.heap.size (by simp)))
        all_goals
          first
            | (refine bodyPost_ret (v := .tuple #[.agg #[.int .i64 0, .int .i64 _, .int .i64 0, .int .i64 0, .int .i64 0, .int .i64 0], .bool _]) (by simp [results, Tryz.results162, go_sem, hc]; first | done | exact ⟨rfl, rfl⟩ | rfl) rfl ?_
               refine elem_any H0.out ?_ rfl ?_
               · first
                   | exact .inr ⟨rfl, HP.out⟩
                   | exact .inr ⟨rfl, by rw [HP.out, if_neg (by omega)]⟩
                   | (rename_i n _; rcases Nat.eq_zero_or_pos n with h0 | h0
                      · exact .inr ⟨by simp [h0], by rw [HP.out, if_neg (by omega)]⟩
                      · exact .inl ⟨by simp [h0], by rw [HP.out, if_pos (by omega)]⟩)
                   | fail               
               · repeat (with_reducible refine below_set ?_ (Nat.le_refl _) _ _)
                 exact below_own hb)
end Go.Proofs.YtmepjbjmjbpchaaGreatDoor
end
section
/- Maps at the operation: plain run equations over any program, for keys that are integers or strings. -/
set_option linter.unusedVariables false
set_option linter.unusedSimpArgs false
namespace Go.Proofs.YtmepjbjmjbpchaaGreatDoor
open Go Go.RowKit

section
variable {P : Program}
theorem run_getObj_map {w : World} {r : Nat} {es : Array MapEntry} {clock : Nat} (h : w.heap[r]? = some (.map es clock)) : (getObj r).run P w = .ok (.map es clock) w := by
  simp only [getObj, Sem.run, h]
theorem run_setObj_map {w : World} {r : Nat} {es : Array MapEntry} {clock : Nat} {o' : Obj} (h : w.heap[r]? = some (.map es clock)) : (setObj r o').run P w = .ok () { w with heap := w.heap.setIfInBounds r o' } := by
  simp only [setObj, Sem.run, h]
theorem run_checkKey_int' {kt : TypeId} {q : IntKind} (hk : P.underlying kt = some (.int q)) (b : Bool) (key : Value) (w : World) (n : Nat) : (Instr.checkKey b (n + 1) kt key).run P w = .ok () w := by
  unfold Instr.checkKey
  rw [Sem.run_bind, run_underlying hk]; rfl
theorem run_checkKey_int {kt : TypeId} {q : IntKind} (hk : P.underlying kt = some (.int q)) (b : Bool) (key : Value) (w : World) : (Instr.checkKey b 10000 kt key).run P w = .ok () w := run_checkKey_int' hk b key w 9999
theorem run_findKey_now {kt : TypeId} {d : TypeDesc} (hk : P.underlying kt = some d) {key : Value} {es : List MapEntry} {r : Option (Nat × Value)} (hf : Instr.findNow d key es 0 = some r) (w : World) : (Instr.findKey kt key es).run P w = .ok r w := by
  simp [Instr.findKey, run_underlying hk, hf]
theorem run_mapUpdate_new {t kt et : TypeId} {d : TypeDesc} {w : World} {r clock : Nat} {es : Array MapEntry} {key : Value} (val : Value) (ht : P.underlying t = some (.map kt et)) (hk : P.underlying kt = some d)
    (hck : (Instr.checkKey false 10000 kt key).run P w = .ok () w) (hf : Instr.findNow d key es.toList 0 = some none) (hr : w.heap[r]? = some (.map es clock)) :
    (Instr.mapUpdate t (.map (some r)) key val).run P w = .ok () { w with heap := w.heap.setIfInBounds r (.map (es.push { key, val, born := clock }) (clock + 1)) } := by
  simp [Instr.mapUpdate, run_underlying ht, run_getObj_map hr, hck, run_findKey_now hk hf, run_setObj_map hr]
theorem run_lookup_hit {t kt et : TypeId} {d : TypeDesc} {w : World} {r clock i : Nat} {es : Array MapEntry} {key v : Value} (ht : P.underlying t = some (.map kt et)) (hk : P.underlying kt = some d)
    (hck : ∀ b, (Instr.checkKey b 10000 kt key).run P w = .ok () w) (hf : Instr.findNow d key es.toList 0 = some (some (i, v))) (hr : w.heap[r]? = some (.map es clock)) (ok : Bool) :
    (Instr.lookup t (.map (some r)) key ok).run P w = .ok (if ok then .tuple #[v, .bool true] else v) w := by
  simp [Instr.lookup, run_underlying ht, run_getObj_map hr, hck, run_findKey_now hk hf]
theorem run_range_map' {t kt et : TypeId} (ht : P.underlying t = some (.map kt et)) {w : World} {m clock : Nat} {es : Array MapEntry} (h : w.heap[m]? = some (.map es clock)) :
    (Instr.range t (.map (some m))).run P w = .ok (.pointer (some ⟨w.heap.size, 0, none⟩)) (w.alloc (.mapIter (some m) clock #[] clock)) := by
  simp [Instr.range, run_underlying ht, run_getObj_map h]
theorem World.setIn_alloc (w : World) (o o' : Obj) : { w.alloc o with heap := (w.alloc o).heap.setIfInBounds w.heap.size o' } = w.alloc o' := by
  simp only [World.alloc]
  congr 1
  apply Array.ext'
  simp [Array.setIfInBounds, Array.toList_push]
end
end Go.Proofs.YtmepjbjmjbpchaaGreatDoor
end
section
/- More walks of package types: properties of what was read. -/
namespace Go.Proofs.YtmepjbjmjbpchaaGreatDoor
open Go Go.RowKit
set_option linter.unusedVariables false
set_option linter.unusedSimpArgs false

abbrev pv (k b r x y z : Int) : Value := .agg #[.int .i64 k, .int .i64 b, .int .i64 r, .int .i64 x, .int .i64 y, .int .i64 z]

section
variable (k b r x y z : Int) (w : World)
theorem anything_any : Calls Tryz.prog 133 #[pv k b r x y z] w fun e w' => e = .returned (.bool true) ∧ Below w.heap.size w w' := by
  go_enter Tryz.func133, Tryz.ntmps133
  go_wp2_with fail
  go_ret
  exact ⟨rfl, (Below.refl _ w).alloc (Nat.le_refl _) _⟩
set_option maxRecDepth 100000 in
theorem isZero_any (h0 : k ≠ 0 ∨ b ≠ 0) : Calls Tryz.prog 134 #[pv k b r x y z] w fun e w' => e = .returned (.bool false) ∧ Below w.heap.size w w' := by
  have h : (k ≠ 0) ∨ (k = 0 ∧ b ≠ 0) := by omega
  clear h0
  rcases h with h | ⟨rfl, h⟩
  all_goals
    go_enter Tryz.func134, Tryz.ntmps134
    go_wp2_with fail
    go_ret
    exact ⟨rfl, (Below.refl _ w).alloc (Nat.le_refl _) _⟩
end

def wordEs : Array MapEntry := #[⟨.int .i64 2, .string ⟨#[109, 101, 109, 60]⟩, 0⟩, ⟨.int .i64 3, .string ⟨#[97, 114, 114, 60]⟩, 1⟩]
theorem words_any (w : World) : Calls Tryz.prog 163 #[] w fun e w' => e = .returned (.map (some w.heap.size)) ∧ w.alloc (.map wordEs 2) = w' := by
  have hmm := @run_makeMap Tryz.prog
  have h1 : (Instr.mapUpdate 185 (.map (some w.heap.size)) (.int .i64 2) (.string ⟨#[109, 101, 109, 60]⟩)).run Tryz.prog (w.alloc (.map #[] 0)) = .ok () (w.alloc (.map #[⟨.int .i64 2, .string ⟨#[109, 101, 109, 60]⟩, 0⟩] 1)) := by
    rw [run_mapUpdate_new _ Tryz.underlying185 Tryz.underlying157 (run_checkKey_int Tryz.underlying157 _ _ _) rfl (heap_alloc_new w _), World.setIn_alloc]; rfl
  have h2 : (Instr.mapUpdate 185 (.map (some w.heap.size)) (.int .i64 3) (.string ⟨#[97, 114, 114, 60]⟩)).run Tryz.prog (w.alloc (.map #[⟨.int .i64 2, .string ⟨#[109, 101, 109, 60]⟩, 0⟩] 1)) = .ok () (w.alloc (.map wordEs 2)) := by
    rw [run_mapUpdate_new _ Tryz.underlying185 Tryz.underlying157 (run_checkKey_int Tryz.underlying157 _ _ _) rfl (heap_alloc_new w _), World.setIn_alloc]; rfl
  go_enter Tryz.func163, Tryz.ntmps163
  go_wp2_with fail
  go_ret
  exact ⟨rfl, rfl⟩

/-! ### strings.Cut at one byte -/
def cutOf (c : UInt8) : List UInt8 → Option (List UInt8 × List UInt8)
  | [] => none
  | b :: l => if b = c then some ([], l) else (cutOf c l).map fun p => (b :: p.1, p.2)
theorem cutOf_none : ∀ (l : List UInt8) (c : UInt8), cutOf c l = none → Lib.indexByte l c = -1
  | [], c, _ => rfl
  | b :: l, c, h => by
    simp only [cutOf] at h
    split at h
    · cases h
    · rename_i hb
      simp only [Option.map_eq_none_iff] at h
      simp [Lib.indexByte, hb, cutOf_none l c h]
theorem cutOf_some : ∀ (l : List UInt8) (c : UInt8) (x y : List UInt8), cutOf c l = some (x, y) → Lib.indexByte l c = x.length ∧ l = x ++ c :: y ∧ c ∉ x
  | [], c, x, y, h => by simp [cutOf] at h
  | b :: l, c, x, y, h => by
    simp only [cutOf] at h
    split at h
    · rename_i hb
      simp only [Option.some.injEq, Prod.mk.injEq] at h
      obtain ⟨rfl, rfl⟩ := h
      simp [Lib.indexByte, hb]
    · rename_i hb
      simp only [Option.map_eq_some_iff] at h
      obtain ⟨⟨x', y'⟩, h, he⟩ := h
      simp only [Prod.mk.injEq] at he
      obtain ⟨rfl, rfl⟩ := he
      obtain ⟨h1, h2, h3⟩ := cutOf_some l c x' y' h
      refine ⟨?_, by rw [h2]; rfl, by simp [h3]; exact fun e => hb e.symm⟩
      have : ¬ ((x'.length : Int) = -1) := by omega
      simp [Lib.indexByte, hb, h1, this]
theorem ba_eq {s : ByteArray} {l : List UInt8} (h : s.data.toList = l) : s = ⟨l.toArray⟩ := by rw [← h, Lib.mk_data]

def CutPost (r : Option (List UInt8 × List UInt8)) (s : ByteArray) (w : World) (e : Ending) (w' : World) : Prop :=
  (∃ n, w' = w.drewN n) ∧
  match r with
  | none => e = .returned (.tuple #[.string s, .string ⟨#[]⟩, .bool false])
  | some (x, y) => e = .returned (.tuple #[.string ⟨x.toArray⟩, .string ⟨y.toArray⟩, .bool true])
theorem lite_cut_one (s : ByteArray) (c : UInt8) (w : World) (hsz : s.size ≤ 9223372036854775806) :
    Calls Tryz.prog 77 #[.string s, .string ⟨#[c]⟩] w (CutPost (cutOf c s.data.toList) s w) := by
  cases h : cutOf c s.data.toList with
  | none =>
    have hi := cutOf_none _ _ h
    clear h
    go_enter Tryz.func77, Tryz.ntmps77
    go_wp2_with (go_at_call 115; refine (Tryz.stringslite_Index_one _ _ _).mono ?_; rintro e w' ⟨rfl, rfl⟩; rw [hi])
    go_ret3
    exact ⟨⟨0, rfl⟩, rfl⟩
  | some p =>
    obtain ⟨x, y⟩ := p
    obtain ⟨hi, hl, _⟩ := cutOf_some _ _ _ _ h
    have hlen : s.size = x.length + 1 + y.length := by
      have : s.data.toList.length = s.size := by simp
      rw [hl] at this; simp at this; omega
    have hx : (s.extract 0 x.length) = ⟨x.toArray⟩ := ba_eq (by rw [Lib.extract_data, hl]; simp)
    have hy : (s.extract (x.length + 1) s.size) = ⟨y.toArray⟩ := ba_eq (by rw [Lib.extract_data, hl, hlen]; simp)
    have HX := Lib.hid hx
    have HY := Lib.hid hy
    have hle : x.length + 1 ≤ s.size := by omega
    have hi2 := Lib.hid hi
    clear h hl hx hy hlen hi
    go_enter Tryz.func77, Tryz.ntmps77
    go_wp2_with (go_at_call 115; refine (Tryz.stringslite_Index_one _ _ _).mono ?_; rintro e w' ⟨rfl, rfl⟩; rw [hi2.out])
    go_quiet (fail)
    go_wp2_with fail
    go_ret3
    exact ⟨⟨_, rfl⟩, by show Ending.returned (.tuple #[.string (s.extract 0 x.length), .string (s.extract (x.length + 1) s.size), .bool true]) = _; rw [HX.out, HY.out]⟩
theorem cut_one (s : ByteArray) (c : UInt8) (w : World) (hsz : s.size ≤ 9223372036854775806) :
    Calls Tryz.prog 51 #[.string s, .string ⟨#[c]⟩] w (CutPost (cutOf c s.data.toList) s w) := by
  cases h : cutOf c s.data.toList with
  | none =>
    have hr := Lib.hid h; clear h
    go_enter Tryz.func51, Tryz.ntmps51
    go_wp2_with (go_at_call 77; refine (lite_cut_one _ _ _ hsz).mono ?_; rw [hr.out]; rintro e w' ⟨⟨n, rfl⟩, he⟩; obtain rfl := he)
    go_ret3
    exact ⟨⟨n, rfl⟩, rfl⟩
  | some p =>
    obtain ⟨x, y⟩ := p
    have hr := Lib.hid h; clear h
    go_enter Tryz.func51, Tryz.ntmps51
    go_wp2_with (go_at_call 77; refine (lite_cut_one _ _ _ hsz).mono ?_; rw [hr.out]; rintro e w' ⟨⟨n, rfl⟩, he⟩; obtain rfl := he)
    go_ret3
    exact ⟨⟨n, rfl⟩, rfl⟩

/-! ### types.product -/
def prodW (l : List Int) : Int := l.foldl (fun a x => wrap64 (a * x)) 1
theorem prodW_snoc {zs : List Int} {k : Nat} (h : k < zs.length) : prodW (zs.take (k + 1)) = wrap64 (prodW (zs.take k) * zs[k]?.getD 0) := by
  rw [List.take_add_one, List.getElem?_eq_getElem h, prodW, List.foldl_append]; rfl
theorem product_any (g off n c : Nat) (zs : List Int) (w : World) (hn : n ≤ zs.length) (hm : n ≤ 9223372036854775807)
    (hc : ∀ j, j < zs.length → w.cell? ⟨g, off + j, none⟩ = some (.int .i64 (zs[j]?.getD 0))) :
    Calls Tryz.prog 171 #[.slice (some ⟨g, off, none⟩) n c] w fun e w' => e = .returned (.int .i64 (prodW (zs.take n))) ∧ w = w' := by
  go_enter Tryz.func171, Tryz.ntmps171
  go_wp2_with fail
  go_loop [3, 8] (fun p i => ∃ k : Nat, k ≤ n ∧ i = .int .i64 k ∧ p = .int .i64 (prodW (zs.take k))) (fun _ i => n - (intOf i).toNat)
  case atStart => exact ⟨0, Nat.zero_le _, rfl, rfl⟩
  case round =>
    obtain ⟨k, hk, rfl, rfl⟩ := hrel
    rcases Nat.lt_or_ge k n with hlt | hge
    · have hs := Lib.hid (prodW_snoc (zs := zs) (k := k) (by omega))
      go_wp2_with fail
      go_round
      case rel => exact ⟨k + 1, by omega, by go_num, by rw [hs.out]⟩
      case measure => simp [intOf]; omega
    · go_wp2_with fail
      go_ret
      exact ⟨by rw [show n = k by omega]; rfl, rfl⟩
end Go.Proofs.YtmepjbjmjbpchaaGreatDoor
end
