/- Texts of this claim, laid together: Ty0, Ty1, Ty2, Map, Ty3, Range, Ty4, Still, Inv, Ty5. -/
import Derived.Test.YtmepjbjmjbpchaaGreatDoorRows
import Derived.WalkKit
import Derived.WalkSpells
import Derived.Lib.Hide
import Derived.Deep.QuietTactic
import Derived.BigQuiet
import Derived.Test.YtmepjbjmjbpchaaGreatDoorShelf
import Derived.Maps.RangeRun
import Derived.RangeFuncNested
import Derived.RangeFuncBound
import Derived.RangeFuncLeaves
import Derived.RangeFuncCalls
import Derived.Shelf.RegionOpen
import Derived.OwnWalkIn
import Derived.TacticsInMore
import Derived.LoopNIn
import Derived.LoopIn
import Derived.StillTail
import Derived.StillTailTactics
import Derived.OrdersIn
import Derived.TacticsIn
section
/- Walks of the smallest functions of package types. -/
set_option linter.unusedVariables false
set_option linter.unusedSimpArgs false
namespace Go.Proofs.YtmepjbjmjbpchaaGreatDoor
open Go Go.RowKit

theorem below_iter {B : Nat} {w : World} (h : B ≤ w.heap.size) (s : ByteArray) (p : Nat) : Below B w (w.iter s p) := (Below.refl B w).alloc h _

/-- What is left of a number's digits, read on. -/
def numFrom : List UInt8 → Nat → Option Nat
  | [], n => some n
  | c :: l, n => if 48 ≤ c.toNat ∧ c.toNat ≤ 57 then numFrom l (10 * n + (c.toNat - 48)) else none
/-- `types.number`. -/
def numOf (l : List UInt8) : Option Nat :=
  if l = [] ∨ 8 < l.length ∨ (1 < l.length ∧ l.head? = some 48) then none else numFrom l 0
def numRes (o : Option Nat) (m : Int) : Value :=
  match o with
  | some n => .tuple #[.int .i64 n, .bool (decide ((n : Int) ≤ m))]
  | none => .tuple #[.int .i64 0, .bool false]
def NumPost (l : List UInt8) (m : Int) (w : World) (e : Ending) (w' : World) : Prop := e = .returned (numRes (numOf l) m) ∧ Below w.heap.size w w'

theorem numFrom_lt : ∀ (l : List UInt8) (n N : Nat), numFrom l n = some N → N < (n + 1) * 10 ^ l.length
  | [], n, N, h => by simp [numFrom] at h; simp; omega
  | c :: l, n, N, h => by
    simp only [numFrom] at h
    split at h
    · have := numFrom_lt l _ _ h
      rw [List.length_cons, Nat.pow_succ]
      have h2 : (10 * n + (c.toNat - 48) + 1) * 10 ^ l.length ≤ (n + 1) * 10 * 10 ^ l.length := Nat.mul_le_mul_right _ (by omega)
      rw [Nat.mul_comm (10 ^ l.length) 10, ← Nat.mul_assoc]
      omega
    · cases h
theorem toList_nil_iff (s : ByteArray) : s.toList = [] ↔ s.data.toList = [] := by rw [ByteArray.toList_eq]


theorem data_get (s : ByteArray) (i : Nat) (h : i < s.size) : s.data.toList.drop i = s[i]'h :: s.data.toList.drop (i + 1) := by
  rw [List.drop_eq_getElem_cons (by simpa using h)]; rfl

theorem num_stop {s : ByteArray} {pos acc : Nat} (h : pos < s.size) (hd : Hid (s.data.toList.drop pos = s[pos]'h :: s.data.toList.drop (pos + 1)))
    (Hr : Hid (numFrom (s.data.toList.drop pos) acc = numOf s.data.toList)) (hb : ((s[pos]'h).toNat : Int) < 48 ∨ 57 < ((s[pos]'h).toNat : Int)) : numOf s.data.toList = none := by
  rw [← Hr.out, hd.out, numFrom, if_neg (by omega)]
theorem num_more {s : ByteArray} {pos acc : Nat} (h : pos < s.size) (hd : Hid (s.data.toList.drop pos = s[pos]'h :: s.data.toList.drop (pos + 1)))
    (Hr : Hid (numFrom (s.data.toList.drop pos) acc = numOf s.data.toList)) (hb : 48 ≤ ((s[pos]'h).toNat : Int) ∧ ((s[pos]'h).toNat : Int) ≤ 57) : numFrom (s.data.toList.drop (pos + 1)) (10 * acc + ((s[pos]'h).toNat - 48)) = numOf s.data.toList := by
  rw [← Hr.out, hd.out, numFrom, if_pos (by omega)]
theorem numPost_none {l : List UInt8} {m : Int} {w w' : World} (h : numOf l = none) (hb : Below w.heap.size w w') :
    NumPost l m w (.returned (.tuple #[.int .i64 0, .bool false])) w' := ⟨by rw [h]; rfl, hb⟩
theorem numPost_some {l : List UInt8} {m : Int} {n : Nat} {w w' : World} (h : numOf l = some n) (hb : Below w.heap.size w w') :
    NumPost l m w (.returned (.tuple #[.int .i64 n, .bool (decide ((n : Int) ≤ m))])) w' := ⟨by rw [h]; rfl, hb⟩

set_option maxHeartbeats 1000000 in
theorem number_loop (s : ByteArray) (m : Int) (w : World) (h1 : 0 < s.size) (h2 : s.size ≤ 8) (h3 : s.data.toList.head? = some 48 → s.size = 1) :
    Calls Tryz.prog 169 #[.string s, .int .i64 m] w (NumPost s.data.toList m w) := by
  have hl : s.data.toList.length = s.size := by simp
  have hn : numOf s.data.toList = numFrom s.data.toList 0 := by
    unfold numOf; rw [if_neg]; rintro (h | h | ⟨h, h'⟩)
    · rw [h] at hl; simp at hl; omega
    · omega
    · have := h3 h'; omega
  have hne : s.toList.isEmpty = false := by
    rw [List.isEmpty_eq_false_iff]; intro h; rw [toList_nil_iff] at h; rw [h] at hl; simp at hl; omega
  have h48 : 1 < s.size → ((((s[0]'h1).toNat : Int)) == 48) = false := by
    intro h; rw [beq_eq_false_iff_ne]; intro h'
    have := data_get s 0 h1
    rw [List.drop_zero] at this
    have := h3 (by rw [this]; simp; exact UInt8.toNat_inj.1 (by simp; omega))
    omega
  have HN := Lib.hid hn; clear hn hl
  have key : ∀ (b1 : s.size ≤ 1 ∨ 1 < s.size), Calls Tryz.prog 169 #[.string s, .int .i64 m] w (NumPost s.data.toList m w) := by
    intro b1
    rcases b1 with b1 | b1
    all_goals
      first
        | (have hb : ((1 : Int) < (s.size : Int)) = False := by simp; omega)
        | (have h0 := h48 b1)
      clear h48 h3
      go_enter Tryz.func169, Tryz.ntmps169
      go_wp2_with fail
      go_loopw [6] (fun n w' => ∃ (pos acc : Nat), pos ≤ s.size ∧ w' = w.iter s pos ∧ n = .int .i64 acc ∧ acc < 10 ^ pos ∧ numFrom (s.data.toList.drop pos) acc = numOf s.data.toList) (fun _ w' => s.size - w'.iterPos w.heap.size)
      case atStart => exact ⟨0, 0, by omega, rfl, rfl, by simp, by rw [HN.out]; rfl⟩
      case round =>
        obtain ⟨pos, acc, hp, rfl, rfl, hacc, hrest⟩ := hrel
        have Hr := Lib.hid hrest
        have hacc8 : acc < 100000000 := Nat.lt_of_lt_of_le hacc (Nat.le_trans (Nat.pow_le_pow_right (by omega) (show pos ≤ 8 by omega)) (by decide))
        have Hacc := Lib.hid hacc
        clear hrest hacc
        rcases Nat.lt_or_ge pos s.size with hlt | hge
        · have hd := Lib.hid (data_get s pos hlt)
          rcases Nat.lt_or_ge (s[pos]'hlt).toNat 128 with ha | ha
          · have hnx : ∀ ty, (Instr.next (.pointer (some ⟨w.heap.size, 0, none⟩)) true ty).run Tryz.prog (w.iter s pos) = _ := fun ty => run_next_ascii w s pos ty hlt ha
            go_wp2_with fail
            all_goals first
              | (go_ret2; exact numPost_none (num_stop hlt hd Hr (by omega)) (below_iter (Nat.le_refl _) _ _))
              | (go_roundw
                 case rel =>
                  refine ⟨pos + 1, 10 * acc + ((s[pos]'hlt).toNat - 48), by omega, rfl, by go_num, ?_, num_more hlt hd Hr ⟨by omega, by omega⟩⟩
                  have := Hacc.out
                  rw [Nat.pow_succ]; omega
                 case measure => simp; omega)
          · have hdec := decode_high s pos hlt ha
            have hdec2 := hdec.1
            have hdec3 := decode_le s pos
            clear hdec
            have hnx : ∀ ty, (Instr.next (.pointer (some ⟨w.heap.size, 0, none⟩)) true ty).run Tryz.prog (w.iter s pos) = _ := fun ty => run_next_any w s pos ty hlt
            go_wp2_with fail
            all_goals (go_ret2; exact numPost_none (num_stop hlt hd Hr (by omega)) (below_iter (Nat.le_refl _) _ _))
        · have hpe : pos = s.size := by omega
          subst hpe
          have hnx : ∀ ty, (Instr.next (.pointer (some ⟨w.heap.size, 0, none⟩)) true ty).run Tryz.prog (w.iter s s.size) = _ := fun ty => run_next_end w s s.size ty (by omega)
          go_wp2_with fail
          all_goals (go_ret2; exact numPost_some (by rw [← Hr.out, List.drop_of_length_le (by simp)]; rfl) (below_iter (Nat.le_refl _) _ _))
  exact key (by omega)

theorem number_any (s : ByteArray) (m : Int) (w : World) :
    Calls Tryz.prog 169 #[.string s, .int .i64 m] w (NumPost s.data.toList m w) := by
  have hl : s.data.toList.length = s.size := by simp
  by_cases hc : s.data.toList = [] ∨ 8 < s.data.toList.length ∨ (1 < s.data.toList.length ∧ s.data.toList.head? = some 48)
  · have hn : numOf s.data.toList = none := by unfold numOf; rw [if_pos hc]
    have HN := Lib.hid hn; clear hn
    have hr : ∀ e w', e = .returned (.tuple #[.int .i64 0, .bool false]) → Below w.heap.size w w' → NumPost s.data.toList m w e w' := fun e w' h1 h2 => by subst h1; exact numPost_none HN.out h2
    have hc2 : s.toList.isEmpty = true ∨ (s.toList.isEmpty = false ∧ 8 < s.size) ∨ (s.toList.isEmpty = false ∧ 1 < s.size ∧ s.size ≤ 8 ∧ ∃ h : 0 < s.size, ((((s[0]'h).toNat : Int)) == 48) = true) := by
      rw [hl] at hc
      by_cases h : s.toList = []
      · exact .inl (by rw [h]; rfl)
      · right
        have h' : s.toList.isEmpty = false := by rw [List.isEmpty_eq_false_iff]; exact h
        rw [toList_nil_iff] at h
        rcases hc with hc | hc | ⟨hc, hc'⟩
        · exact absurd hc h
        · exact .inl ⟨h', hc⟩
        · by_cases h8 : 8 < s.size
          · exact .inl ⟨h', h8⟩
          · refine .inr ⟨h', hc, by omega, by omega, ?_⟩
            have := data_get s 0 (by omega)
            rw [List.drop_zero] at this
            rw [this] at hc'
            simp at hc'
            rw [hc']; decide
    clear hc hl
    rcases hc2 with h | ⟨h, h8⟩ | ⟨h, h1, h8, hp, h0⟩
    all_goals
      go_enter Tryz.func169, Tryz.ntmps169
      go_wp2_with fail
      all_goals (go_ret2; exact hr _ _ rfl (Below.refl _ _))
  · have h1 : 0 < s.size := by
      rcases Nat.eq_zero_or_pos s.size with h | h
      · exact absurd (.inl (List.length_eq_zero_iff.1 (by omega))) hc
      · exact h
    exact number_loop s m w h1 (by omega) (fun h => by
      rcases Nat.lt_or_ge 1 s.size with h' | h'
      · exact absurd (.inr (.inr ⟨by omega, h⟩)) hc
      · omega)
end Go.Proofs.YtmepjbjmjbpchaaGreatDoor
end
section
/- More walks of package types: letters and names, number types, products, the beginnings of types with cells. -/
namespace Go.Proofs.YtmepjbjmjbpchaaGreatDoor
open Go Go.RowKit
set_option linter.unusedVariables false
set_option linter.unusedSimpArgs false

/-! ### graph.isLetter, graph.IsName -/
def isLet (c : UInt8) : Bool := decide (97 ≤ c.toNat ∧ c.toNat ≤ 122)
def isWord (c : UInt8) : Bool := isLet c || decide (48 ≤ c.toNat ∧ c.toNat ≤ 57) || decide (c.toNat = 95)
/-- `graph.IsName`. -/
def nameOf (l : List UInt8) : Bool := !l.isEmpty && decide (l.length ≤ 60) && (l.head?.map isLet).getD false && l.all isWord

theorem isLetter_any (c : UInt8) (w : World) :
    Calls Tryz.prog 70 #[.int .u8 c.toNat] w fun e w' => e = .returned (.bool (isLet c)) ∧ w = w' := by
  have hi : isLet c = (decide (97 ≤ (c.toNat : Int)) && decide ((c.toNat : Int) ≤ 122)) := by
    unfold isLet; rw [Bool.eq_iff_iff]; simp; omega
  have HI := Lib.hid hi; clear hi
  go_enter Tryz.func70, Tryz.ntmps70
  go_wp2_with fail
  all_goals (go_ret; exact ⟨by rw [HI.out]; simp; try omega, rfl⟩)

def BoolPost (b : Bool) (w : World) (e : Ending) (w' : World) : Prop := e = .returned (.bool b) ∧ w = w'

theorem nameOf_empty {l : List UInt8} (h : l = []) : nameOf l = false := by subst h; rfl
theorem nameOf_long {l : List UInt8} (h : 60 < l.length) : nameOf l = false := by simp [nameOf]; intros; omega
theorem nameOf_first {l : List UInt8} {c : UInt8} (h : l.head? = some c) (hc : isLet c = false) : nameOf l = false := by simp [nameOf, h, hc]
theorem nameOf_bad {l : List UInt8} {i : Nat} {c : UInt8} (h : l[i]? = some c) (hc : isWord c = false) : nameOf l = false := by
  have : l.all isWord = false := by
    rw [List.all_eq_false]; exact ⟨c, List.mem_of_getElem? h, by simp [hc]⟩
  simp [nameOf, this]

theorem bytes_get (s : ByteArray) (i : Nat) (h : i < s.size) : s.data.toList[i]? = some (s[i]'h) := by
  rw [List.getElem?_eq_getElem (by simpa using h)]; rfl

theorem take_word {l : List UInt8} {k : Nat} {c : UInt8} (h : l[k]? = some c) : (l.take (k + 1)).all isWord = ((l.take k).all isWord && isWord c) := by
  rw [List.take_add_one, h]; simp

set_option maxHeartbeats 1000000 in
theorem isName_any (s : ByteArray) (w : World) :
    Calls Tryz.prog 42 #[.string s] w (BoolPost (nameOf s.data.toList) w) := by
  have hl : s.data.toList.length = s.size := by simp
  by_cases h0 : s.toList = []
  · have hf := Lib.hid (nameOf_empty (l := s.data.toList) (by rw [← toList_nil_iff]; exact h0))
    have h0' : s.toList.isEmpty = true := by rw [h0]; rfl
    clear h0 hl
    go_enter Tryz.func42, Tryz.ntmps42
    go_wp2_with fail
    all_goals (go_ret; exact ⟨by rw [hf.out]; rfl, rfl⟩)
  have h0' : s.toList.isEmpty = false := by rw [List.isEmpty_eq_false_iff]; exact h0
  have hpos : 0 < s.size := by
    rcases Nat.eq_zero_or_pos s.size with h | h
    · exact absurd ((toList_nil_iff s).2 (List.length_eq_zero_iff.1 (by omega))) h0
    · exact h
  rcases Nat.lt_or_ge 60 s.size with h60 | h60
  · have hf := Lib.hid (nameOf_long (l := s.data.toList) (by omega))
    clear h0 hl
    go_enter Tryz.func42, Tryz.ntmps42
    go_wp2_with fail
    all_goals (go_ret; exact ⟨by rw [hf.out]; rfl, rfl⟩)
  have hhd : s.data.toList.head? = some (s[0]'hpos) := by rw [List.head?_eq_getElem?]; exact bytes_get s 0 hpos
  cases hc : isLet (s[0]'hpos)
  · have hf := Lib.hid (nameOf_first hhd hc)
    have Hc := Lib.hid hc
    clear h0 hl hhd hc
    go_enter Tryz.func42, Tryz.ntmps42
    go_wp2_with (go_at_call 70; refine (isLetter_any _ _).mono ?_; rintro e w' ⟨rfl, rfl⟩; rw [Hc.out])
    all_goals (go_ret; exact ⟨by rw [hf.out]; rfl, rfl⟩)
  · have Hc := Lib.hid hc
    have Hhd := Lib.hid hhd
    clear h0 hl hhd hc
    go_enter Tryz.func42, Tryz.ntmps42
    go_wp2_with (go_at_call 70; refine (isLetter_any _ _).mono ?_; rintro e w' ⟨rfl, rfl⟩; rw [Hc.out])
    go_loop [20] (fun i => ∃ k : Nat, k ≤ s.size ∧ i = .int .i64 k ∧ (s.data.toList.take k).all isWord = true) (fun i => s.size - (intOf i).toNat)
    case atStart => exact ⟨0, Nat.zero_le _, rfl, by simp⟩
    case round =>
      obtain ⟨k, hk, rfl, hall⟩ := hrel
      have Hall := Lib.hid hall; clear hall
      rcases Nat.lt_or_ge k s.size with hlt | hge
      · have hget := Lib.hid (bytes_get s k hlt)
        cases hlet : isLet (s[k]'hlt)
        · have Hlet := Lib.hid hlet; clear hlet
          go_wp2_with (go_at_call 70; refine (isLetter_any _ _).mono ?_; rintro e w' ⟨rfl, rfl⟩; rw [Hlet.out])
          all_goals (try simp only [bne_iff_ne, bne_eq_false_iff_eq] at *)
          all_goals first
            | (go_ret; exact ⟨by rw [nameOf_bad hget.out (by simp [isWord, Hlet.out]; omega)]; rfl, rfl⟩)
            | (go_round
               case rel => exact ⟨k + 1, by omega, by go_num, by rw [take_word hget.out, Hall.out]; simp [isWord, Hlet.out]; omega⟩
               case measure => simp [intOf]; omega)
        · have Hlet := Lib.hid hlet; clear hlet
          go_wp2_with (go_at_call 70; refine (isLetter_any _ _).mono ?_; rintro e w' ⟨rfl, rfl⟩; rw [Hlet.out])
          all_goals
            (go_round
             case rel => exact ⟨k + 1, by omega, by go_num, by rw [take_word hget.out, Hall.out]; simp [isWord, Hlet.out]⟩
             case measure => simp [intOf]; omega)
      · go_wp2_with fail
        all_goals
          (go_ret
           exact ⟨by
            have h1 : nameOf s.data.toList = true := by
              have := Hall.out
              rw [List.take_of_length_le (by simp; omega)] at this
              have h60' : s.data.toList.length ≤ 60 := by simpa using h60
              simp [nameOf, this, Hhd.out, Hc.out]
              constructor
              · intro hn; rw [hn] at Hhd; have := Hhd.out; simp at this
              · simpa using h60'
            rw [h1]; rfl, rfl⟩)
end Go.Proofs.YtmepjbjmjbpchaaGreatDoor
end
section
/- More walks of package types: number types, products, the beginnings of types with cells, properties. -/
namespace Go.Proofs.YtmepjbjmjbpchaaGreatDoor
open Go Go.RowKit
set_option linter.unusedVariables false
set_option linter.unusedSimpArgs false

/-- A block of the call's own reads on behind a callee that keeps what lay. -/
theorem rdCell {W w1 : World} (hb : Below W.heap.size W w1) (A : Nat) (hA : A < W.heap.size) : ∀ j, w1.cell? ⟨A, j, none⟩ = W.cell? ⟨A, j, none⟩ := fun j => hb.cell (p := ⟨A, j, none⟩) hA
theorem rdFree {W w1 : World} (hb : Below W.heap.size W w1) (A : Nat) (hA : A < W.heap.size) : ∀ j, w1.frozen? ⟨A, j, none⟩ = W.frozen? ⟨A, j, none⟩ := fun j => hb.frozen (p := ⟨A, j, none⟩) hA

/-- What `types.read` tells of a type. -/
structure Pd where
  kind : Nat
  bits : Nat
  ext : List Nat
def Pd.val (p : Pd) : Value := .agg #[.int .i64 p.kind, .int .i64 p.bits, .int .i64 p.ext.length, .int .i64 (p.ext.getD 0 0 : Nat), .int .i64 (p.ext.getD 1 0 : Nat), .int .i64 (p.ext.getD 2 0 : Nat)]

theorem cutPrefix_yes (s : ByteArray) (p : List UInt8) (w : World) (h : Lib.hasPrefix s.data.toList p = true) :
    Calls Tryz.prog 95 #[.string s, .string ⟨p.toArray⟩] w fun e w' => ∃ t : ByteArray, e = .returned (.tuple #[.string t, .bool true]) ∧ Hid (t.data.toList = s.data.toList.drop p.length) ∧ w = w' := by
  refine (Tryz.strings_CutPrefix s ⟨p.toArray⟩ w).mono ?_
  rintro e w' ⟨rfl, rfl⟩
  exact ⟨⟨(Lib.trimPrefix s.data.toList p).toArray⟩, by simp [h], by simp [Lib.trimPrefix, h, Hid], rfl⟩
theorem cutPrefix_no (s : ByteArray) (p : List UInt8) (w : World) (h : Lib.hasPrefix s.data.toList p = false) :
    Calls Tryz.prog 95 #[.string s, .string ⟨p.toArray⟩] w fun e w' => e = .returned (.tuple #[.string s, .bool false]) ∧ w = w' := by
  refine (Tryz.strings_CutPrefix s ⟨p.toArray⟩ w).mono ?_
  rintro e w' ⟨rfl, rfl⟩
  simp [Lib.trimPrefix, h]
theorem cutSuffix_yes (s : ByteArray) (p : List UInt8) (w : World) (hs : s.size ≤ 9223372036854775807) (h : Lib.hasSuffix s.data.toList p = true) :
    Calls Tryz.prog 96 #[.string s, .string ⟨p.toArray⟩] w fun e w' => ∃ t : ByteArray, e = .returned (.tuple #[.string t, .bool true]) ∧ Hid (t.data.toList = s.data.toList.take (s.data.toList.length - p.length)) ∧ w = w' := by
  refine (Tryz.strings_CutSuffix s ⟨p.toArray⟩ w hs).mono ?_
  rintro e w' ⟨rfl, rfl⟩
  exact ⟨⟨(Lib.trimSuffix s.data.toList p).toArray⟩, by simp [h], by simp [Lib.trimSuffix, h, Hid], rfl⟩
theorem cutSuffix_no (s : ByteArray) (p : List UInt8) (w : World) (hs : s.size ≤ 9223372036854775807) (h : Lib.hasSuffix s.data.toList p = false) :
    Calls Tryz.prog 96 #[.string s, .string ⟨p.toArray⟩] w fun e w' => e = .returned (.tuple #[.string s, .bool false]) ∧ w = w' := by
  refine (Tryz.strings_CutSuffix s ⟨p.toArray⟩ w hs).mono ?_
  rintro e w' ⟨rfl, rfl⟩
  simp [Lib.trimSuffix, h]

theorem number_some (s : ByteArray) (m : Int) (n : Nat) (w : World) (h : numOf s.data.toList = some n) :
    Calls Tryz.prog 169 #[.string s, .int .i64 m] w fun e w' => e = .returned (.tuple #[.int .i64 n, .bool (decide ((n : Int) ≤ m))]) ∧ Below w.heap.size w w' :=
  (number_any s m w).mono fun e w' ⟨he, hb⟩ => ⟨by rw [he, h]; rfl, hb⟩
theorem number_none (s : ByteArray) (m : Int) (w : World) (h : numOf s.data.toList = none) :
    Calls Tryz.prog 169 #[.string s, .int .i64 m] w fun e w' => e = .returned (.tuple #[.int .i64 0, .bool false]) ∧ Below w.heap.size w w' :=
  (number_any s m w).mono fun e w' ⟨he, hb⟩ => ⟨by rw [he, h]; rfl, hb⟩

/-- `types.element`. -/
def elemOf (l : List UInt8) : Option Pd :=
  if l = [105, 110, 100, 101, 120] then some ⟨1, 64, []⟩
  else if Lib.hasPrefix l [105] then
    match numOf l.tail with
    | some n => if 0 < n ∧ n ≤ 64 then some ⟨0, n, []⟩ else none
    | none => none
  else none
def ElemPost (l : List UInt8) (w : World) (e : Ending) (w' : World) : Prop :=
  ∃ p : Pd, p.ext = [] ∧ (∀ q, elemOf l = some q → p = q) ∧ e = .returned (.tuple #[p.val, .bool (elemOf l).isSome]) ∧ Below w.heap.size w w'

theorem elem_index {s : ByteArray} {w w' : World} {e : Ending} (h : s.data.toList = [105, 110, 100, 101, 120])
    (he : e = .returned (.tuple #[.agg #[.int .i64 1, .int .i64 64, .int .i64 0, .int .i64 0, .int .i64 0, .int .i64 0], .bool true])) (hb : Below w.heap.size w w') : ElemPost s.data.toList w e w' :=
  ⟨⟨1, 64, []⟩, rfl, fun q hq => by simp [elemOf, h] at hq; exact hq, by rw [he]; simp [elemOf, h, Pd.val], hb⟩
theorem elem_any {l : List UInt8} {n : Nat} {b : Bool} {w w' : World} {e : Ending} (h0 : ¬ l = [105, 110, 100, 101, 120])
    (h1 : (b = true ∧ elemOf l = some ⟨0, n, []⟩) ∨ (b = false ∧ elemOf l = none))
    (he : e = .returned (.tuple #[.agg #[.int .i64 0, .int .i64 n, .int .i64 0, .int .i64 0, .int .i64 0, .int .i64 0], .bool b])) (hb : Below w.heap.size w w') : ElemPost l w e w' :=
  ⟨⟨0, n, []⟩, rfl, fun q hq => by rcases h1 with ⟨_, h⟩ | ⟨_, h⟩ <;> rw [h] at hq <;> simp at hq; exact hq, by rw [he]; rcases h1 with ⟨rfl, h⟩ | ⟨rfl, h⟩ <;> rw [h] <;> rfl, hb⟩

theorem below_set {B : Nat} {a w : World} {g : Nat} (h : Below B a w) (hg : B ≤ g) (i : Nat) (v : Value) : Below B a (w.setCell ⟨g, i, none⟩ v) := h.setCell (p := ⟨g, i, none⟩) hg v
theorem below_own {w w1 : World} {o : Obj} (hb : Below (w.alloc o).heap.size (w.alloc o) w1) : Below w.heap.size w w1 :=
  ((Below.refl _ w).alloc (Nat.le_refl _) _).trans (hb.mono (by simp))

set_option maxHeartbeats 1000000 in
theorem element_any (s : ByteArray) (w : World) :
    Calls Tryz.prog 162 #[.string s] w (ElemPost s.data.toList w) := by
  by_cases h0 : s.toList = [105, 110, 100, 101, 120]
  · have H0 := Lib.hid h0
    have h0b : (s.toList == [105, 110, 100, 101, 120]) = true := by rw [h0]; rfl
    clear h0
    go_enter Tryz.func162, Tryz.ntmps162
    go_wp2_with fail
    refine bodyPost_ret (v := .tuple #[.agg #[.int .i64 1, .int .i64 64, .int .i64 0, .int .i64 0, .int .i64 0, .int .i64 0], .bool true]) (by simp [results, Tryz.results162, go_sem]) rfl ?_
    exact elem_index (by rw [← ByteArray.toList_eq]; exact H0.out) rfl ((Below.refl _ w).alloc (Nat.le_refl _) _)
  · have H0 := Lib.hid (show ¬ s.data.toList = [105, 110, 100, 101, 120] by rw [← ByteArray.toList_eq]; exact h0)
    have h0b : (s.toList == [105, 110, 100, 101, 120]) = false := by rw [beq_eq_false_iff_ne]; exact h0
    clear h0
    cases hp : Lib.hasPrefix s.data.toList [105]
    · have HN := Lib.hid (show elemOf s.data.toList = none by unfold elemOf; rw [if_neg H0.out, hp]; rfl)
      have Hp := Lib.hid hp; clear hp
      cases hn : numOf s.data.toList
      all_goals
        have Hn := Lib.hid hn; clear hn
        go_enter Tryz.func162, Tryz.ntmps162
        go_wp2_with (first
          | (go_at_call 95; refine (cutPrefix_no _ _ _ Hp.out).mono ?_; rintro e w' ⟨rfl, rfl⟩)
          | (go_at_call 169; (first | refine (number_none _ _ _ Hn.out).mono ?_ | refine (number_some _ _ _ _ Hn.out).mono ?_); rintro e w' ⟨rfl, hb⟩; have hc := rdCell hb w.heap.size (by simp); have hf := rdFree hb w.heap.size (by simp)))
        refine bodyPost_ret (v := .tuple #[.agg #[.int .i64 0, .int .i64 _, .int .i64 0, .int .i64 0, .int .i64 0, .int .i64 0], .bool false]) (by simp [results, Tryz.results162, go_sem, hc]; try rfl) rfl ?_
        refine elem_any H0.out (.inr ⟨rfl, HN.out⟩) rfl ?_
        repeat (with_reducible refine below_set ?_ (Nat.le_refl _) _ _)
        exact below_own hb
    · have HP := Lib.hid (show elemOf s.data.toList = (match numOf s.data.toList.tail with | some n => if 0 < n ∧ n ≤ 64 then some ⟨0, n, []⟩ else none | none => none) by unfold elemOf; rw [if_neg H0.out, hp]; rfl)
      have Hp := Lib.hid hp; clear hp
      cases hn : numOf s.data.toList.tail
      all_goals
        rw [hn] at HP
        have Hn := Lib.hid hn; clear hn
        go_enter Tryz.func162, Tryz.ntmps162
        go_wp2_with (first
          | (go_at_call 95; refine (cutPrefix_yes _ _ _ Hp.out).mono ?_; rintro e w' ⟨t, rfl, ht, rfl⟩)
          | (go_at_call 169; (first | refine (number_none _ _ _ (by rw [ht.out]; simpa using Hn.out)).mono ?_ | refine (number_some _ _ _ _ (by rw [ht.out]; simpa using Hn.out)).mono ?_); rintro e w' ⟨rfl, hb⟩; have hc := rdCell hb w.heap.size (by simp); have hf := rdFree hb w.heap.size (by simp)))
        all_goals
          first
            | (refine bodyPost_ret (v := .tuple #[.agg #[.int .i64 0, .int .i64 _, .int .i64 0, .int .i64 0, .int .i64 0, .int .i64 0], .bool _]) (by simp [results, Tryz.results162, go_sem, hc]; first | done | exact ⟨rfl, rfl⟩ | rfl) rfl ?_
               refine elem_any H0.out ?_ rfl ?_
               · first
                   | exact .inr ⟨rfl, HP.out⟩
                   | exact .inr ⟨rfl, by rw [HP.out, if_neg (by omega)]⟩
                   | (rename_i n _; rcases Nat.eq_zero_or_pos n with h0 | h0
                      · exact .inr ⟨by simp [h0], by rw [HP.out, if_neg (by omega)]⟩
                      · exact .inl ⟨by simp [h0], by rw [HP.out, if_pos (by omega)]⟩)
                   | fail               
               · repeat (with_reducible refine below_set ?_ (Nat.le_refl _) _ _)
                 exact below_own hb)
end Go.Proofs.YtmepjbjmjbpchaaGreatDoor
end
section
/- Maps at the operation: plain run equations over any program, for keys that are integers or strings. -/
set_option linter.unusedVariables false
set_option linter.unusedSimpArgs false
namespace Go.Proofs.YtmepjbjmjbpchaaGreatDoor
open Go Go.RowKit

section
variable {P : Program}
theorem run_getObj_map {w : World} {r : Nat} {es : Array MapEntry} {clock : Nat} (h : w.heap[r]? = some (.map es clock)) : (getObj r).run P w = .ok (.map es clock) w := by
  simp only [getObj, Sem.run, h]
theorem run_setObj_map {w : World} {r : Nat} {es : Array MapEntry} {clock : Nat} {o' : Obj} (h : w.heap[r]? = some (.map es clock)) : (setObj r o').run P w = .ok () { w with heap := w.heap.setIfInBounds r o' } := by
  simp only [setObj, Sem.run, h]
theorem run_checkKey_int' {kt : TypeId} {q : IntKind} (hk : P.underlying kt = some (.int q)) (b : Bool) (key : Value) (w : World) (n : Nat) : (Instr.checkKey b (n + 1) kt key).run P w = .ok () w := by
  unfold Instr.checkKey
  rw [Sem.run_bind, run_underlying hk]; rfl
theorem run_checkKey_int {kt : TypeId} {q : IntKind} (hk : P.underlying kt = some (.int q)) (b : Bool) (key : Value) (w : World) : (Instr.checkKey b 10000 kt key).run P w = .ok () w := run_checkKey_int' hk b key w 9999
theorem run_checkKey_string' {kt : TypeId} (hk : P.underlying kt = some .string) (b : Bool) (key : Value) (w : World) (n : Nat) : (Instr.checkKey b (n + 1) kt key).run P w = .ok () w := by
  unfold Instr.checkKey
  rw [Sem.run_bind, run_underlying hk]; rfl
theorem run_checkKey_string {kt : TypeId} (hk : P.underlying kt = some .string) (b : Bool) (key : Value) (w : World) : (Instr.checkKey b 10000 kt key).run P w = .ok () w := run_checkKey_string' hk b key w 9999
theorem run_findKey_now {kt : TypeId} {d : TypeDesc} (hk : P.underlying kt = some d) {key : Value} {es : List MapEntry} {r : Option (Nat × Value)} (hf : Instr.findNow d key es 0 = some r) (w : World) : (Instr.findKey kt key es).run P w = .ok r w := by
  simp [Instr.findKey, run_underlying hk, hf]
theorem run_mapUpdate_new {t kt et : TypeId} {d : TypeDesc} {w : World} {r clock : Nat} {es : Array MapEntry} {key : Value} (val : Value) (ht : P.underlying t = some (.map kt et)) (hk : P.underlying kt = some d)
    (hck : (Instr.checkKey false 10000 kt key).run P w = .ok () w) (hf : Instr.findNow d key es.toList 0 = some none) (hr : w.heap[r]? = some (.map es clock)) :
    (Instr.mapUpdate t (.map (some r)) key val).run P w = .ok () { w with heap := w.heap.setIfInBounds r (.map (es.push { key, val, born := clock }) (clock + 1)) } := by
  simp [Instr.mapUpdate, run_underlying ht, run_getObj_map hr, hck, run_findKey_now hk hf, run_setObj_map hr]
theorem run_lookup_hit {t kt et : TypeId} {d : TypeDesc} {w : World} {r clock i : Nat} {es : Array MapEntry} {key v : Value} (ht : P.underlying t = some (.map kt et)) (hk : P.underlying kt = some d)
    (hck : ∀ b, (Instr.checkKey b 10000 kt key).run P w = .ok () w) (hf : Instr.findNow d key es.toList 0 = some (some (i, v))) (hr : w.heap[r]? = some (.map es clock)) (ok : Bool) :
    (Instr.lookup t (.map (some r)) key ok).run P w = .ok (if ok then .tuple #[v, .bool true] else v) w := by
  simp [Instr.lookup, run_underlying ht, run_getObj_map hr, hck, run_findKey_now hk hf]
theorem run_range_map' {t kt et : TypeId} (ht : P.underlying t = some (.map kt et)) {w : World} {m clock : Nat} {es : Array MapEntry} (h : w.heap[m]? = some (.map es clock)) :
    (Instr.range t (.map (some m))).run P w = .ok (.pointer (some ⟨w.heap.size, 0, none⟩)) (w.alloc (.mapIter (some m) clock #[] clock)) := by
  simp [Instr.range, run_underlying ht, run_getObj_map h]
theorem World.setIn_alloc (w : World) (o o' : Obj) : { w.alloc o with heap := (w.alloc o).heap.setIfInBounds w.heap.size o' } = w.alloc o' := by
  simp only [World.alloc]
  congr 1
  apply Array.ext'
  simp [Array.setIfInBounds, Array.toList_push]
end
end Go.Proofs.YtmepjbjmjbpchaaGreatDoor
end
section
/- More walks of package types: properties of what was read. -/
namespace Go.Proofs.YtmepjbjmjbpchaaGreatDoor
open Go Go.RowKit
set_option linter.unusedVariables false
set_option linter.unusedSimpArgs false

abbrev pv (k b r x y z : Int) : Value := .agg #[.int .i64 k, .int .i64 b, .int .i64 r, .int .i64 x, .int .i64 y, .int .i64 z]

section
variable (k b r x y z : Int) (w : World)
theorem anything_any : Calls Tryz.prog 133 #[pv k b r x y z] w fun e w' => e = .returned (.bool true) ∧ Below w.heap.size w w' := by
  go_enter Tryz.func133, Tryz.ntmps133
  go_wp2_with fail
  go_ret
  exact ⟨rfl, (Below.refl _ w).alloc (Nat.le_refl _) _⟩
theorem wrap_low : ∀ b : Fin 65, 1 ≤ b.val → wrap64 (-2 ^ (b.val - 1)) = -2 ^ (b.val - 1) := by decide +kernel
theorem wrap_high : ∀ b : Fin 65, 1 ≤ b.val → wrap64 (wrap64 (2 ^ (b.val - 1)) - 1) = 2 ^ (b.val - 1) - 1 := by decide +kernel
set_option maxRecDepth 100000 in
theorem isZero_any (h0 : k ≠ 0 ∨ b ≠ 0) : Calls Tryz.prog 134 #[pv k b r x y z] w fun e w' => e = .returned (.bool false) ∧ Below w.heap.size w w' := by
  have h : (k ≠ 0) ∨ (k = 0 ∧ b ≠ 0) := by omega
  clear h0
  rcases h with h | ⟨rfl, h⟩
  all_goals
    go_enter Tryz.func134, Tryz.ntmps134
    go_wp2_with fail
    go_ret
    exact ⟨rfl, (Below.refl _ w).alloc (Nat.le_refl _) _⟩
end

def wordEs : Array MapEntry := #[⟨.int .i64 2, .string ⟨#[109, 101, 109, 60]⟩, 0⟩, ⟨.int .i64 3, .string ⟨#[97, 114, 114, 60]⟩, 1⟩]
theorem words_any (w : World) : Calls Tryz.prog 163 #[] w fun e w' => e = .returned (.map (some w.heap.size)) ∧ w.alloc (.map wordEs 2) = w' := by
  have hmm := @run_makeMap Tryz.prog
  have h1 : (Instr.mapUpdate 185 (.map (some w.heap.size)) (.int .i64 2) (.string ⟨#[109, 101, 109, 60]⟩)).run Tryz.prog (w.alloc (.map #[] 0)) = .ok () (w.alloc (.map #[⟨.int .i64 2, .string ⟨#[109, 101, 109, 60]⟩, 0⟩] 1)) := by
    rw [run_mapUpdate_new _ Tryz.underlying185 Tryz.underlying157 (run_checkKey_int Tryz.underlying157 _ _ _) rfl (heap_alloc_new w _), World.setIn_alloc]; rfl
  have h2 : (Instr.mapUpdate 185 (.map (some w.heap.size)) (.int .i64 3) (.string ⟨#[97, 114, 114, 60]⟩)).run Tryz.prog (w.alloc (.map #[⟨.int .i64 2, .string ⟨#[109, 101, 109, 60]⟩, 0⟩] 1)) = .ok () (w.alloc (.map wordEs 2)) := by
    rw [run_mapUpdate_new _ Tryz.underlying185 Tryz.underlying157 (run_checkKey_int Tryz.underlying157 _ _ _) rfl (heap_alloc_new w _), World.setIn_alloc]; rfl
  go_enter Tryz.func163, Tryz.ntmps163
  go_wp2_with fail
  go_ret
  exact ⟨rfl, rfl⟩

/-! ### strings.Cut at one byte -/
def cutOf (c : UInt8) : List UInt8 → Option (List UInt8 × List UInt8)
  | [] => none
  | b :: l => if b = c then some ([], l) else (cutOf c l).map fun p => (b :: p.1, p.2)
theorem cutOf_none : ∀ (l : List UInt8) (c : UInt8), cutOf c l = none → Lib.indexByte l c = -1
  | [], c, _ => rfl
  | b :: l, c, h => by
    simp only [cutOf] at h
    split at h
    · cases h
    · rename_i hb
      simp only [Option.map_eq_none_iff] at h
      simp [Lib.indexByte, hb, cutOf_none l c h]
theorem cutOf_some : ∀ (l : List UInt8) (c : UInt8) (x y : List UInt8), cutOf c l = some (x, y) → Lib.indexByte l c = x.length ∧ l = x ++ c :: y ∧ c ∉ x
  | [], c, x, y, h => by simp [cutOf] at h
  | b :: l, c, x, y, h => by
    simp only [cutOf] at h
    split at h
    · rename_i hb
      simp only [Option.some.injEq, Prod.mk.injEq] at h
      obtain ⟨rfl, rfl⟩ := h
      simp [Lib.indexByte, hb]
    · rename_i hb
      simp only [Option.map_eq_some_iff] at h
      obtain ⟨⟨x', y'⟩, h, he⟩ := h
      simp only [Prod.mk.injEq] at he
      obtain ⟨rfl, rfl⟩ := he
      obtain ⟨h1, h2, h3⟩ := cutOf_some l c x' y' h
      refine ⟨?_, by rw [h2]; rfl, by simp [h3]; exact fun e => hb e.symm⟩
      have : ¬ ((x'.length : Int) = -1) := by omega
      simp [Lib.indexByte, hb, h1, this]
theorem ba_eq {s : ByteArray} {l : List UInt8} (h : s.data.toList = l) : s = ⟨l.toArray⟩ := by rw [← h, Lib.mk_data]

def CutPost (r : Option (List UInt8 × List UInt8)) (s : ByteArray) (w : World) (e : Ending) (w' : World) : Prop :=
  (∃ n, w' = w.drewN n) ∧
  match r with
  | none => e = .returned (.tuple #[.string s, .string ⟨#[]⟩, .bool false])
  | some (x, y) => e = .returned (.tuple #[.string ⟨x.toArray⟩, .string ⟨y.toArray⟩, .bool true])
theorem lite_cut_one (s : ByteArray) (c : UInt8) (w : World) (hsz : s.size ≤ 9223372036854775806) :
    Calls Tryz.prog 77 #[.string s, .string ⟨#[c]⟩] w (CutPost (cutOf c s.data.toList) s w) := by
  cases h : cutOf c s.data.toList with
  | none =>
    have hi := cutOf_none _ _ h
    clear h
    go_enter Tryz.func77, Tryz.ntmps77
    go_wp2_with (go_at_call 115; refine (Tryz.stringslite_Index_one _ _ _).mono ?_; rintro e w' ⟨rfl, rfl⟩; rw [hi])
    go_ret3
    exact ⟨⟨0, rfl⟩, rfl⟩
  | some p =>
    obtain ⟨x, y⟩ := p
    obtain ⟨hi, hl, _⟩ := cutOf_some _ _ _ _ h
    have hlen : s.size = x.length + 1 + y.length := by
      have : s.data.toList.length = s.size := by simp
      rw [hl] at this; simp at this; omega
    have hx : (s.extract 0 x.length) = ⟨x.toArray⟩ := ba_eq (by rw [Lib.extract_data, hl]; simp)
    have hy : (s.extract (x.length + 1) s.size) = ⟨y.toArray⟩ := ba_eq (by rw [Lib.extract_data, hl, hlen]; simp)
    have HX := Lib.hid hx
    have HY := Lib.hid hy
    have hle : x.length + 1 ≤ s.size := by omega
    have hi2 := Lib.hid hi
    clear h hl hx hy hlen hi
    go_enter Tryz.func77, Tryz.ntmps77
    go_wp2_with (go_at_call 115; refine (Tryz.stringslite_Index_one _ _ _).mono ?_; rintro e w' ⟨rfl, rfl⟩; rw [hi2.out])
    go_quiet (fail)
    go_wp2_with fail
    go_ret3
    exact ⟨⟨_, rfl⟩, by show Ending.returned (.tuple #[.string (s.extract 0 x.length), .string (s.extract (x.length + 1) s.size), .bool true]) = _; rw [HX.out, HY.out]⟩
theorem cut_one (s : ByteArray) (c : UInt8) (w : World) (hsz : s.size ≤ 9223372036854775806) :
    Calls Tryz.prog 51 #[.string s, .string ⟨#[c]⟩] w (CutPost (cutOf c s.data.toList) s w) := by
  cases h : cutOf c s.data.toList with
  | none =>
    have hr := Lib.hid h; clear h
    go_enter Tryz.func51, Tryz.ntmps51
    go_wp2_with (go_at_call 77; refine (lite_cut_one _ _ _ hsz).mono ?_; rw [hr.out]; rintro e w' ⟨⟨n, rfl⟩, he⟩; obtain rfl := he)
    go_ret3
    exact ⟨⟨n, rfl⟩, rfl⟩
  | some p =>
    obtain ⟨x, y⟩ := p
    have hr := Lib.hid h; clear h
    go_enter Tryz.func51, Tryz.ntmps51
    go_wp2_with (go_at_call 77; refine (lite_cut_one _ _ _ hsz).mono ?_; rw [hr.out]; rintro e w' ⟨⟨n, rfl⟩, he⟩; obtain rfl := he)
    go_ret3
    exact ⟨⟨n, rfl⟩, rfl⟩

/-! ### types.product -/
def prodW (l : List Int) : Int := l.foldl (fun a x => wrap64 (a * x)) 1
theorem prodW_snoc {zs : List Int} {k : Nat} (h : k < zs.length) : prodW (zs.take (k + 1)) = wrap64 (prodW (zs.take k) * zs[k]?.getD 0) := by
  rw [List.take_add_one, List.getElem?_eq_getElem h, prodW, List.foldl_append]; rfl
theorem product_any (g off n c : Nat) (zs : List Int) (w : World) (hn : n ≤ zs.length) (hm : n ≤ 9223372036854775807)
    (hc : ∀ j, j < zs.length → w.cell? ⟨g, off + j, none⟩ = some (.int .i64 (zs[j]?.getD 0))) :
    Calls Tryz.prog 171 #[.slice (some ⟨g, off, none⟩) n c] w fun e w' => e = .returned (.int .i64 (prodW (zs.take n))) ∧ w = w' := by
  go_enter Tryz.func171, Tryz.ntmps171
  go_wp2_with fail
  go_loop [3, 8] (fun p i => ∃ k : Nat, k ≤ n ∧ i = .int .i64 k ∧ p = .int .i64 (prodW (zs.take k))) (fun _ i => n - (intOf i).toNat)
  case atStart => exact ⟨0, Nat.zero_le _, rfl, rfl⟩
  case round =>
    obtain ⟨k, hk, rfl, rfl⟩ := hrel
    rcases Nat.lt_or_ge k n with hlt | hge
    · have hs := Lib.hid (prodW_snoc (zs := zs) (k := k) (by omega))
      go_wp2_with fail
      go_round
      case rel => exact ⟨k + 1, by omega, by go_num, by rw [hs.out]⟩
      case measure => simp [intOf]; omega
    · go_wp2_with fail
      go_ret
      exact ⟨by rw [show n = k by omega]; rfl, rfl⟩
theorem product_nil (c : Nat) (a : Option Addr) (w : World) :
    Calls Tryz.prog 171 #[.slice a 0 c] w fun e w' => e = .returned (.int .i64 1) ∧ w = w' := by
  go_enter Tryz.func171, Tryz.ntmps171
  go_wp2_with fail
  refine wp_loop_rounds 1 ?_
  rw [rounds_succ]
  go_wp2_with fail
  go_ret
  exact ⟨rfl, rfl⟩
end Go.Proofs.YtmepjbjmjbpchaaGreatDoor
end
section
/- A range over a function whose iterator may also write blocks of its own: the iterator's contract, and the two laws for the caller. -/
set_option linter.unusedVariables false
set_option linter.unusedSimpArgs false
namespace Go.Proofs.YtmepjbjmjbpchaaGreatDoor
open Go Go.RowKit

/-- An invariant that stands whatever of the blocks in `T` is turned, and whatever is laid anew. -/
def Stands {β : Type} (T : World → Nat → Prop) (J : β → World → Prop) : Prop :=
  ∀ s W W' row, J s W → W.grownBy W' row → (∀ r, row = some r → T W r) → J s W'
theorem Stands.put {β : Type} {T : World → Nat → Prop} {J : β → World → Prop} (h : Stands T J) {s : β} {W : World} {l : Nat} (o : Obj) (hs : J s W) (hl : T W l) : J s (W.putObj l o) :=
  h s W _ (some l) hs (grownBy_putObj' W l o) (fun r e => by cases e; exact hl)
theorem Stands.alloc {β : Type} {T : World → Nat → Prop} {J : β → World → Prop} (h : Stands T J) {s : β} {W : World} (o : Obj) (hs : J s W) : J s (W.alloc o) :=
  h s W _ none hs (World.grownBy_alloc W o none) (fun r e => by cases e)
theorem Stands.and {β : Type} {T : World → Nat → Prop} {I J : β → World → Prop} (h : Stands T I) (k : Stands T J) : Stands T (fun s W => I s W ∧ J s W) :=
  fun s W W' row hs hg hr => ⟨h s W W' row hs.1 hg hr, k s W W' row hs.2 hg hr⟩
theorem Stands.weaken {β : Type} {T T' : World → Nat → Prop} {J : β → World → Prop} (h : Stands T J) (hT : ∀ W r, T' W r → T W r) : Stands T' J :=
  fun s W W' row hs hg hr => h s W W' row hs hg fun r e => hT W r (hr r e)

/-- What the iterator called at heap size B may turn: a walk's object of its own, or a block in `T`. -/
def TurnsOf (T : World → Nat → Prop) (B : Nat) : World → Nat → Prop := fun W r => T W r ∨ (B ≤ r ∧ ∃ o, W.heap[r]? = some o ∧ o.isWalk = true)

/-- The contract of an iterator value: it calls yield with the elements of a list, one by one, from a world in which its own things lie (`Pre`), as long as rounds keep them (`Kp`). -/
def SeqT {α : Type} (F : Fence) (n : Nat) (P : Program) (g : Nat) (lb : Array Value) (encs : α → Array Value) (Kp : World → World → Prop) (T : World → Nat → Prop) (S Sp : List α → Prop) (N : List α → α → Prop) (Pre : World → Prop) : Prop :=
  ∀ (l : Nat) (J Jx : List α → World → Prop) (W : World), Pre W → Stands (TurnsOf T W.heap.size) J → Stands (TurnsOf T W.heap.size) Jx →
    (∀ pre x W1, J pre W1 → N pre x → YieldAt F (n - 1) P l (encs x) W1 fun e W' =>
      (e = .returned (.bool true) ∧ J (pre ++ [x]) W' ∧ Kp W1 W') ∨ (e = .returned (.bool false) ∧ Jx (pre ++ [x]) W')) →
    J [] W →
    CallsIn F n P g (#[.func (.yield l) #[] #[]] ++ lb) W fun e W' => (∃ v, e = .returned v) ∧ ((∃ xs, S xs ∧ J xs W') ∨ (∃ pre, Sp pre ∧ Jx pre W'))

/-- What the caller's invariant must stand: the iterator's turns, and the law's own book-keeping (blocks from B on that are no cells). -/
def TurnsAll (T : World → Nat → Prop) (B : Nat) : World → Nat → Prop := fun W r => T W r ∨ (B ≤ r ∧ ∃ o, W.heap[r]? = some o ∧ o.isCells = false)

section
variable {F : Fence} {n : Nat} {P : Program} {α : Type} {ps : Array Tmp} {assign body : Code} {a : Act}
  {gf : Nat} {lb : Array Value} {encs : α → Array Value} {Kp : World → World → Prop} {T : World → Nat → Prop} {S Sp : List α → Prop} {N : List α → α → Prop} {Pre : World → Prop}

/-- The call of the iterator, the record at l being ready; D: one more block that is no cells and no walk's, and stays. -/
theorem range_core (hseq : SeqT F (n - 1) P gf lb encs Kp T S Sp N Pre) (hT : ∀ W r, T W r → ∃ o, W.heap[r]? = some o ∧ (o.isWalk = true ∨ o.isCells = true))
    {B l D : Nat} {oD : Obj} {fn : FuncId} {dd : Nat} (hfn : F.fn fn) (hBl : B ≤ l)
    (hDc : oD.isCells = false) (hDl : D ≠ l)
    (rec : LoopState → Option Code → Loop) (hrec : rec = fun st pe => { state := st, pending := pe, fn, tmps := a.tmps, params := ps, assign, body, defers := dd })
    (W1 : World) (hP1 : Pre W1) (hL1 : W1.heap[l]? = some (.loop (rec .ready none))) (hD1 : W1.heap[D]? = some oD) (hDw : oD.isWalk = false) (hBW : B ≤ W1.heap.size)
    (hKt : ∀ {X Y Z : World}, Kp X Y → Kp Y Z → Kp X Z) (hKb : ∀ (W : World) (o o' : Obj), W.heap[l]? = some o → o.isCells = false → o.isWalk = false → Kp W (W.putObj l o')) (hps : ∀ x, (encs x).size = ps.size)
    (I : List α → World → Prop) (Ix : Code → List α → World → Prop) (hI : Stands (TurnsAll T B) I) (hIx : ∀ c, Stands (TurnsAll T B) (Ix c)) (h0 : I [] W1)
    (Ax : α → Act → World → Prop) (hAx : ∀ x a', Stands (TurnsAll (fun _ _ => False) B) (fun (_ : Unit) W => Ax x a' W))
    (keep : World → World → Prop) (hkeep : ∀ X Y, keep X Y → ∀ k o, (k = l ∨ k = D) → X.heap[k]? = some o → o.isCells = false → Y.heap[k]? = some o)
    (hassign : ∀ (pre : List α) (x : α) (W : World) (K : Act → World → Prop), I pre W → (∀ a' W', keep W W' → Kp W W' → I pre W' → Ax x a' W' → K a' W') →
      assign.wpIn (F.inRound l) (n - 1 - 1) P (Exit.then K (fun _ _ _ => False)) { tmps := (ps.zip (encs x)).foldl (fun t (p, v) => t.setIfInBounds p v) a.tmps, defers := [] } W)
    (hbody : ∀ (pre : List α) (x : α) (a' : Act) (W : World), (∃ r, W.heap[l]? = some (.loop r)) → I pre W → Ax x a' W → N pre x → body.wpIn (F.inRound l) (n - 1 - 1) P (fun e a2 W' => match e with
      | .normal => keep W W' ∧ Kp W W' ∧ I (pre ++ [x]) W'
      | .ret => keep W W' ∧ Ix .ret (pre ++ [x]) W'
      | .exit id => keep W W' ∧ Ix (.exit id) (pre ++ [x]) W'
      | .goto t => keep W W' ∧ Ix (.goto t) (pre ++ [x]) W'
      | _ => False) a' W) :
    CallsIn F (n - 1) P gf (#[.func (.yield l) #[] #[]] ++ lb) W1 fun e W2 => (∃ v, e = .returned v) ∧
      ((∃ xs, S xs ∧ I xs W2 ∧ W2.heap[l]? = some (.loop (rec .ready none)) ∧ W2.heap[D]? = some oD) ∨
       (∃ pre c, Sp pre ∧ Ix c pre W2 ∧ W2.heap[l]? = some (.loop (rec .done (some c))) ∧ W2.heap[D]? = some oD)) := by
  have hst : ∀ {k : Nat} {o : Obj} {A C : World} {row : Option Nat}, A.grownBy C row → (∀ r, row = some r → TurnsOf T W1.heap.size A r) → A.heap[k]? = some o → o.isCells = false → o.isWalk = false → C.heap[k]? = some o := by
    intro k o A C row hg hr hk hc hw
    refine (hg.block k (Array.getElem?_eq_some_iff.1 hk).1 (fun e => ?_)).trans hk
    have : ∃ o', A.heap[k]? = some o' ∧ (o'.isWalk = true ∨ o'.isCells = true) := by
      rcases hr k e.symm with h | ⟨_, o', ho', hw'⟩
      · exact hT A k h
      · exact ⟨o', ho', .inl hw'⟩
    obtain ⟨o', ho', hx⟩ := this
    rw [hk] at ho'; cases ho'
    rcases hx with hx | hx
    · rw [hw] at hx; cases hx
    · rw [hc] at hx; cases hx
  have hTA : ∀ W r, TurnsOf T W1.heap.size W r → TurnsAll T B W r := by
    rintro W r (h | ⟨hB, o, ho, hw⟩)
    · exact .inl h
    · exact .inr ⟨by omega, o, ho, Obj.not_cells_of_walk hw⟩
  have hbk : ∀ {W : World} {r : Loop}, W.heap[l]? = some (.loop r) → TurnsAll T B W l := fun h => .inr ⟨hBl, _, h, rfl⟩
  have hbk' : ∀ {W : World} {r : Loop}, W.heap[l]? = some (.loop r) → TurnsAll (fun _ _ => False) B W l := fun h => .inr ⟨hBl, _, h, rfl⟩
  refine (hseq l
    (fun pre W => I pre W ∧ W.heap[l]? = some (.loop (rec .ready none)) ∧ W.heap[D]? = some oD)
    (fun pre W => ∃ c, Ix c pre W ∧ W.heap[l]? = some (.loop (rec .done (some c))) ∧ W.heap[D]? = some oD)
    W1 hP1
    (fun s A C row hs hg hr => ⟨hI s A C row hs.1 hg (fun r e => hTA A r (hr r e)), hst hg hr hs.2.1 rfl rfl, hst hg hr hs.2.2 hDc hDw⟩)
    (fun s A C row hs hg hr => by
      obtain ⟨c, hc, hl, hk⟩ := hs
      exact ⟨c, hIx c s A C row hc hg (fun r e => hTA A r (hr r e)), hst hg hr hl rfl rfl, hst hg hr hk hDc hDw⟩)
    ?_ ⟨h0, hL1, hD1⟩).mono ?_
  · rintro pre x W ⟨hi, hl, hk⟩ hlen
    have hy := run_yield (P := P) (args := encs x) hl (by rw [hrec]; exact hps x)
    rw [hrec] at hy
    refine ⟨fn, _, assign, body, hy, roundIn_of_wpIn hfn (hassign pre x W _ hi ?_)⟩
    clear hy
    intro a' Wa hka hkpa hia hax
    have hl1 := hkeep _ _ hka _ _ (.inl rfl) hl rfl
    have hk1 := hkeep _ _ hka _ _ (.inr rfl) hk hDc
    have hlt : l < Wa.heap.size := (Array.getElem?_eq_some_iff.1 hl1).1
    refine ⟨_, run_beginRound hl1 (by rw [hrec]), ?_⟩
    have hl2 : (Wa.putObj l (.loop { rec .ready none with state := .busy })).heap[l]? = some (.loop { rec .ready none with state := .busy }) := World.putObj_heap_same hlt
    have hk2 : (Wa.putObj l (.loop { rec .ready none with state := .busy })).heap[D]? = some oD := (World.putObj_heap_other hDl).trans hk1
    have hw2 : Kp Wa (Wa.putObj l (.loop { rec .ready none with state := .busy })) := hKb _ _ _ hl1 rfl rfl
    refine wpIn_mono (hbody pre x a' _ ⟨_, hl2⟩ (hI.put _ hia (hbk hl1)) ((hAx x a').put (s := ()) _ hax (hbk' hl1)) hlen) ?_
    have fin : ∀ (jump : Option Code) (W3 : World), keep (Wa.putObj l (.loop { rec .ready none with state := .busy })) W3 →
        (Instr.endRound l jump).run P W3 = .ok (.bool jump.isNone) (W3.putObj l (.loop (rec (if jump.isNone then .ready else .done) jump))) ∧
        W3.heap[l]? = some (.loop { rec .ready none with state := .busy }) ∧
        (W3.putObj l (.loop (rec (if jump.isNone then .ready else .done) jump))).heap[l]? = some (.loop (rec (if jump.isNone then .ready else .done) jump)) ∧
        (W3.putObj l (.loop (rec (if jump.isNone then .ready else .done) jump))).heap[D]? = some oD := fun jump W3 hk3 => by
      have hl3 := hkeep _ _ hk3 _ _ (.inl rfl) hl2 rfl
      have := run_endRound (P := P) jump hl3
      rw [hrec] at this ⊢
      exact ⟨this, by rw [hrec] at hl3; exact hl3, World.putObj_heap_same (Array.getElem?_eq_some_iff.1 hl3).1, (World.putObj_heap_other hDl).trans (hkeep _ _ hk3 _ _ (.inr rfl) hk2 hDc)⟩
    rintro e a3 W3 hp
    cases e with
    | normal =>
      obtain ⟨hk3, hkp3, hi3⟩ := hp
      obtain ⟨hr, hl3, hl4, hk4⟩ := fin none W3 hk3
      exact ⟨_, _, hr, .inl ⟨rfl, ⟨hI.put _ hi3 (hbk hl3), hl4, hk4⟩, hKt hkpa (hKt (hKt hw2 hkp3) (hKb _ _ _ hl3 rfl rfl))⟩⟩
    | ret =>
      obtain ⟨hk3, hi3⟩ := hp
      obtain ⟨hr, hl3, hl4, hk4⟩ := fin (some .ret) W3 hk3
      exact ⟨_, _, hr, .inr ⟨rfl, .ret, (hIx _).put _ hi3 (hbk hl3), hl4, hk4⟩⟩
    | exit id =>
      obtain ⟨hk3, hi3⟩ := hp
      obtain ⟨hr, hl3, hl4, hk4⟩ := fin (some (.exit id)) W3 hk3
      exact ⟨_, _, hr, .inr ⟨rfl, .exit id, (hIx _).put _ hi3 (hbk hl3), hl4, hk4⟩⟩
    | goto t =>
      obtain ⟨hk3, hi3⟩ := hp
      obtain ⟨hr, hl3, hl4, hk4⟩ := fin (some (.goto t)) W3 hk3
      exact ⟨_, _, hr, .inr ⟨rfl, .goto t, (hIx _).put _ hi3 (hbk hl3), hl4, hk4⟩⟩
    | panic ch => exact hp.elim
    | outgrown => exact hp.elim
  · rintro e W2 ⟨⟨v, rfl⟩, (⟨xs, hS, hi, hl, hk⟩ | ⟨pre, hSp, c, hi, hl, hk⟩)⟩
    · exact ⟨⟨v, rfl⟩, .inl ⟨xs, hS, hi, hl, hk⟩⟩
    · exact ⟨⟨v, rfl⟩, .inr ⟨pre, c, hSp, hi, hl, hk⟩⟩

/-- How a round may be left. -/
def roundOut (B : Nat) (Kp : World → World → Prop) (I : List α → World → Prop) (Ix : Code → List α → World → Prop) (xs : List α) (W : World) : Exit → Act → World → Prop
  | .normal, _, W' => KeepsFrom B W W' ∧ Kp W W' ∧ I xs W'
  | .ret, _, W' => KeepsFrom B W W' ∧ Ix .ret xs W'
  | .exit id, _, W' => KeepsFrom B W W' ∧ Ix (.exit id) xs W'
  | .goto t, _, W' => KeepsFrom B W W' ∧ Ix (.goto t) xs W'
  | _, _, _ => False

/-- THE LAW at an outermost loop. -/
theorem wpIn_range_outer {g : Operand} {Q : Exit → Act → World → Prop} {w : World} (hro : F.round = none) (h1 : 1 ≤ n) (hg : a.eval g = .func (.func gf) #[] lb) (hFg : F.fn gf)
    (eg : ∀ args w, (callFunc gf args).run P w = .ok (.enter gf args) w)
    (hseq : SeqT F (n - 1) P gf lb encs Kp T S Sp N Pre) (hT : ∀ W r, T W r → ∃ o, W.heap[r]? = some o ∧ (o.isWalk = true ∨ o.isCells = true))
    (hPre : ∀ W1, Below w.heap.size w W1 → Pre W1)
    (hKt : ∀ {X Y Z : World}, Kp X Y → Kp Y Z → Kp X Z) (hKb : ∀ (W : World) (l : Nat) (o o' : Obj), w.heap.size ≤ l → W.heap[l]? = some o → o.isCells = false → o.isWalk = false → Kp W (W.putObj l o')) (hps : ∀ x, (encs x).size = ps.size)
    (I : List α → World → Prop) (Ix : Code → List α → World → Prop) (hI : Stands (TurnsAll T w.heap.size) I) (hIx : ∀ c, Stands (TurnsAll T w.heap.size) (Ix c)) (h0 : I [] w)
    (Ax : α → Act → World → Prop) (hAx : ∀ x a', Stands (TurnsAll (fun _ _ => False) w.heap.size) (fun (_ : Unit) W => Ax x a' W))
    (hassign : ∀ (l : Nat) (pre : List α) (x : α) (W : World) (K : Act → World → Prop), I pre W → (∀ a' W', KeepsFrom w.heap.size W W' → Kp W W' → I pre W' → Ax x a' W' → K a' W') →
      assign.wpIn (F.inRound l) (n - 1 - 1) P (Exit.then K (fun _ _ _ => False)) { tmps := (ps.zip (encs x)).foldl (fun t (p, v) => t.setIfInBounds p v) a.tmps, defers := [] } W)
    (hbody : ∀ (l : Nat) (pre : List α) (x : α) (a' : Act) (W : World), w.heap.size ≤ l → (∃ r, W.heap[l]? = some (.loop r)) → I pre W → Ax x a' W → N pre x → body.wpIn (F.inRound l) (n - 1 - 1) P (roundOut w.heap.size Kp I Ix (pre ++ [x]) W) a' W)
    (hdone : ∀ (D : Nat) (xs : List α) (W : World), w.heap.size ≤ D → S xs → I xs W → W.heap[D]? = some (.deferred (some [])) → Q .normal { a with defers := { target := .collected D, args := #[] } :: a.defers } W)
    (hstop : ∀ (D : Nat) (c : Code) (pre : List α) (W : World), w.heap.size ≤ D → Sp pre → Ix c pre W → W.heap[D]? = some (.deferred (some [])) → c.wpIn F n P Q { a with defers := { target := .collected D, args := #[] } :: a.defers } W) :
    (Code.rangeFunc g ps assign body).wpIn F n P Q a w := by
  refine wpIn_rangeFunc ?_
  intro fn hfn
  rw [hro]
  obtain ⟨rec, hrec⟩ : ∃ rec : LoopState → Option Code → Loop, rec = fun st pe => { state := st, pending := pe, fn, tmps := a.tmps, params := ps, assign, body, defers := w.heap.size } := ⟨_, rfl⟩
  obtain ⟨W1, hW1⟩ : ∃ W1, (w.alloc (.deferred (some []))).alloc (.loop (rec .ready none)) = W1 := ⟨_, rfl⟩
  have hz : W1.heap.size = w.heap.size + 2 := by rw [← hW1]; simp
  have hL1 : W1.heap[w.heap.size + 1]? = some (.loop (rec .ready none)) := by
    rw [← hW1]; have := World.alloc_heap_new (w.alloc (.deferred (some []))) (.loop (rec .ready none)); rwa [World.size_alloc] at this
  have hK1 : W1.heap[w.heap.size]? = some (.deferred (some [])) := by
    rw [← hW1]; exact (Below.heap_alloc _ _ _ (by simp)).trans (World.alloc_heap_new w _)
  have hI1 : I [] W1 := by rw [← hW1]; exact hI.alloc _ (hI.alloc _ h0)
  have hb1 : Below w.heap.size w W1 := by
    rw [← hW1]; exact ((Below.refl _ w).alloc (Nat.le_refl _) _).alloc (by simp) _
  refine ⟨w.heap.size + 1, [{ target := .collected w.heap.size, args := #[] }], W1, { target := .fn (.func gf) lb, args := #[.func (.yield (w.heap.size + 1)) #[] #[]] }, W1, gf,
    #[.func (.yield (w.heap.size + 1)) #[] #[]] ++ lb, W1, ?_, ?_, ?_, ?_, fun _ => h1, ?_⟩
  · rw [← hW1, hrec]; exact run_enterLoop_outer _ _ _ _ _
  · simp only [resolve, hg]
    simp [go_sem]
  · intro f' hf'; simp [Target.leads] at hf'; subst hf'; exact hFg
  · simp [invoke, go_sem, eg]
  · refine (range_core (D := w.heap.size) (a := a) hseq hT (B := w.heap.size) hfn (by omega) rfl (by omega) rec hrec W1 (hPre W1 hb1) hL1 hK1 rfl (by omega) hKt (fun W o o' => hKb W _ o o' (by omega)) hps I Ix hI hIx hI1 Ax hAx
      (KeepsFrom w.heap.size) (fun X Y h k o hk ho hc => h.same k o (by omega) ho hc) (hassign _) (fun pre x a' W hr hi hax hlen => wpIn_mono (hbody _ pre x a' W (by omega) hr hi hax hlen) (fun e a2 W' hp => by cases e <;> exact hp))).mono ?_
    rintro e W2 ⟨⟨v, rfl⟩, (⟨xs, hS, hi, hl, hk⟩ | ⟨pre, c, hSp, hi, hl, hk⟩)⟩
    · exact ⟨none, _, by have := run_endLoop (P := P) hl (by rw [hrec]; simp); rw [hrec] at this; exact this, hdone _ xs _ (Nat.le_refl _) hS (hI.put _ hi (.inr ⟨by omega, _, hl, rfl⟩)) ((World.putObj_heap_other (by omega)).trans hk)⟩
    · exact ⟨some c, _, by have := run_endLoop (P := P) hl (by rw [hrec]; simp); rw [hrec] at this; exact this, hstop _ c pre _ (Nat.le_refl _) hSp ((hIx c).put _ hi (.inr ⟨by omega, _, hl, rfl⟩)) ((World.putObj_heap_other (by omega)).trans hk)⟩

/-- THE LAW within a round of loop l₀. -/
theorem wpIn_range_inner {g : Operand} {Q : Exit → Act → World → Prop} {w : World} {l₀ : Nat} {r₀ : Loop} (hro : F.round = some l₀) (hl₀ : w.heap[l₀]? = some (.loop r₀)) (h1 : 1 ≤ n) (hg : a.eval g = .func (.func gf) #[] lb) (hFg : F.fn gf)
    (eg : ∀ args w, (callFunc gf args).run P w = .ok (.enter gf args) w)
    (hseq : SeqT F (n - 1) P gf lb encs Kp T S Sp N Pre) (hT : ∀ W r, T W r → ∃ o, W.heap[r]? = some o ∧ (o.isWalk = true ∨ o.isCells = true))
    (hPre : ∀ W1, Below w.heap.size w W1 → Pre W1)
    (hKt : ∀ {X Y Z : World}, Kp X Y → Kp Y Z → Kp X Z) (hKb : ∀ (W : World) (l : Nat) (o o' : Obj), w.heap.size ≤ l → W.heap[l]? = some o → o.isCells = false → o.isWalk = false → Kp W (W.putObj l o')) (hps : ∀ x, (encs x).size = ps.size)
    {B : Nat} (hB : B ≤ l₀)
    (I : List α → World → Prop) (Ix : Code → List α → World → Prop) (hI : Stands (TurnsAll T w.heap.size) I) (hIx : ∀ c, Stands (TurnsAll T w.heap.size) (Ix c)) (h0 : I [] w)
    (Ax : α → Act → World → Prop) (hAx : ∀ x a', Stands (TurnsAll (fun _ _ => False) w.heap.size) (fun (_ : Unit) W => Ax x a' W))
    (hassign : ∀ (l : Nat) (pre : List α) (x : α) (W : World) (K : Act → World → Prop), I pre W → (∀ a' W', KeepsFrom B W W' → Kp W W' → I pre W' → Ax x a' W' → K a' W') →
      assign.wpIn (F.inRound l) (n - 1 - 1) P (Exit.then K (fun _ _ _ => False)) { tmps := (ps.zip (encs x)).foldl (fun t (p, v) => t.setIfInBounds p v) a.tmps, defers := [] } W)
    (hbody : ∀ (l : Nat) (pre : List α) (x : α) (a' : Act) (W : World), w.heap.size ≤ l → (∃ r, W.heap[l]? = some (.loop r)) → I pre W → Ax x a' W → N pre x → body.wpIn (F.inRound l) (n - 1 - 1) P (roundOut B Kp I Ix (pre ++ [x]) W) a' W)
    (hdone : ∀ (xs : List α) (W : World), S xs → I xs W → Q .normal a W)
    (hstop : ∀ (c : Code) (pre : List α) (W : World), Sp pre → Ix c pre W → c.wpIn F n P Q a W) :
    (Code.rangeFunc g ps assign body).wpIn F n P Q a w := by
  refine wpIn_rangeFunc ?_
  intro fn hfn
  rw [hro]
  have hlt0 : l₀ < w.heap.size := (Array.getElem?_eq_some_iff.1 hl₀).1
  obtain ⟨rec, hrec⟩ : ∃ rec : LoopState → Option Code → Loop, rec = fun st pe => { state := st, pending := pe, fn, tmps := a.tmps, params := ps, assign, body, defers := r₀.defers } := ⟨_, rfl⟩
  obtain ⟨W1, hW1⟩ : ∃ W1, w.alloc (.loop (rec .ready none)) = W1 := ⟨_, rfl⟩
  have hz : W1.heap.size = w.heap.size + 1 := by rw [← hW1]; simp
  have hL1 : W1.heap[w.heap.size]? = some (.loop (rec .ready none)) := by rw [← hW1]; exact World.alloc_heap_new w _
  have hK1 : W1.heap[l₀]? = some (.loop r₀) := by rw [← hW1]; exact (Below.heap_alloc _ _ _ hlt0).trans hl₀
  have hI1 : I [] W1 := by rw [← hW1]; exact hI.alloc _ h0
  have hb1 : Below w.heap.size w W1 := by rw [← hW1]; exact (Below.refl _ w).alloc (Nat.le_refl _) _
  refine ⟨w.heap.size, [], W1, { target := .fn (.func gf) lb, args := #[.func (.yield w.heap.size) #[] #[]] }, W1, gf,
    #[.func (.yield w.heap.size) #[] #[]] ++ lb, W1, ?_, ?_, ?_, ?_, fun _ => h1, ?_⟩
  · rw [← hW1, hrec]; exact run_enterLoop_inner hl₀ _ _ _ _ _
  · simp only [resolve, hg]
    simp [go_sem]
  · intro f' hf'; simp [Target.leads] at hf'; subst hf'; exact hFg
  · simp [invoke, go_sem, eg]
  · refine (range_core (D := l₀) (a := a) hseq hT (B := w.heap.size) hfn (by omega) rfl (by omega) rec hrec W1 (hPre W1 hb1) hL1 hK1 rfl (by omega) hKt (fun W o o' => hKb W _ o o' (by omega)) hps I Ix hI hIx hI1 Ax hAx
      (KeepsFrom B) (fun X Y h k o hk ho hc => h.same k o (by omega) ho hc) (hassign _) (fun pre x a' W hr hi hax hlen => wpIn_mono (hbody _ pre x a' W (by omega) hr hi hax hlen) (fun e a2 W' hp => by cases e <;> exact hp))).mono ?_
    rintro e W2 ⟨⟨v, rfl⟩, (⟨xs, hS, hi, hl, hk⟩ | ⟨pre, c, hSp, hi, hl, hk⟩)⟩
    · exact ⟨none, _, by have := run_endLoop (P := P) hl (by rw [hrec]; simp); rw [hrec] at this; exact this, hdone xs _ hS (hI.put _ hi (.inr ⟨by omega, _, hl, rfl⟩))⟩
    · exact ⟨some c, _, by have := run_endLoop (P := P) hl (by rw [hrec]; simp); rw [hrec] at this; exact this, hstop c pre _ hSp ((hIx c).put _ hi (.inr ⟨by omega, _, hl, rfl⟩))⟩
end
end Go.Proofs.YtmepjbjmjbpchaaGreatDoor
end
section
/- types.parts: its iterator's contract. -/
namespace Go.Proofs.YtmepjbjmjbpchaaGreatDoor
open Go Go.RowKit Go.Shelf
set_option linter.unusedVariables false
set_option linter.unusedSimpArgs false
attribute [local go_sem] Oper.semAt_some

theorem cutOf_len {c : UInt8} {l x y : List UInt8} (h : cutOf c l = some (x, y)) : x.length + 1 + y.length = l.length := by
  obtain ⟨_, h, _⟩ := cutOf_some _ _ _ _ h; rw [h]; simp; omega
/-- What stands between x in a type with cells. -/
def partsOf (l : List UInt8) : List (List UInt8 × Bool) :=
  if l = [105, 110, 100, 101, 120] then [(l, true)]
  else match h : cutOf 120 l with
    | none => [(l, true)]
    | some (x, y) => (x, false) :: partsOf y
termination_by l.length
decreasing_by have := cutOf_len h; omega
theorem partsOf_last {l : List UInt8} (h : l = [105, 110, 100, 101, 120] ∨ cutOf 120 l = none) : partsOf l = [(l, true)] := by
  unfold partsOf
  rcases h with h | h
  · rw [if_pos h]
  · split
    · rfl
    · split
      · rfl
      · rename_i h'; rw [h] at h'; cases h'
theorem partsOf_more {l x y : List UInt8} (h : l ≠ [105, 110, 100, 101, 120]) (hc : cutOf 120 l = some (x, y)) : partsOf l = (x, false) :: partsOf y := by
  rw [partsOf, if_neg h]
  split
  · rename_i h'; rw [hc] at h'; cases h'
  · rename_i h'; rw [hc] at h'; cases h'; rfl

theorem partsOf_ne (l : List UInt8) : 0 < (partsOf l).length := by
  unfold partsOf
  split
  · simp
  · split <;> simp

abbrev pEnc (x : List UInt8 × Bool) : Array Value := #[.string ⟨x.1.toArray⟩, .bool x.2]
def BoxS (B : Nat) (l : List UInt8) (W : World) : Prop := W.heap[B]? = some (.cells #[.string ⟨l.toArray⟩] 9 (0, 0))
def TBox (B : Nat) (W : World) (r : Nat) : Prop := r = B ∧ ∃ v, W.heap[B]? = some (.cells #[v] 9 (0, 0))

def boxLen (B : Nat) (W : World) : Nat := match W.cell? ⟨B, 0, none⟩ with | some (Value.string s) => s.size | _ => 0
theorem boxLen_eq {B : Nat} {l : List UInt8} {W : World} (h : BoxS B l W) : boxLen B W = l.length := by
  simp [boxLen, World.cell?, show W.heap[B]? = _ from h]; rfl
theorem grown_drewN (W : World) (n : Nat) : W.grownBy (W.drewN n) none := ⟨rfl, rfl, rfl, Nat.le_refl _, fun _ _ _ => rfl⟩

set_option maxRecDepth 100000 in
set_option maxHeartbeats 1000000 in
theorem parts_seq (n : Nat) (B : Nat) (l : List UInt8) (hl : l.length ≤ 140737488355328) (hn : 2 ≤ n) :
    SeqT Fence.wide n Tryz.prog 177 #[.pointer (some ⟨B, 0, none⟩)] pEnc (fun W W' => W'.heap[B]? = W.heap[B]?) (TBox B) (fun xs => xs = partsOf l) (fun pre => pre <+: partsOf l) (fun pre x => pre ++ [x] <+: partsOf l) (BoxS B l) := by
  intro yl J Jx W hW hJ hJx hY h0
  have hn1 : 1 ≤ n := by omega
  refine callsIn_of_wp Tryz.func177 rfl trivial ?_ rfl
  simp only [Tryz.ntmps177, List.size_toArray, List.length_cons, List.length_nil, Nat.reduceAdd, Nat.reduceSub, Array.replicate_succ, Array.replicate_zero, List.push_toArray, List.append_toArray, List.nil_append, List.cons_append]
  gi_wp2_with fail
  gi_loopw [] (fun wr => ∃ (pre : List (List UInt8 × Bool)) (r : List UInt8), pre ++ partsOf r = partsOf l ∧ r.length ≤ l.length ∧ BoxS B r wr ∧ J pre wr) (fun wr => boxLen B wr)
  case atStart => exact ⟨[], l, rfl, Nat.le_refl _, hW, h0⟩
  case round =>
    obtain ⟨pre, r, hr, hle, hb, hj⟩ := hrel
    have hcell : wr.cell? ⟨B, 0, none⟩ = some (.string ⟨r.toArray⟩) := by simp [World.cell?, show wr.heap[B]? = _ from hb]
    have hfz : wr.frozen? ⟨B, 0, none⟩ = false := by simp [World.frozen?, show wr.heap[B]? = _ from hb]
    have hsz : (ByteArray.mk r.toArray).size ≤ 9223372036854775806 := by show r.toArray.size ≤ _; simp; omega
    have Hr := Lib.hid hr; clear hr
    have last : ∀ (h : r = [105, 110, 100, 101, 120] ∨ cutOf 120 r = none), pre ++ [(r, true)] = partsOf l := fun h => by rw [← Hr.out, partsOf_last h]
    by_cases hx : r = [105, 110, 100, 101, 120]
    · have hl2 := Lib.hid (last (.inl hx))
      have hlen : pre ++ [(r, true)] <+: partsOf l := by rw [hl2.out]; exact List.prefix_rfl
      have hxb : (r == [105, 110, 100, 101, 120]) = true := by rw [hx]; rfl
      clear hx last
      cases hc : cutOf 120 r
      all_goals
        try (rename_i p; obtain ⟨x, y⟩ := p)
        have Hc := Lib.hid (show cutOf 120 (ByteArray.mk r.toArray).data.toList = _ from hc); clear hc
        gi_wp2_with (refine ⟨trivial, ?_⟩; gi_at_call 51; refine (callsIn_wide.2 (cut_one _ _ _ hsz)).mono ?_; rw [Hc.out]; rintro e w' ⟨⟨nd, rfl⟩, he⟩; obtain rfl := he; obtain ⟨fn, tmps, assign, body, hy, hR⟩ := hY pre (r, true) (wr.drewN nd) (hJ pre wr _ none hj (grown_drewN _ _) (fun r e => by cases e)) hlen; dsimp only [pEnc] at hy)
        refine hR.mono ?_
        rintro e W' (⟨rfl, hJ3, hk3⟩ | ⟨rfl, hJx3⟩)
        · gi_wp2
          refine bodyPost_ret (results_none rfl _ _ _) rfl ?_
          exact ⟨⟨_, rfl⟩, .inl ⟨_, hl2.out, hJ3⟩⟩
        · gi_wp2
          refine bodyPost_ret (results_none rfl _ _ _) rfl ?_
          exact ⟨⟨_, rfl⟩, .inr ⟨_, by rw [hl2.out]; exact List.prefix_rfl, hJx3⟩⟩
    · have hxb : (r == [105, 110, 100, 101, 120]) = false := by rw [beq_eq_false_iff_ne]; exact hx
      have Hx := Lib.hid hx; clear hx
      cases hc : cutOf 120 r with
      | none =>
        have hl2 := Lib.hid (last (.inr hc))
        have hlen : pre ++ [(r, true)] <+: partsOf l := by rw [hl2.out]; exact List.prefix_rfl
        clear last
        have Hc := Lib.hid (show cutOf 120 (ByteArray.mk r.toArray).data.toList = _ from hc); clear hc
        gi_wp2_with (refine ⟨trivial, ?_⟩; gi_at_call 51; refine (callsIn_wide.2 (cut_one _ _ _ hsz)).mono ?_; rw [Hc.out]; rintro e w' ⟨⟨nd, rfl⟩, he⟩; obtain rfl := he; obtain ⟨fn, tmps, assign, body, hy, hR⟩ := hY pre (r, true) (wr.drewN nd) (hJ pre wr _ none hj (grown_drewN _ _) (fun r e => by cases e)) hlen; dsimp only [pEnc] at hy)
        refine hR.mono ?_
        rintro e W' (⟨rfl, hJ3, hk3⟩ | ⟨rfl, hJx3⟩)
        · gi_wp2
          refine bodyPost_ret (results_none rfl _ _ _) rfl ?_
          exact ⟨⟨_, rfl⟩, .inl ⟨_, hl2.out, hJ3⟩⟩
        · gi_wp2
          refine bodyPost_ret (results_none rfl _ _ _) rfl ?_
          exact ⟨⟨_, rfl⟩, .inr ⟨_, by rw [hl2.out]; exact List.prefix_rfl, hJx3⟩⟩
      | some p =>
        obtain ⟨x, y⟩ := p
        clear last
        have hp := Lib.hid (partsOf_more Hx.out hc)
        have hlen : pre ++ [(x, false)] <+: partsOf l := ⟨partsOf y, by rw [← Hr.out, hp.out]; simp⟩
        have hly := cutOf_len hc
        have Hc := Lib.hid (show cutOf 120 (ByteArray.mk r.toArray).data.toList = some (x, y) from hc); clear hc
        gi_wp2_with (refine ⟨trivial, ?_⟩; gi_at_call 51; refine (callsIn_wide.2 (cut_one _ _ _ hsz)).mono ?_; rw [Hc.out]; rintro e w' ⟨⟨nd, rfl⟩, he⟩; obtain rfl := he; obtain ⟨fn, tmps, assign, body, hy, hR⟩ := hY pre (x, false) (wr.drewN nd) (hJ pre wr _ none hj (grown_drewN _ _) (fun r e => by cases e)) hlen; dsimp only [pEnc] at hy)
        refine hR.mono ?_
        rintro e W' (⟨rfl, hJ3, hk3⟩ | ⟨rfl, hJx3⟩)
        · have hb3 : BoxS B r W' := hk3.trans hb
          have hc3 : W'.cell? ⟨B, 0, none⟩ = some (.string ⟨r.toArray⟩) := by simp [World.cell?, show W'.heap[B]? = _ from hb3]
          have hf3 : W'.frozen? ⟨B, 0, none⟩ = false := by simp [World.frozen?, show W'.heap[B]? = _ from hb3]
          have Hk3 := Lib.hid hk3; clear hk3
          have Hly := Lib.hid hly; clear hly
          gi_wp2
          have hb4 : BoxS B y (W'.setCell ⟨B, 0, none⟩ (.string ⟨y.toArray⟩)) := one_setCell hb3
          go_roundw
          case rel => exact ⟨pre ++ [(x, false)], y, by rw [← Hr.out, hp.out]; simp, by have := Hly.out; omega, hb4, hJ _ W' _ (some B) hJ3 (grownBy_setCell' W' B _) (fun r e => by cases e; exact .inl ⟨rfl, _, hb3⟩)⟩
          case measure => rw [boxLen_eq hb4, boxLen_eq hb]; have := Hly.out; omega
        · gi_wp2
          refine bodyPost_ret (results_none rfl _ _ _) rfl ?_
          exact ⟨⟨_, rfl⟩, .inr ⟨_, by rw [← Hr.out, hp.out]; simp, hJx3⟩⟩
end Go.Proofs.YtmepjbjmjbpchaaGreatDoor
end
section
/- A region that draws its order, in a round of a range over a function: quiet operations in any order, then a tail in the order of the text. -/
set_option linter.unusedVariables false
namespace Go.Proofs.YtmepjbjmjbpchaaGreatDoor
open Go

section
variable {P : Program} {ops : Array Oper} {md : Region.Mode} {w : World} {n : Nat} {Q : Exit → Act → World → Prop}

/-- The wide fence, in a round or not. -/
def WideAt (F : Fence) : Prop := F.fn = Fence.wide.fn ∧ F.depth = none ∧ (∀ m f args W R, Calls P f args W R → CallsIn F m P f args W R) ∧ ∀ (o : Oper) ρ, (∀ c, o.op ≠ .defer c) → o.semAt F.round ρ = execOp ρ o
theorem wideAt_round (l : Nat) : WideAt (P := P) (Fence.wide.inRound l) :=
  ⟨rfl, rfl, fun m f args W R h => CallsIn.inRound l (callsIn_wide.2 h), fun o ρ h => Oper.semAt_some l ρ o h⟩
theorem wideAt_plain : WideAt (P := P) Fence.wide :=
  ⟨rfl, rfl, fun m f args W R h => callsIn_wide.2 h, fun o ρ h => by show o.semAt none ρ = _; simp [Oper.semAt_none]⟩

theorem wpOpIn_of_stOp {F : Fence} (hF : WideAt (P := P) F) {i : Nat} {a : Act} {K : Act → Prop} {K' : Act → World → Prop} (hnd : ∀ o, ops[i]? = some o → ∀ c, o.op ≠ .defer c) (h : ∀ a, K a → K' a w) (hh : stOp P ops w i K a) : wpOpIn F n P ops Q i K' a w := by
  obtain ⟨h1, h2, h3, h4⟩ := hF
  have hfn : ∀ f, F.fn f := fun f => by rw [h1]; trivial
  unfold stOp at hh
  unfold wpOpIn
  split
  · rename_i ho; simp only [ho] at hh; exact h _ hh
  · rename_i o ho
    simp only [ho] at hh
    split
    · rename_i hw
      simp only [hw, if_true] at hh
      unfold Oper.wpIn
      refine ⟨fun f _ => hfn f, ?_⟩
      rw [h4 o a.eval (hnd o ho)]
      unfold Oper.still at hh
      generalize (execOp a.eval o).run P w = r at *
      cases r with
      | ok x w' =>
        cases x <;> simp only [Oper.stillUpon] at hh <;> simp only [Oper.uponIn]
        case enter f args =>
          obtain ⟨rfl, v, hc, hn⟩ := hh
          refine ⟨(fun hd => by rw [h2] at hd; cases hd), ?_⟩
          refine (h3 _ _ _ _ _ hc).mono ?_
          rintro e w'' ⟨rfl, rfl⟩
          exact h _ hn
        all_goals (obtain ⟨rfl, h2⟩ := hh; exact h _ h2)
      | halt x w' => simp only [Oper.stillUpon] at hh
    · rename_i hw; simp only [hw] at hh; exact ⟨fun f _ => hfn f, h _ hh⟩

theorem wpAnyIn_of_head {F : Fence} (hF : WideAt (P := P) F) (hnd : ∀ (i : Nat) (o : Oper), ops[i]? = some o → ∀ c, o.op ≠ .defer c) {m g : Nat} {L : Array Bool → Act → Prop} (hL : ∀ listed a, L listed a → wpAnyIn F n P md ops Q g listed a w) :
    ∀ (f : Nat) (listed : Array Bool) (a : Act), wpAnyL P md ops w m L f listed a → wpAnyIn F n P md ops Q (f + g) listed a w
  | 0, listed, a, h => by rw [Nat.zero_add]; exact hL _ _ h
  | f + 1, listed, a, h => by
    rw [show f + 1 + g = (f + g) + 1 by omega]
    exact ⟨fun h0 => absurd h0 h.1, fun i hi => wpOpIn_of_stOp hF (hnd i) (fun a' h' => wpAnyIn_of_head hF hnd hL f _ a' h') (h.2 i hi).2⟩

theorem wpAnyIn_of_seq {F : Fence} : ∀ (l : List Oper) (k : Nat) (listed : Array Bool) (a : Act) (w : World), (∀ j, l[j]? = ops[k + j]?) →
    Region.seqB md ops l.length k listed = true → wpListIn F n P ops Q l a w → wpAnyIn F n P md ops Q l.length listed a w
  | [], _, _, _, _, _, hB, h => ⟨by simpa [Region.seqB] using hB, h⟩
  | o :: l, k, listed, a, w, hl, hB, h => by
    have h0 : ops[k]? = some o := by simpa using (hl 0).symm
    simp only [List.length_cons, Region.seqB, Bool.and_eq_true, decide_eq_true_eq] at hB
    refine ⟨fun h1 => (by rw [hB.1] at h1; cases h1), fun i hi => ?_⟩
    rw [hB.1] at hi
    have hik : i = k := by simpa using hi
    subst hik
    have hw : wpOpIn F n P ops Q i (wpListIn F n P ops Q l) a w := by unfold wpOpIn; simp only [h0]; exact h
    exact wpOpIn_mono (fun a' w' h' => wpAnyIn_of_seq l (i + 1) _ a' w' (fun j => by have := hl (j + 1); simpa [Nat.add_assoc, Nat.add_comm 1 j] using this) hB.2 h') hw

def noDefer (l : List Oper) : Bool := l.all fun o => match o.op with | .defer _ => false | _ => true
theorem noDefer_spec {l : List Oper} (h : noDefer l = true) : ∀ (i : Nat) (o : Oper), l.toArray[i]? = some o → ∀ c, o.op ≠ .defer c := by
  intro i o ho c hc
  have := List.all_eq_true.1 h o (List.mem_of_getElem? (by simpa using ho))
  simp [hc] at this

/-- Quiet operations first, in any order; the tail from n on in the order of the text. -/
theorem wpIn_region_still_tail {F : Fence} (hF : WideAt (P := P) F) {id : Nat} {a : Act} {l : List Oper} (m : Nat) (hm : P.follows .mixedOrders = true) (hnd : noDefer l = true) (hB : Region.lexTailB .any l.toArray m = true)
    (h : wpStill P l.toArray w.drew (fun a' => wpListIn F n P l.toArray Q (l.drop m) a' w.drew) (l.take m) a) : (Code.region id l.toArray true).wpIn F n P Q a w := by
  simp only [Region.lexTailB, Bool.and_eq_true, decide_eq_true_eq] at hB
  obtain ⟨⟨⟨⟨hsel, hn⟩, hs⟩, hc⟩, hlex⟩ := hB
  have htl : (l.take m).length = m := by simp at hn ⊢; omega
  have hdl : (l.drop m).length = l.toArray.size - m := by simp
  have inv0 : HeadInv .any l.toArray m (Array.replicate l.toArray.size false) :=
    ⟨by simp, fun j oj _ hl => (by rw [getD_replicate_false] at hl; cases hl), fun t _ ht => getD_in (by simpa using ht) (getD_replicate_false _ _)⟩
  have H := wpAnyL_lex (md := .any) (g := l.toArray.size - m) hsel hs hc hn (l.take m) 0 _ a (fun j hj => by
    have hj' : j < m := by rw [htl] at hj; exact hj
    simp [hj']) (by simpa using htl) inv0 (by rw [htl]; exact hlex) h
  refine wpIn_region_any hm ?_
  have := wpAnyIn_of_head (Q := Q) (n := n) hF (noDefer_spec hnd) (g := l.toArray.size - m) (fun listed a' hL => by
    have := wpAnyIn_of_seq (md := .any) (F := F) (n := n) (Q := Q) (l.drop m) m listed a' { w with drawn := w.drawn + 1 } (fun j => by simp [List.getElem?_drop]) (by rw [hdl]; exact hL.1) hL.2
    rwa [hdl] at this) _ _ _ H
  rw [htl, show m + (l.toArray.size - m) = l.toArray.size by simp at hn ⊢; omega] at this
  exact this
end
end Go.Proofs.YtmepjbjmjbpchaaGreatDoor
end
section
/- A region that draws its order, by an invariant: each operation yields one value whatever the order, and keeps an invariant on the world that knows which operations are done. -/
set_option linter.unusedVariables false
set_option linter.unusedSimpArgs false
namespace Go.Proofs.YtmepjbjmjbpchaaGreatDoor
open Go

/-- The frame behind the operations that are done: each one's slot holds its value, the others what they held. -/
structure Agrees (ops : Array Oper) (V : Nat → Value) (a0 : Act) (listed : Array Bool) (a : Act) : Prop where
  defers : a.defers = a0.defers
  size : a.tmps.size = a0.tmps.size
  got : ∀ (j : Nat) (o : Oper) (d : Nat), ops[j]? = some o → o.dst = some d → listed.getD j false = true → a.tmps[d]? = some (V j)
  old : ∀ d : Nat, (∀ (j : Nat) (o : Oper), ops[j]? = some o → listed.getD j false = true → o.dst ≠ some d) → a.tmps[d]? = a0.tmps[d]?

def regionOk (ops : Array Oper) (n : Nat) : Bool :=
  (List.range ops.size).all fun i => match ops[i]? with
    | none => true
    | some o => (o.after.all fun e => !Region.binds .any e || decide (e.on < i)) && (match o.op with | .defer _ => false | _ => true) &&
      (match o.dst with | none => true | some d => decide (d < n) && (List.range i).all fun j => match ops[j]? with | none => true | some p => p.dst != some d)

theorem regionOk_spec {ops : Array Oper} {n : Nat} (h : regionOk ops n = true) {i : Nat} {o : Oper} (ho : ops[i]? = some o) :
    (∀ e ∈ o.after, Region.binds .any e = true → e.on < i) ∧ (∀ c, o.op ≠ .defer c) ∧ ∀ d, o.dst = some d → d < n ∧ ∀ (j : Nat) (p : Oper), j < i → ops[j]? = some p → p.dst ≠ some d := by
  have hi : i < ops.size := (Array.getElem?_eq_some_iff.1 ho).1
  have := List.all_eq_true.1 h i (List.mem_range.2 hi)
  simp only [ho, Bool.and_eq_true] at this
  obtain ⟨⟨h1, h2⟩, h3⟩ := this
  refine ⟨fun e he hb => ?_, fun c hc => ?_, fun d hd => ?_⟩
  · have := Array.all_eq_true'.1 h1 e he
    simpa [hb] using this
  · rw [hc] at h2; cases h2
  · rw [hd] at h3
    simp only [Bool.and_eq_true, decide_eq_true_eq] at h3
    refine ⟨h3.1, fun j p hj hp hpd => ?_⟩
    have := List.all_eq_true.1 h3.2 j (List.mem_range.2 hj)
    simp [hp, hpd] at this
theorem regionOk_ne {ops : Array Oper} {n : Nat} (h : regionOk ops n = true) {i j : Nat} {o p : Oper} {d : Nat} (ho : ops[i]? = some o) (hp : ops[j]? = some p) (hd : o.dst = some d) (hij : i ≠ j) : p.dst ≠ some d := by
  rcases Nat.lt_or_ge j i with hlt | hge
  · exact ((regionOk_spec h ho).2.2 d hd).2 j p hlt hp
  · intro hpd
    exact ((regionOk_spec h hp).2.2 d hpd).2 i o (by omega) ho hd

def boolOf : Value → Option Bool | .bool b => some b | _ => none

section
variable {P : Program} {ops : Array Oper} {n : Nat} {Q : Exit → Act → World → Prop} {V : Nat → Value} {a0 : Act} {Inv : Array Bool → World → Prop}

theorem Agrees.start : Agrees ops V a0 (Array.replicate ops.size false) a0 :=
  ⟨rfl, rfl, (fun j o d _ _ hl => by rw [getD_replicate_false] at hl; cases hl), fun d _ => rfl⟩

theorem getD_set_iff {listed : Array Bool} {i j : Nat} (hi : i < listed.size) : (listed.setIfInBounds i true).getD j false = true ↔ j = i ∨ listed.getD j false = true := by
  by_cases h : i = j
  · subst h; simp [hi]
  · simp [Array.getElem?_setIfInBounds, h]; intro h'; exact absurd h'.symm h

theorem Agrees.put {listed : Array Bool} {a : Act} {i : Nat} {o : Oper} (hok : regionOk ops a0.tmps.size = true) (h : Agrees ops V a0 listed a) (hs : listed.size = ops.size) (ho : ops[i]? = some o) :
    Agrees ops V a0 (listed.setIfInBounds i true) (a.put o.dst (V i)) := by
  have hi : i < listed.size := by rw [hs]; exact (Array.getElem?_eq_some_iff.1 ho).1
  cases hd : o.dst with
  | none =>
    refine ⟨h.defers, h.size, fun j p d hp hpd hl => ?_, fun d hd' => h.old d fun j p hp hl => hd' j p hp ((getD_set_iff hi).2 (.inr hl))⟩
    rcases (getD_set_iff hi).1 hl with rfl | hl
    · rw [ho] at hp; cases hp; rw [hd] at hpd; cases hpd
    · exact h.got j p d hp hpd hl
  | some d0 =>
    have hd0 := ((regionOk_spec hok ho).2.2 d0 hd).1
    refine ⟨h.defers, by simpa [Act.put] using h.size, fun j p d hp hpd hl => ?_, fun d hd' => ?_⟩
    · show (a.tmps.setIfInBounds d0 (V i))[d]? = _
      rcases (getD_set_iff hi).1 hl with rfl | hl
      · rw [ho] at hp; cases hp; rw [hd] at hpd; cases hpd
        rw [Array.getElem?_setIfInBounds_self_of_lt (by rw [h.size]; exact hd0)]
      · by_cases hji : j = i
        · subst hji
          rw [ho] at hp; cases hp; rw [hd] at hpd; cases hpd
          rw [Array.getElem?_setIfInBounds_self_of_lt (by rw [h.size]; exact hd0)]
        · have hne : d0 ≠ d := fun e => by subst e; exact regionOk_ne hok ho hp hd (fun e => hji e.symm) hpd
          rw [Array.getElem?_setIfInBounds_ne hne]
          exact h.got j p d hp hpd hl
    · have hne : d0 ≠ d := fun e => by subst e; exact hd' i o ho ((getD_set_iff hi).2 (.inl rfl)) hd
      show (a.tmps.setIfInBounds d0 (V i))[d]? = _
      rw [Array.getElem?_setIfInBounds_ne hne]
      exact h.old d fun j p hp hl => hd' j p hp ((getD_set_iff hi).2 (.inr hl))

theorem ready_of_unlisted (hok : regionOk ops a0.tmps.size = true) {listed : Array Bool} (hs : listed.size = ops.size) : ∀ (k i : Nat), i < k → i < ops.size → listed.getD i false = false → Region.ready .any ops listed ≠ []
  | 0, i, h, _, _ => by omega
  | k + 1, i, h, hi, hl => by
    by_cases hr : ∃ j, j < i ∧ listed.getD j false = false
    · obtain ⟨j, hj, hlj⟩ := hr
      exact ready_of_unlisted hok hs k j (by omega) (by omega) hlj
    · intro he
      have : i ∈ Region.ready .any ops listed := by
        refine mem_ready.2 ⟨?_, ops[i], by simp [hi], fun e hea hb => ?_⟩
        · rw [← hs] at hi; simp [hi] at hl ⊢; exact hl
        · have := (regionOk_spec hok (i := i) (o := ops[i]) (by simp [hi])).1 e hea hb
          cases hx : listed.getD e.on false with
          | true => rfl
          | false => exact absurd ⟨e.on, this, hx⟩ hr
      rw [he] at this; cases this

/-- THE LAW, in a fence as wide as can be. -/
theorem wpIn_region_inv {F : Fence} {id : Nat} {w : World} (V : Nat → Value) (Inv : Array Bool → World → Prop) (hm : P.follows .mixedOrders = true) (hok : regionOk ops a0.tmps.size = true)
    (h0 : Inv (Array.replicate ops.size false) w.drew)
    (step : ∀ (i : Nat) (o : Oper) (listed : Array Bool) (a : Act) (w : World), ops[i]? = some o → listed.size = ops.size → listed.getD i false = false → (∀ e ∈ o.after, Region.binds .any e = true → listed.getD e.on false = true) → Agrees ops V a0 listed a → Inv listed w →
      (∀ j, listed.getD j false = true → (∃ p d, ops[j]? = some p ∧ p.dst = some d) → yielded ops a.tmps j = boolOf (V j)) → i < ops.size →
      if Region.wanted o (yielded ops a.tmps) then o.wpIn F n P a w (fun a' w' => a' = a.put o.dst (V i) ∧ Inv (listed.setIfInBounds i true) w') Q else (∀ f, o.about P w a.eval = some f → F.fn f) ∧ a.put o.dst undef = a.put o.dst (V i) ∧ Inv (listed.setIfInBounds i true) w)
    (fin : ∀ a w, Agrees ops V a0 (Array.replicate ops.size true) a → Inv (Array.replicate ops.size true) w → Q .normal a w) :
    (Code.region id ops true).wpIn F n P Q a0 w := by
  refine wpIn_region_any hm ?_
  have main : ∀ (fuel : Nat) (listed : Array Bool) (a : Act) (w : World), listed.size = ops.size → listed.count false ≤ fuel → Agrees ops V a0 listed a → Inv listed w → wpAnyIn F n P .any ops Q fuel listed a w := by
    intro fuel
    induction fuel with
    | zero =>
      intro listed a w hs hc ha hi
      have hall : listed = Array.replicate ops.size true := by
        have : false ∉ listed := by rw [← Array.count_eq_zero]; omega
        apply Array.ext
        · simp [hs]
        · intro i h1 h2
          have h3 : listed[i] ∈ listed := Array.getElem_mem h1
          cases hx : listed[i] with
          | true => simp
          | false => rw [hx] at h3; exact absurd h3 this
      subst hall
      refine ⟨?_, fin a w ha hi⟩
      rw [List.eq_nil_iff_forall_not_mem]
      intro i hi'
      have := (mem_ready.1 hi').1
      obtain ⟨o, ho, _⟩ := (mem_ready.1 hi').2
      have hlt : i < ops.size := (Array.getElem?_eq_some_iff.1 ho).1
      simp [hlt] at this
    | succ f ih =>
      intro listed a w hs hc ha hi
      refine ⟨fun he => ?_, fun i hir => ?_⟩
      · by_cases hx : ∃ i, i < ops.size ∧ listed.getD i false = false
        · obtain ⟨i, hi1, hi2⟩ := hx
          exact absurd he (ready_of_unlisted hok hs (i + 1) i (by omega) hi1 hi2)
        · have hall : listed = Array.replicate ops.size true := by
            apply Array.ext
            · simp [hs]
            · intro i h1 h2
              cases hx2 : listed[i] with
              | true => simp
              | false => exact absurd ⟨i, by omega, by simp [h1, hx2]⟩ hx
          subst hall
          exact fin a w ha hi
      · obtain ⟨hu, o, ho, hall⟩ := mem_ready.1 hir
        have hlt : i < listed.size := by rw [hs]; exact (Array.getElem?_eq_some_iff.1 ho).1
        have hu' : listed[i] = false := by simpa [hlt] using hu
        have hst := step i o listed a w ho hs (by simp [hlt, hu']) hall ha hi (fun j hj ⟨p, d, hp, hd⟩ => by simp only [yielded, hp, hd, Option.bind_some, ha.got j p d hp hd hj, boolOf]; cases V j <;> rfl) (by omega)
        have hst' : wpOpIn F n P ops Q i (fun a' w' => a' = a.put o.dst (V i) ∧ Inv (listed.setIfInBounds i true) w') a w := by unfold wpOpIn; rw [ho]; exact hst
        refine wpOpIn_mono (fun a' w' => ?_) hst'
        rintro ⟨rfl, hi'⟩
        refine ih _ _ _ (by simpa using hs) ?_ (ha.put hok hs ho) hi'
        have hpos : 0 < listed.count false := Array.count_pos_iff.2 (by rw [← hu']; exact Array.getElem_mem hlt)
        rw [Array.setIfInBounds, dif_pos hlt, Array.count_set]
        simp [hu']
        omega
  exact main ops.size _ a0 _ (by simp) (by simp) Agrees.start h0
/-! ### One operation -/
theorem step_none {o : Oper} {y : Nat → Option Bool} {X Y : Prop} (hg : o.guard = none) (h : X) : if Region.wanted o y then X else Y := by rw [if_pos (by simp [Region.wanted, hg])]; exact h
theorem step_yes {o : Oper} {y : Nat → Option Bool} {X Y : Prop} {j : Nat} {b : Bool} (hg : o.guard = some (j, b)) (hy : y j = some b) (h : X) : if Region.wanted o y then X else Y := by rw [if_pos (by simp [Region.wanted, hg, hy])]; exact h
theorem step_no {o : Oper} {y : Nat → Option Bool} {X Y : Prop} {j : Nat} {b : Bool} (hg : o.guard = some (j, b)) (hy : y j = some (!b)) (h : Y) : if Region.wanted o y then X else Y := by rw [if_neg (by simp [Region.wanted, hg, hy])]; exact h
theorem opIn_value {F : Fence} (hF : WideAt (P := P) F) {m : Nat} {o : Oper} {a : Act} {W W' : World} {v : Value} {K : Act → World → Prop} (hnd : ∀ c, o.op ≠ .defer c) (hrun : (execOp a.eval o).run P W = .ok (.value v) W') (hK : K (a.put o.dst v) W') : o.wpIn F m P a W K Q := by
  obtain ⟨h1, h2, h3, h4⟩ := hF
  unfold Oper.wpIn
  refine ⟨fun f _ => by rw [h1]; trivial, ?_⟩
  rw [h4 o a.eval hnd, hrun]
  exact hK
theorem opIn_skip {F : Fence} (hF : WideAt (P := P) F) {m : Nat} {o : Oper} {a : Act} {W W' : World} {K : Act → World → Prop} (hnd : ∀ c, o.op ≠ .defer c) (hrun : (execOp a.eval o).run P W = .ok .skip W') (hK : K (a.put o.dst undef) W') : o.wpIn F m P a W K Q := by
  obtain ⟨h1, h2, h3, h4⟩ := hF
  unfold Oper.wpIn
  refine ⟨fun f _ => by rw [h1]; trivial, ?_⟩
  rw [h4 o a.eval hnd, hrun]
  exact hK
theorem opIn_call {F : Fence} (hF : WideAt (P := P) F) {m : Nat} {o : Oper} {a : Act} {W W' : World} {f : FuncId} {args : Array Value} {K : Act → World → Prop} (hnd : ∀ c, o.op ≠ .defer c) (hrun : (execOp a.eval o).run P W = .ok (.enter f args) W')
    {R : Ending → World → Prop} (hc : Calls P f args W' R) (hK : ∀ e w, R e w → ∃ v, e = .returned v ∧ K (a.put o.dst v) w) : o.wpIn F m P a W K Q := by
  obtain ⟨h1, h2, h3, h4⟩ := hF
  unfold Oper.wpIn
  refine ⟨fun f _ => by rw [h1]; trivial, ?_⟩
  rw [h4 o a.eval hnd, hrun]
  refine ⟨(fun hd => by rw [h2] at hd; cases hd), ?_⟩
  refine (h3 _ _ _ _ _ hc).mono ?_
  intro e w hR
  obtain ⟨v, rfl, hK⟩ := hK e w hR
  exact hK
theorem Agrees.eval_got {listed : Array Bool} {a : Act} (h : Agrees ops V a0 listed a) {j d : Nat} {o : Oper} (ho : ops[j]? = some o) (hd : o.dst = some d) (hl : listed.getD j false = true) : a.eval (.tmp d) = V j := by
  have := h.got j o d ho hd hl
  simp [Act.eval, this]
theorem Agrees.eval_old {listed : Array Bool} {a : Act} (h : Agrees ops V a0 listed a) {d : Nat} (hd : ∀ (j : Nat) (o : Oper), ops[j]? = some o → o.dst ≠ some d) : a.eval (.tmp d) = a0.eval (.tmp d) := by
  have := h.old d fun j o ho _ => hd j o ho
  simp only [Act.eval, Array.getD_eq_getD_getElem?, this]
def noDst (ops : Array Oper) (d : Nat) : Bool := ops.all fun o => o.dst != some d
theorem noDst_spec {d : Nat} (h : noDst ops d = true) : ∀ (j : Nat) (o : Oper), ops[j]? = some o → o.dst ≠ some d := by
  intro j o ho hd
  have := Array.all_eq_true'.1 h o (Array.mem_of_getElem? ho)
  simp [hd] at this
end
end Go.Proofs.YtmepjbjmjbpchaaGreatDoor
end
section
/- types.shape. -/
namespace Go.Proofs.YtmepjbjmjbpchaaGreatDoor
open Go Go.RowKit Go.Shelf
set_option linter.unusedVariables false
set_option linter.unusedSimpArgs false
attribute [local go_sem] Oper.semAt_some

theorem parts_any (s : ByteArray) (w : World) :
    Calls Tryz.prog 170 #[.string s] w fun e w' => e = .returned (.func (.func 177) #[] #[.pointer (some ⟨w.heap.size, 0, none⟩)]) ∧ w.alloc (.cells #[.string s] 9) = w' := by
  go_enter Tryz.func170, Tryz.ntmps170
  go_wp2_with fail
  go_ret
  exact ⟨rfl, rfl⟩

def prodN (l : List Nat) : Nat := l.foldl (· * ·) 1
def shapeP (ext : List Nat) : List (List UInt8 × Bool) → Option (List Nat × Nat)
  | [] => none
  | (p, true) :: _ => match elemOf p with
    | some e => if prodN ext ≤ 4096 then some (ext, if e.kind = 1 then 0 else e.bits) else none
    | none => none
  | (p, false) :: rest => match numOf p with
    | some n => if n ≤ 1000 ∧ ext.length < 3 then shapeP (ext ++ [n]) rest else none
    | none => none
/-- `types.shape`. -/
def shapeOf (k : Nat) (l : List UInt8) : Option Pd := (shapeP [] (partsOf l)).map fun r => ⟨k, r.2, r.1⟩
theorem partsOf_end : ∀ (m : Nat) (l : List UInt8), l.length ≤ m → ∃ x ∈ partsOf l, x.2 = true
  | m, l, h => by
    by_cases h0 : l = [105, 110, 100, 101, 120]
    · exact ⟨_, by rw [partsOf_last (.inl h0)]; exact List.mem_singleton.2 rfl, rfl⟩
    · cases hc : cutOf 120 l with
      | none => exact ⟨_, by rw [partsOf_last (.inr hc)]; exact List.mem_singleton.2 rfl, rfl⟩
      | some p =>
        obtain ⟨x, y⟩ := p
        have := cutOf_len hc
        obtain ⟨m', rfl⟩ : ∃ m', m = m' + 1 := ⟨m - 1, by omega⟩
        obtain ⟨z, hz, hz2⟩ := partsOf_end m' y (by omega)
        exact ⟨z, by rw [partsOf_more h0 hc]; exact List.mem_cons_of_mem _ hz, hz2⟩

theorem turn_keeps {T : World → Nat → Prop} {B b : Nat} {W W' : World} {row : Option Nat} {c : Array Value} {t : TypeId} {fr : Nat × Nat} (hg : W.grownBy W' row) (hr : ∀ r, row = some r → TurnsAll T B W r)
    (hT : ∀ W r, T W r → r ≠ b) (h : W.heap[b]? = some (.cells c t fr)) : W'.heap[b]? = some (.cells c t fr) := by
  refine (hg.block b (Array.getElem?_eq_some_iff.1 h).1 (fun e => ?_)).trans h
  rcases hr b e.symm with h' | ⟨_, o, ho, hc⟩
  · exact hT W b h' rfl
  · rw [h] at ho; cases ho; cases hc
theorem turn_below {T : World → Nat → Prop} {B n : Nat} {w W W' : World} {row : Option Nat} (hb : Below n w W) (hg : W.grownBy W' row) (hr : ∀ r, row = some r → TurnsAll T B W r)
    (hT : ∀ W r, T W r → n ≤ r) (hn : n ≤ w.heap.size) (hB : n ≤ B) : Below n w W' :=
  hb.grown hg (Nat.le_trans hn hb.size) (fun k e => by rcases hr k e with h | ⟨h, _⟩; exact hT W k h; omega)

def pdCells (k b : Nat) (ext : List Nat) : Array Value := #[.int .i64 k, .int .i64 b, .int .i64 ext.length, .int .i64 (ext.getD 0 0 : Nat), .int .i64 (ext.getD 1 0 : Nat), .int .i64 (ext.getD 2 0 : Nat)]
structure ShI (w : World) (k : Nat) (l : List UInt8) (pre : List (List UInt8 × Bool)) (ext : List Nat) (W : World) : Prop where
  go : ∀ rest, pre ++ rest = partsOf l → shapeP [] (partsOf l) = shapeP ext rest
  mid : ∀ x ∈ pre, x.2 = false
  len : ext.length ≤ 3
  all : ∀ n ∈ ext, n ≤ 1000
  res : W.heap[w.heap.size]? = some (.cells #[.int .i64 0, .int .i64 0, .int .i64 0, .int .i64 0, .int .i64 0, .int .i64 0] 160 (0, 0))
  ok : W.heap[w.heap.size + 1]? = some (.cells #[.bool false] 4 (0, 0))
  out : W.heap[w.heap.size + 1 + 1]? = some (.cells (pdCells k 0 ext) 160 (0, 0))
  below : Below w.heap.size w W
structure ShX (w : World) (k : Nat) (l : List UInt8) (p : Pd) (W : World) : Prop where
  spec : ∀ q, shapeOf k l = some q → p = q
  len : p.ext.length ≤ 3
  res : W.heap[w.heap.size]? = some (.cells (pdCells p.kind p.bits p.ext) 160 (0, 0))
  ok : W.heap[w.heap.size + 1]? = some (.cells #[.bool (shapeOf k l).isSome] 4 (0, 0))
  below : Below w.heap.size w W
def ShapePost (k : Nat) (l : List UInt8) (w : World) (e : Ending) (w' : World) : Prop :=
  ∃ p : Pd, (∀ q, shapeOf k l = some q → p = q) ∧ p.ext.length ≤ 3 ∧ e = .returned (.tuple #[p.val, .bool (shapeOf k l).isSome]) ∧ Below w.heap.size w w'

theorem wpIn_world {F : Fence} {n : Nat} {P : Program} {c : Code} {Q : Exit → Act → World → Prop} {a : Act} {W : World} (Fs : World → Prop) (hf : Fs W) (h : ∀ Wx, Fs Wx → c.wpIn F n P Q a Wx) : c.wpIn F n P Q a W := h W hf
theorem wpIn_tmps {F : Fence} {n : Nat} {P : Program} {c : Code} {Q : Exit → Act → World → Prop} {A : Array Value} {ds : List Deferred} {W : World} (Fs : Array Value → Prop) (hf : Fs A) (h : ∀ A, Fs A → c.wpIn F n P Q { tmps := A, defers := ds } W) : c.wpIn F n P Q { tmps := A, defers := ds } W := h A hf
/-- What is kept ahead of the last statement of a round. -/
structure ShM (w W : World) (k nb r e0 e1 e2 : Nat) (Wx : World) : Prop where
  res : Wx.heap[w.heap.size]? = some (.cells #[.int .i64 0, .int .i64 0, .int .i64 0, .int .i64 0, .int .i64 0, .int .i64 0] 160 (0, 0))
  ok : Wx.heap[w.heap.size + 1]? = some (.cells #[.bool false] 4 (0, 0))
  out : Wx.heap[w.heap.size + 1 + 1]? = some (.cells #[.int .i64 k, .int .i64 nb, .int .i64 r, .int .i64 e0, .int .i64 e1, .int .i64 e2] 160 (0, 0))
  below : Below w.heap.size w Wx
  keep : KeepsOthers W Wx
/-- What the last statement of a round keeps, knowing whether its two stores are done. -/
structure RegI (w W : World) (o0 o1 o2 o3 o4 o5 : Value) (b l10 l11 : Bool) (Wx : World) : Prop where
  res : Wx.heap[w.heap.size]? = some (.cells (if l10 then #[o0, o1, o2, o3, o4, o5] else #[.int .i64 0, .int .i64 0, .int .i64 0, .int .i64 0, .int .i64 0, .int .i64 0]) 160 (0, 0))
  ok : Wx.heap[w.heap.size + 1]? = some (.cells #[.bool (l11 && b)] 4 (0, 0))
  out : Wx.heap[w.heap.size + 1 + 1]? = some (.cells #[o0, o1, o2, o3, o4, o5] 160 (0, 0))
  below : Below w.heap.size w Wx
  keep : KeepsOthers W Wx
theorem tbox_ne {B b : Nat} (h : B ≠ b) : ∀ W r, TBox B W r → r ≠ b := fun W r ⟨e, _⟩ => by omega
theorem tbox_le {B n : Nat} (h : n ≤ B) : ∀ W r, TBox B W r → n ≤ r := fun W r ⟨e, _⟩ => by omega

theorem allocAt {W : World} {b : Nat} (o : Obj) (h : b = W.heap.size) : (W.alloc o).heap[b]? = some o := by subst h; exact heap_alloc_new W o
theorem allocPast {W : World} {b : Nat} (o : Obj) {x : Option Obj} (h : W.heap[b]? = x) (hlt : b < W.heap.size) : (W.alloc o).heap[b]? = x := (Below.heap_alloc W o b hlt).trans h
theorem blkLt {W : World} {b : Nat} {o : Obj} (h : W.heap[b]? = some o) : b < W.heap.size := (Array.getElem?_eq_some_iff.1 h).1
abbrev set6 (W : World) (b : Nat) (v0 v1 v2 v3 v4 v5 : Value) : World := (((((W.setCell ⟨b, 0, none⟩ v0).setCell ⟨b, 1, none⟩ v1).setCell ⟨b, 2, none⟩ v2).setCell ⟨b, 3, none⟩ v3).setCell ⟨b, 4, none⟩ v4).setCell ⟨b, 5, none⟩ v5
theorem set6_same {W : World} {b : Nat} {a0 a1 a2 a3 a4 a5 : Value} {t : TypeId} (h : W.heap[b]? = some (.cells #[a0, a1, a2, a3, a4, a5] t (0, 0))) (v0 v1 v2 v3 v4 v5 : Value) :
    (set6 W b v0 v1 v2 v3 v4 v5).heap[b]? = some (.cells #[v0, v1, v2, v3, v4, v5] t (0, 0)) := by
  have h0 := heap_setCell_same W b 0 _ t v0 h
  have h1 := heap_setCell_same _ b 1 _ t v1 h0
  have h2 := heap_setCell_same _ b 2 _ t v2 h1
  have h3 := heap_setCell_same _ b 3 _ t v3 h2
  have h4 := heap_setCell_same _ b 4 _ t v4 h3
  have h5 := heap_setCell_same _ b 5 _ t v5 h4
  rw [set6, h5]; simp
theorem set6_other {W : World} {b b' : Nat} (hne : b' ≠ b) (v0 v1 v2 v3 v4 v5 : Value) : (set6 W b v0 v1 v2 v3 v4 v5).heap[b']? = W.heap[b']? := by
  simp only [set6]
  rw [heap_setCell_other _ _ _ _ hne, heap_setCell_other _ _ _ _ hne, heap_setCell_other _ _ _ _ hne, heap_setCell_other _ _ _ _ hne, heap_setCell_other _ _ _ _ hne, heap_setCell_other _ _ _ _ hne]
theorem set6_below {B : Nat} {w W : World} {b : Nat} (h : Below B w W) (hb : B ≤ b) (v0 v1 v2 v3 v4 v5 : Value) : Below B w (set6 W b v0 v1 v2 v3 v4 v5) :=
  (((((h.setCell (p := ⟨b, 0, none⟩) hb v0).setCell (p := ⟨b, 1, none⟩) hb v1).setCell (p := ⟨b, 2, none⟩) hb v2).setCell (p := ⟨b, 3, none⟩) hb v3).setCell (p := ⟨b, 4, none⟩) hb v4).setCell (p := ⟨b, 5, none⟩) hb v5
theorem set6_keeps (W : World) (b : Nat) (v0 v1 v2 v3 v4 v5 : Value) : KeepsOthers W (set6 W b v0 v1 v2 v3 v4 v5) :=
  (((((KeepsOthers.setCell W _ _).trans (KeepsOthers.setCell _ _ _)).trans (KeepsOthers.setCell _ _ _)).trans (KeepsOthers.setCell _ _ _)).trans (KeepsOthers.setCell _ _ _)).trans (KeepsOthers.setCell _ _ _)
theorem below_keeps {W W1 : World} (h : Below W.heap.size W W1) : KeepsOthers W W1 := ⟨h.size, fun k o hk _ => (h.block k (blkLt hk)).trans hk⟩
theorem blkCell {W : World} {b : Nat} {c : Array Value} {t : TypeId} (h : W.heap[b]? = some (.cells c t (0, 0))) : ∀ j, W.cell? ⟨b, j, none⟩ = c[j]? := fun j => cell_of_row W b j c t (0, 0) h
theorem blkFree {W : World} {b : Nat} {c : Array Value} {t : TypeId} (h : W.heap[b]? = some (.cells c t (0, 0))) : ∀ j, W.frozen? ⟨b, j, none⟩ = false := fun j => frozen_of_row W b j c t h
theorem blkBelow {W W1 : World} {b : Nat} {o : Obj} (h : W.heap[b]? = some o) (hb : Below W.heap.size W W1) : W1.heap[b]? = some o := (hb.block b (blkLt h)).trans h

theorem RegI.other {w W : World} {o0 o1 o2 o3 o4 o5 : Value} {b : Bool} {listed : Array Bool} {Wx : World} (h : RegI w W o0 o1 o2 o3 o4 o5 b (listed.getD 10 false) (listed.getD 11 false) Wx) (i : Nat) (h10 : i ≠ 10) (h11 : i ≠ 11) :
    RegI w W o0 o1 o2 o3 o4 o5 b ((listed.setIfInBounds i true).getD 10 false) ((listed.setIfInBounds i true).getD 11 false) Wx := by
  rw [getD_set_ne false h10, getD_set_ne false h11]; exact h
theorem RegI.put10 {w W : World} {o0 o1 o2 o3 o4 o5 : Value} {b : Bool} {listed : Array Bool} {Wx : World} (hs : 10 < listed.size) (hu : listed.getD 10 false = false) (h : RegI w W o0 o1 o2 o3 o4 o5 b (listed.getD 10 false) (listed.getD 11 false) Wx) :
    RegI w W o0 o1 o2 o3 o4 o5 b ((listed.setIfInBounds 10 true).getD 10 false) ((listed.setIfInBounds 10 true).getD 11 false) (set6 Wx w.heap.size o0 o1 o2 o3 o4 o5) := by
  rw [getD_set_ne false (show 10 ≠ 11 by decide), (getD_set_iff hs).2 (.inl rfl)]
  have hr := h.res
  rw [hu] at hr
  exact ⟨set6_same hr _ _ _ _ _ _, (set6_other (by omega) _ _ _ _ _ _).trans h.ok, (set6_other (by omega) _ _ _ _ _ _).trans h.out, set6_below h.below (Nat.le_refl _) _ _ _ _ _ _, h.keep.trans (set6_keeps _ _ _ _ _ _ _ _)⟩
theorem RegI.put11 {w W : World} {o0 o1 o2 o3 o4 o5 : Value} {b : Bool} {listed : Array Bool} {Wx : World} (hs : 11 < listed.size) (hu : listed.getD 11 false = false) (h : RegI w W o0 o1 o2 o3 o4 o5 b (listed.getD 10 false) (listed.getD 11 false) Wx) :
    RegI w W o0 o1 o2 o3 o4 o5 b ((listed.setIfInBounds 11 true).getD 10 false) ((listed.setIfInBounds 11 true).getD 11 false) (Wx.setCell ⟨w.heap.size + 1, 0, none⟩ (.bool b)) := by
  rw [getD_set_ne false (show 11 ≠ 10 by decide), (getD_set_iff hs).2 (.inl rfl)]
  exact ⟨(heap_setCell_other _ _ _ _ (by simp)).trans h.res, one_setCell h.ok, (heap_setCell_other _ _ _ _ (by simp)).trans h.out, h.below.setCell (p := ⟨w.heap.size + 1, 0, none⟩) (by simp) _, h.keep.trans (KeepsOthers.setCell _ _ _)⟩
theorem wrap64_id {x : Int} (h0 : 0 ≤ x) (h1 : x ≤ 1000000000) : wrap64 x = x := by unfold wrap64; omega
theorem prodW1 (a : Int) : prodW [a] = wrap64 a := by simp [prodW]
theorem prodW2 (a b : Int) : prodW [a, b] = wrap64 (wrap64 a * b) := by simp [prodW]
theorem prodW3 (a b c : Int) : prodW [a, b, c] = wrap64 (wrap64 (wrap64 a * b) * c) := by simp [prodW]
theorem prodN1 (a : Nat) : prodN [a] = a := by simp [prodN]
theorem prodN2 (a b : Nat) : prodN [a, b] = a * b := by simp [prodN]
theorem prodN3 (a b c : Nat) : prodN [a, b, c] = a * b * c := by simp [prodN]
theorem wmul {a b : Nat} (h : a * b ≤ 1000000000) : wrap64 ((a : Int) * (b : Int)) = ((a * b : Nat) : Int) := by
  rw [← Int.natCast_mul]; exact wrap64_id (by omega) (by omega)
theorem prodW_2 {a b : Nat} (ha : a ≤ 1000) (hb : b ≤ 1000) : prodW [(a : Int), (b : Int)] = (prodN [a, b] : Int) := by
  have h2 : a * b ≤ 1000 * 1000 := Nat.mul_le_mul ha hb
  rw [prodW2, prodN2, wrap64_id (x := (a : Int)) (by omega) (by omega), wmul (by omega)]
theorem prodW_3 {a b c : Nat} (ha : a ≤ 1000) (hb : b ≤ 1000) (hc : c ≤ 1000) : prodW [(a : Int), (b : Int), (c : Int)] = (prodN [a, b, c] : Int) := by
  have h2 : a * b ≤ 1000 * 1000 := Nat.mul_le_mul ha hb
  have h3 : a * b * c ≤ 1000 * 1000 * 1000 := Nat.mul_le_mul h2 hc
  rw [prodW3, prodN3, wrap64_id (x := (a : Int)) (by omega) (by omega), wmul (by omega), wmul (by omega)]
theorem prodW_ext (ext : List Nat) (hl : ext.length ≤ 3) (h : ∀ n ∈ ext, n ≤ 1000) : prodW (([ext.getD 0 0, ext.getD 1 0, ext.getD 2 0].map Int.ofNat).take ext.length) = (prodN ext : Int) := by
  match ext, hl, h with
  | [], _, _ => rfl
  | [a], _, h => 
    have ha : a ≤ 1000 := h a (by simp)
    have : prodW [(a : Int)] = (prodN [a] : Int) := by rw [prodW1, prodN1, wrap64_id (by omega) (by omega)]
    simpa using this
  | [a, b], _, h => simpa using prodW_2 (h a (by simp)) (h b (by simp))
  | [a, b, c], _, h => simpa using prodW_3 (h a (by simp)) (h b (by simp)) (h c (by simp))
  | a :: b :: c :: d :: l, h, _ => simp at h
theorem shm_one {w W W1 : World} {k r e0 e1 e2 z : Nat} {l : List UInt8} {pre : List (List UInt8 × Bool)} {ext : List Nat} (hi : ShI w k l pre ext W) (hb : Below W.heap.size W W1)
    (ho : W.heap[w.heap.size + 1 + 1]? = some (.cells #[.int .i64 k, .int .i64 z, .int .i64 r, .int .i64 e0, .int .i64 e1, .int .i64 e2] 160 (0, 0))) (o : Obj) (nb : Nat) :
    ShM w W k nb r e0 e1 e2 ((W1.setCell ⟨w.heap.size + 1 + 1, 1, none⟩ (.int .i64 nb)).alloc o) := by
  have hz := blkLt (blkBelow ho hb)
  refine ⟨allocPast _ ((heap_setCell_other _ _ _ _ (by simp; omega)).trans (blkBelow hi.res hb)) (by simp [World.setCell]; omega), allocPast _ ((heap_setCell_other _ _ _ _ (by simp)).trans (blkBelow hi.ok hb)) (by simp [World.setCell]; omega), allocPast _ ?_ (by simpa [World.setCell] using hz), ?_, ?_⟩
  · rw [heap_setCell_same _ _ _ _ _ _ (blkBelow ho hb)]; rfl
  · exact ((hi.below.trans (hb.mono hi.below.size)).setCell (p := ⟨w.heap.size + 1 + 1, 1, none⟩) (by simp; omega) _).alloc (by simp [World.setCell]; omega) _
  · exact ((below_keeps hb).trans (KeepsOthers.setCell _ _ _)).trans (KeepsOthers.alloc _ _)
theorem shm_two {w W W1 : World} {k r e0 e1 e2 z : Nat} {l : List UInt8} {pre : List (List UInt8 × Bool)} {ext : List Nat} (hi : ShI w k l pre ext W) (hb : Below W.heap.size W W1)
    (ho : W.heap[w.heap.size + 1 + 1]? = some (.cells #[.int .i64 k, .int .i64 z, .int .i64 r, .int .i64 e0, .int .i64 e1, .int .i64 e2] 160 (0, 0))) (o : Obj) (nb : Nat) (u : Value) :
    ShM w W k nb r e0 e1 e2 (((W1.setCell ⟨w.heap.size + 1 + 1, 1, none⟩ u).setCell ⟨w.heap.size + 1 + 1, 1, none⟩ (.int .i64 nb)).alloc o) := by
  have hz := blkLt (blkBelow ho hb)
  refine ⟨allocPast _ ((heap_setCell_other _ _ _ _ (by simp; omega)).trans ((heap_setCell_other _ _ _ _ (by simp; omega)).trans (blkBelow hi.res hb))) (by simp [World.setCell]; omega), allocPast _ ((heap_setCell_other _ _ _ _ (by simp)).trans ((heap_setCell_other _ _ _ _ (by simp)).trans (blkBelow hi.ok hb))) (by simp [World.setCell]; omega), allocPast _ ?_ (by simpa [World.setCell] using hz), ?_, ?_⟩
  · rw [heap_setCell_same _ _ _ _ _ _ (heap_setCell_same _ _ _ _ _ _ (blkBelow ho hb))]; rfl
  · exact (((hi.below.trans (hb.mono hi.below.size)).setCell (p := ⟨w.heap.size + 1 + 1, 1, none⟩) (by simp; omega) _).setCell (p := ⟨w.heap.size + 1 + 1, 1, none⟩) (by simp; omega) _).alloc (by simp [World.setCell]; omega) _
  · exact (((below_keeps hb).trans (KeepsOthers.setCell _ _ _)).trans (KeepsOthers.setCell _ _ _)).trans (KeepsOthers.alloc _ _)
theorem shx_mk {w : World} {k : Nat} {l : List UInt8} {pre : List (List UInt8 × Bool)} {ext : List Nat} {W W1 : World} (hi : ShI w k l pre ext W) (hb : Below W.heap.size W W1) (p : Pd) (okv : Bool)
    (hspec : ∀ q, shapeOf k l = some q → p = q) (hlen : p.ext.length ≤ 3) (hok : okv = (shapeOf k l).isSome) :
    ShX w k l p ((set6 W1 w.heap.size (.int .i64 p.kind) (.int .i64 p.bits) (.int .i64 p.ext.length) (.int .i64 (p.ext.getD 0 0 : Nat)) (.int .i64 (p.ext.getD 1 0 : Nat)) (.int .i64 (p.ext.getD 2 0 : Nat))).setCell ⟨w.heap.size + 1, 0, none⟩ (.bool okv)) := by
  refine ⟨hspec, hlen, ?_, ?_, ?_⟩
  · rw [heap_setCell_other _ _ _ _ (by simp), set6_same (blkBelow hi.res hb)]; rfl
  · subst hok
    exact one_setCell ((set6_other (by omega) _ _ _ _ _ _).trans (blkBelow hi.ok hb))
  · exact (set6_below (hi.below.trans (hb.mono hi.below.size)) (Nat.le_refl _) _ _ _ _ _ _).setCell (p := ⟨w.heap.size + 1, 0, none⟩) (Nat.le_succ _) _
theorem shi_none {w : World} {k : Nat} {l xl : List UInt8} {pre : List (List UInt8 × Bool)} {ext : List Nat} {W : World} (hi : ShI w k l pre ext W) (hp : pre ++ [(xl, false)] <+: partsOf l)
    (hn : ∀ v, numOf xl = some v → ¬ (v ≤ 1000 ∧ ext.length < 3)) : shapeOf k l = none := by
  obtain ⟨rest, hr⟩ := hp
  unfold shapeOf
  rw [hi.go ((xl, false) :: rest) (by rw [← hr]; simp), shapeP]
  split
  · rename_i v hv; rw [if_neg (hn v hv)]; rfl
  · rfl
theorem shi_step {w : World} {k : Nat} {l xl : List UInt8} {pre : List (List UInt8 × Bool)} {ext : List Nat} {W : World} {v : Nat} (hi : ShI w k l pre ext W) (hn : numOf xl = some v) (hv : v ≤ 1000) (hl : ext.length < 3) :
    ∀ rest, (pre ++ [(xl, false)]) ++ rest = partsOf l → shapeP [] (partsOf l) = shapeP (ext ++ [v]) rest := by
  intro rest hr
  rw [hi.go ((xl, false) :: rest) (by rw [← hr]; simp), shapeP, hn]
  simp only
  rw [if_pos ⟨hv, hl⟩]
theorem shi_last {w : World} {k : Nat} {l xl : List UInt8} {pre : List (List UInt8 × Bool)} {ext : List Nat} {W : World} (hi : ShI w k l pre ext W) (hp : pre ++ [(xl, true)] <+: partsOf l) :
    shapeOf k l = (elemOf xl).bind fun e => if prodN ext ≤ 4096 then some ⟨k, if e.kind = 1 then 0 else e.bits, ext⟩ else none := by
  obtain ⟨rest, hr⟩ := hp
  unfold shapeOf
  rw [hi.go ((xl, true) :: rest) (by rw [← hr]; simp), shapeP]
  cases elemOf xl with
  | none => rfl
  | some e => simp only [Option.bind_some]; split <;> rfl

theorem pdCells_snoc : ∀ (k v : Nat) (ext : List Nat), ext.length < 3 → ((pdCells k 0 ext).setIfInBounds (3 + ext.length) (.int .i64 v)).setIfInBounds 2 (.int .i64 ((ext.length + 1 : Nat) : Int)) = pdCells k 0 (ext ++ [v])
  | k, v, [], _ => by simp [pdCells]
  | k, v, [a], _ => by simp [pdCells]
  | k, v, [a, b], _ => by simp [pdCells]
  | k, v, a :: b :: c :: l, h => by simp at h; omega
theorem shi_next {w : World} {k : Nat} {l xl : List UInt8} {pre : List (List UInt8 × Bool)} {ext : List Nat} {W W1 : World} {v : Nat} (hi : ShI w k l pre ext W) (hb : Below W.heap.size W W1) (hn : numOf xl = some v) (hv : v ≤ 1000) (hl : ext.length < 3) :
    ShI w k l (pre ++ [(xl, false)]) (ext ++ [v]) ((W1.setCell ⟨w.heap.size + 1 + 1, 3 + ext.length, none⟩ (.int .i64 v)).setCell ⟨w.heap.size + 1 + 1, 2, none⟩ (.int .i64 ((ext.length + 1 : Nat) : Int))) := by
  refine ⟨shi_step hi hn hv hl, ?_, ?_, ?_, ?_, ?_, ?_, ?_⟩
  · intro x hx; rw [List.mem_append] at hx
    rcases hx with hx | hx
    · exact hi.mid x hx
    · simp at hx; rw [hx]
  · simp; omega
  · intro n hn'; rw [List.mem_append] at hn'
    rcases hn' with h | h
    · exact hi.all n h
    · simp at h; omega
  · rw [heap_setCell_other _ _ _ _ (by simp; omega), heap_setCell_other _ _ _ _ (by simp; omega)]; exact blkBelow hi.res hb
  · rw [heap_setCell_other _ _ _ _ (by simp), heap_setCell_other _ _ _ _ (by simp)]; exact blkBelow hi.ok hb
  · rw [heap_setCell_same _ _ _ _ _ _ (heap_setCell_same _ _ _ _ _ _ (blkBelow hi.out hb)), pdCells_snoc k v ext hl]
  · exact ((hi.below.trans (hb.mono hi.below.size)).setCell (p := ⟨w.heap.size + 1 + 1, 3 + ext.length, none⟩) (by simp; omega) _).setCell (p := ⟨w.heap.size + 1 + 1, 2, none⟩) (by simp; omega) _

set_option maxRecDepth 100000 in
set_option maxHeartbeats 2000000 in
theorem shape_any (k : Nat) (l : List UInt8) (w : World) (hl : l.length ≤ 140737488355328) (hk : k ≤ 5) :
    Calls Tryz.prog 164 #[.int .i64 k, .string ⟨l.toArray⟩] w (ShapePost k l w) := by
  refine (callsIn_wide (n := 6)).1 ?_
  refine callsIn_of_wp_marks Tryz.func164 rfl trivial ?_ rfl
  simp only [Tryz.ntmps164, List.size_toArray, List.length_cons, List.length_nil, Nat.reduceAdd, Nat.reduceSub, Array.replicate_succ, Array.replicate_zero, List.push_toArray, List.append_toArray, List.nil_append, List.cons_append]
  gi_wp2_with (refine ⟨trivial, ?_⟩; gi_at_call 170; refine (callsIn_wide.2 (parts_any _ _)).mono ?_; rintro e w' ⟨rfl, rfl⟩)
  refine wpIn_range_outer rfl (by omega) (gf := 177) (lb := #[.pointer (some ⟨w.heap.size + 1 + 1 + 1, 0, none⟩)]) rfl trivial (enters_of Tryz.func177 (by kernel_rfl) rfl)
    (parts_seq 5 (w.heap.size + 1 + 1 + 1) l hl (by omega)) (fun W r ⟨e, v, hv⟩ => ⟨_, e ▸ hv, .inr rfl⟩) ?pre (fun h k => k.trans h) ?kb (fun _ => rfl)
    (fun pre W => ∃ ext, ShI w k l pre ext W) (fun c pre W => c = .ret ∧ ∃ p, ShX w k l p W) ?hI ?hIx ?h0
    (fun x a' _ => a' = { tmps := #[.int .i64 k, .string ⟨l.toArray⟩, undef, undef, .pointer (some ⟨w.heap.size, 0, none⟩), .pointer (some ⟨w.heap.size + 1, 0, none⟩), .pointer (some ⟨w.heap.size + 1 + 1, 0, none⟩), .string ⟨x.1.toArray⟩, .bool x.2, undef, undef, undef, undef, .int .i64 k, .agg #[.int .i64 k, .int .i64 0, .int .i64 0, .int .i64 0, .int .i64 0, .int .i64 0], .string ⟨l.toArray⟩, .func (.func 177) #[] #[.pointer (some ⟨w.heap.size + 1 + 1 + 1, 0, none⟩)], .string ⟨x.1.toArray⟩, .bool x.2, undef, undef, undef, undef, undef, undef, undef, undef, undef, undef, undef, undef, undef, undef, undef, undef, undef, undef, undef, undef, undef, undef, undef, undef, undef, undef, undef, undef, undef, undef, undef, undef, undef, undef, undef, undef, undef, undef, undef, undef, undef, undef, undef, undef, undef, undef], defers := [] }) (fun x a' _ _ _ _ h _ _ => h) ?assign ?body ?done ?stop
  case pre => exact fun W1 hb => (hb.block _ (by simp)).trans (allocAt _ (by simp))
  case kb => exact fun W m o o' hm _ _ _ => World.putObj_heap_other (by simp at hm; omega)
  case hI =>
    rintro pre W W' row ⟨ext, h⟩ hg hr
    exact ⟨ext, h.go, h.mid, h.len, h.all, turn_keeps hg hr (tbox_ne (by omega)) h.res, turn_keeps hg hr (tbox_ne (by omega)) h.ok, turn_keeps hg hr (tbox_ne (by omega)) h.out, turn_below h.below hg hr (tbox_le (by omega)) (Nat.le_refl _) (by simp; omega)⟩
  case hIx =>
    rintro c pre W W' row ⟨hc, p, h⟩ hg hr
    exact ⟨hc, p, h.spec, h.len, turn_keeps hg hr (tbox_ne (by omega)) h.res, turn_keeps hg hr (tbox_ne (by omega)) h.ok, turn_below h.below hg hr (tbox_le (by omega)) (Nat.le_refl _) (by simp; omega)⟩
  case h0 =>
    refine ⟨[], fun rest h => by rw [← h]; rfl, by simp, by simp, by simp, ?_, ?_, ?_, ?_⟩
    · exact allocPast _ (allocPast _ (allocPast _ (allocAt _ rfl) (by simp)) (by simp <;> omega)) (by simp <;> omega)
    · exact allocPast _ (allocPast _ (allocAt _ (by simp)) (by simp)) (by simp <;> omega)
    · exact allocPast _ (allocAt _ (by simp)) (by simp)
    · exact ((((Below.refl _ w).alloc (Nat.le_refl _) _).alloc (by simp) _).alloc (by simp; omega) _).alloc (by simp; omega) _
  case assign =>
    intro yl pre x W K hi hK
    gi_wp2_with fail
    exact hK _ _ (KeepsFrom.refl _ _) rfl hi rfl
  case body =>
    rintro yl pre x a' W hyl hrec ⟨ext, hi⟩ rfl hlen
    have hlenr : W.heap.size = W.heap.size := rfl
    obtain ⟨xl, xf⟩ := x
    obtain ⟨e0, he0⟩ : ∃ e0, e0 = ext.getD 0 0 := ⟨_, rfl⟩
    obtain ⟨e1, he1⟩ : ∃ e1, e1 = ext.getD 1 0 := ⟨_, rfl⟩
    obtain ⟨e2, he2⟩ : ∃ e2, e2 = ext.getD 2 0 := ⟨_, rfl⟩
    obtain ⟨r, hr⟩ : ∃ r, r = ext.length := ⟨_, rfl⟩
    have hr3 : r ≤ 3 := by rw [hr]; exact hi.len
    have hout := hi.out
    rw [pdCells, ← he0, ← he1, ← he2, ← hr] at hout
    have HI := Lib.hid hi
    have HE := Lib.hid (And.intro he0 (And.intro he1 (And.intro he2 hr)))
    have c0 := blkCell hi.res; have f0 := blkFree hi.res
    have c1 := blkCell hi.ok; have f1 := blkFree hi.ok
    have c2 := blkCell hout; have f2 := blkFree hout
    have Hout := Lib.hid hout
    clear hi he0 he1 he2 hr hout
    have HPRE := Lib.hid hlen; clear hlen
    have hb3 : w.heap.size + 1 + 1 + 1 < W.heap.size := by
      obtain ⟨r, hr⟩ := hrec
      have := blkLt hr
      simp at hyl; omega
    have hkp : ∀ (W1 : World), Below W.heap.size W W1 → ∀ (i j : Nat) (u v : Value), ((W1.setCell ⟨w.heap.size + 1 + 1, i, none⟩ u).setCell ⟨w.heap.size + 1 + 1, j, none⟩ v).heap[w.heap.size + 1 + 1 + 1]? = W.heap[w.heap.size + 1 + 1 + 1]? := by
      intro W1 hb i j u v
      rw [heap_setCell_other _ _ _ _ (by simp), heap_setCell_other _ _ _ _ (by simp)]
      exact hb.block _ hb3
    clear hyl hrec
    cases xf
    · cases hn : numOf xl with
      | none =>
        have hno := Lib.hid (shi_none HI.out HPRE.out (fun v hv => by rw [hn] at hv; cases hv))
        have Hn := Lib.hid (show numOf (ByteArray.mk xl.toArray).data.toList = _ from hn); clear hn
        gi_wp2_with (refine ⟨trivial, ?_⟩; gi_at_call 169; refine (CallsIn.inRound yl (callsIn_wide.2 (number_none _ _ _ Hn.out))).mono ?_; rintro e W1 ⟨rfl, hb1⟩; (have c0 := blkCell (blkBelow HI.out.res hb1)); (have f0 := blkFree (blkBelow HI.out.res hb1)); (have c1 := blkCell (blkBelow HI.out.ok hb1)); (have f1 := blkFree (blkBelow HI.out.ok hb1)); (have c2 := blkCell (blkBelow Hout.out hb1)); (have f2 := blkFree (blkBelow Hout.out hb1)))
        exact ⟨(((below_keeps hb1).trans (set6_keeps _ _ _ _ _ _ _ _)).trans (KeepsOthers.setCell _ _ _)).from _, rfl, ⟨k, 0, ext⟩, by
          obtain ⟨rfl, rfl, rfl, rfl⟩ := HE.out
          exact shx_mk HI.out hb1 ⟨k, 0, ext⟩ false (fun q hq => by rw [hno.out] at hq; cases hq) HI.out.len (by rw [hno.out]; rfl)⟩
      | some v =>
        have Hn := Lib.hid (show numOf (ByteArray.mk xl.toArray).data.toList = _ from hn); clear hn
        by_cases hv : (v : Int) ≤ 1000 ∧ r < 3
        · obtain ⟨hv, hr⟩ := hv
          have hr' : r = 0 ∨ r = 1 ∨ r = 2 := by omega
          clear hr hr3
          rcases hr' with rfl | rfl | rfl
          · gi_wp2_with (refine ⟨trivial, ?_⟩; gi_at_call 169; refine (CallsIn.inRound yl (callsIn_wide.2 (number_some _ _ _ _ Hn.out))).mono ?_; rintro e W1 ⟨rfl, hb1⟩; (have c0 := blkCell (blkBelow HI.out.res hb1)); (have f0 := blkFree (blkBelow HI.out.res hb1)); (have c1 := blkCell (blkBelow HI.out.ok hb1)); (have f1 := blkFree (blkBelow HI.out.ok hb1)); (have c2 := blkCell (blkBelow Hout.out hb1)); (have f2 := blkFree (blkBelow Hout.out hb1)))
            exact ⟨(((below_keeps hb1).trans (KeepsOthers.setCell _ _ _)).trans (KeepsOthers.setCell _ _ _)).from _, hkp W1 hb1 _ _ _ _, ext ++ [v], by
              have h4 := HE.out.2.2.2
              have := shi_next HI.out hb1 Hn.out (by omega) (by omega); rw [← h4] at this; exact this⟩
          · gi_wp2_with (refine ⟨trivial, ?_⟩; gi_at_call 169; refine (CallsIn.inRound yl (callsIn_wide.2 (number_some _ _ _ _ Hn.out))).mono ?_; rintro e W1 ⟨rfl, hb1⟩; (have c0 := blkCell (blkBelow HI.out.res hb1)); (have f0 := blkFree (blkBelow HI.out.res hb1)); (have c1 := blkCell (blkBelow HI.out.ok hb1)); (have f1 := blkFree (blkBelow HI.out.ok hb1)); (have c2 := blkCell (blkBelow Hout.out hb1)); (have f2 := blkFree (blkBelow Hout.out hb1)))
            exact ⟨(((below_keeps hb1).trans (KeepsOthers.setCell _ _ _)).trans (KeepsOthers.setCell _ _ _)).from _, hkp W1 hb1 _ _ _ _, ext ++ [v], by
              have h4 := HE.out.2.2.2
              have := shi_next HI.out hb1 Hn.out (by omega) (by omega); rw [← h4] at this; exact this⟩
          · gi_wp2_with (refine ⟨trivial, ?_⟩; gi_at_call 169; refine (CallsIn.inRound yl (callsIn_wide.2 (number_some _ _ _ _ Hn.out))).mono ?_; rintro e W1 ⟨rfl, hb1⟩; (have c0 := blkCell (blkBelow HI.out.res hb1)); (have f0 := blkFree (blkBelow HI.out.res hb1)); (have c1 := blkCell (blkBelow HI.out.ok hb1)); (have f1 := blkFree (blkBelow HI.out.ok hb1)); (have c2 := blkCell (blkBelow Hout.out hb1)); (have f2 := blkFree (blkBelow Hout.out hb1)))
            exact ⟨(((below_keeps hb1).trans (KeepsOthers.setCell _ _ _)).trans (KeepsOthers.setCell _ _ _)).from _, hkp W1 hb1 _ _ _ _, ext ++ [v], by
              have h4 := HE.out.2.2.2
              have := shi_next HI.out hb1 Hn.out (by omega) (by omega); rw [← h4] at this; exact this⟩
        · have hno := Lib.hid (shi_none HI.out HPRE.out (fun v' hv' => by rw [Hn.out] at hv'; cases hv'; intro hh; apply hv; exact ⟨by omega, by rw [HE.out.2.2.2]; exact hh.2⟩))
          have hv' : 1000 < (v : Int) ∨ ((v : Int) ≤ 1000 ∧ 3 = r) := by omega
          clear hv
          rcases hv' with hv | ⟨hv, rfl⟩
          all_goals
            gi_wp2_with (refine ⟨trivial, ?_⟩; gi_at_call 169; refine (CallsIn.inRound yl (callsIn_wide.2 (number_some _ _ _ _ Hn.out))).mono ?_; rintro e W1 ⟨rfl, hb1⟩; (have c0 := blkCell (blkBelow HI.out.res hb1)); (have f0 := blkFree (blkBelow HI.out.res hb1)); (have c1 := blkCell (blkBelow HI.out.ok hb1)); (have f1 := blkFree (blkBelow HI.out.ok hb1)); (have c2 := blkCell (blkBelow Hout.out hb1)); (have f2 := blkFree (blkBelow Hout.out hb1)))
            exact ⟨(((below_keeps hb1).trans (set6_keeps _ _ _ _ _ _ _ _)).trans (KeepsOthers.setCell _ _ _)).from _, rfl, ⟨k, 0, ext⟩, by
              obtain ⟨h1, h2, h3, h4⟩ := HE.out
              subst h1 h2 h3
              first
                | (subst h4; exact shx_mk HI.out hb1 ⟨k, 0, ext⟩ false (fun q hq => by rw [hno.out] at hq; cases hq) HI.out.len (by rw [hno.out]; rfl))
                | (have := shx_mk HI.out hb1 ⟨k, 0, ext⟩ false (fun q hq => by rw [hno.out] at hq; cases hq) HI.out.len (by rw [hno.out]; rfl); rw [← h4] at this; exact this)⟩
    · have hlast := Lib.hid (shi_last HI.out HPRE.out)
      cases he : elemOf xl with
      | none =>
        have He := Lib.hid (show elemOf (ByteArray.mk xl.toArray).data.toList = _ from he); clear he
        gi_wp2_with (refine ⟨trivial, ?_⟩; gi_at_call 162; refine (CallsIn.inRound yl (callsIn_wide.2 (element_any _ _))).mono ?_; rintro e W1 ⟨⟨pk, pb, pe⟩, hp0, hp1, rfl, hb1⟩; (obtain rfl : pe = [] := hp0); rw [He.out]; (simp only [Pd.val, Option.isSome, List.length_nil, List.getD_nil]); (have hz2 : w.heap.size + 1 + 1 < W1.heap.size := blkLt (blkBelow Hout.out hb1)); (have hz1 : w.heap.size + 1 < W1.heap.size := Nat.lt_of_succ_lt hz2); (have hz0 : w.heap.size < W1.heap.size := Nat.lt_of_succ_lt hz1); (have c0 := blkCell (blkBelow HI.out.res hb1)); (have f0 := blkFree (blkBelow HI.out.res hb1)); (have c1 := blkCell (blkBelow HI.out.ok hb1)); (have f1 := blkFree (blkBelow HI.out.ok hb1)); (have c2 := blkCell (blkBelow Hout.out hb1)); (have f2 := blkFree (blkBelow Hout.out hb1)))
        all_goals
          refine wpIn_world (ShM w W k (if pk = 1 then 0 else pb) r e0 e1 e2) (by
            first
              | (have hpk1 : pk = 1 := by have hpk : ((pk : Int) == 1) = true := by assumption
                                          simp at hpk; omega
                 rw [if_pos hpk1]; exact shm_two HI.out hb1 Hout.out _ 0 _)
              | (have hpk1 : ¬ pk = 1 := by have hpk : ((pk : Int) == 1) = false := by assumption
                                            simp at hpk; omega
                 rw [if_neg hpk1]; exact shm_one HI.out hb1 Hout.out _ pb)) ?_
          intro Wx hM
          have c0 := blkCell hM.res; have f0 := blkFree hM.res
          have c1 := blkCell hM.ok; have f1 := blkFree hM.ok
          have c2 := blkCell hM.out; have f2 := blkFree hM.out
          have HM := Lib.hid hM
          clear hM hb1 hp1 hkp hz0 hz1 hz2
          refine wpIn_tmps (fun A => A.size = 65 ∧ (∀ h : 6 < A.size, A[6]'h = .pointer (some ⟨w.heap.size + 1 + 1, 0, none⟩)) ∧ (∀ h : 10 < A.size, A[10]'h = .bool false) ∧ (∀ h : 4 < A.size, A[4]'h = .pointer (some ⟨w.heap.size, 0, none⟩)) ∧ (∀ h : 5 < A.size, A[5]'h = .pointer (some ⟨w.heap.size + 1, 0, none⟩))) ⟨rfl, fun _ => rfl, fun _ => rfl, fun _ => rfl, fun _ => rfl⟩ ?_
          rintro A ⟨hA, hA6, hA10, hA4, hA5⟩
          generalize hops : (#[_, _, _, _, _, _, _, _, _, _, _, _] : Array Oper) = ops
          obtain ⟨nb, hnb⟩ : ∃ nb, nb = (if pk = 1 then 0 else pb) := ⟨_, rfl⟩
          have hM := HM.out
          rw [← hnb] at hM
          refine wpIn_region_inv (fun i => match i with | 0 => .agg #[.int .i64 k, .int .i64 nb, .int .i64 r, .int .i64 e0, .int .i64 e1, .int .i64 e2] | 1 => .bool false | 2 => .bool false | 9 => .bool false | _ => undef)
            (fun listed Wx => RegI w W (.int .i64 k) (.int .i64 nb) (.int .i64 r) (.int .i64 e0) (.int .i64 e1) (.int .i64 e2) false (listed.getD 10 false) (listed.getD 11 false) Wx)
            (by kernel_rfl) (by rw [hA, ← hops]; kernel_rfl) (by rw [getD_replicate_false, getD_replicate_false]; exact ⟨hM.res, hM.ok, hM.out, hM.below.drew, hM.keep.trans (KeepsOthers.drew _)⟩) ?step ?fin
          case fin =>
            intro a Wz _ hz
            rw [show (Array.replicate ops.size true).getD 10 false = true by rw [← hops]; rfl, show (Array.replicate ops.size true).getD 11 false = true by rw [← hops]; rfl] at hz
            have HZ := Lib.hid hz; clear hz
            gi_wp2
            refine ⟨HZ.out.keep.from _, rfl, ⟨k, nb, ext⟩, (fun q hq => by rw [hlast.out, He.out] at hq; cases hq), HI.out.len, ?_, ?_, HZ.out.below⟩
            · obtain ⟨rfl, rfl, rfl, rfl⟩ := HE.out
              exact HZ.out.res
            · rw [hlast.out, He.out]; exact HZ.out.ok
          case step =>
            clear c0 c1 c2 f0 f1 f2 hM HM
            intro i o listed a Wy ho hs hu hall ha hi hy hlt
            have hlt' : i < 12 := by rw [← hops] at hlt; exact hlt
            have h12 : i = 0 ∨ i = 1 ∨ i = 2 ∨ i = 3 ∨ i = 4 ∨ i = 5 ∨ i = 6 ∨ i = 7 ∨ i = 8 ∨ i = 9 ∨ i = 10 ∨ i = 11 := by omega
            rcases h12 with rfl | rfl | rfl | rfl | rfl | rfl | rfl | rfl | rfl | rfl | rfl | rfl
            all_goals (have ho' := ho; rw [← hops] at ho'; simp only [List.getElem?_toArray, List.getElem?_cons_zero, List.getElem?_cons_succ, Option.some.injEq] at ho'; subst ho')
            · refine step_none rfl ?_
              have h6 : a.eval (.tmp 6) = .pointer (some ⟨w.heap.size + 1 + 1, 0, none⟩) := by rw [ha.eval_old (noDst_spec (by rw [← hops]; kernel_rfl))]; simp [Act.eval, hA, hA6]
              refine opIn_value (wideAt_round yl) (fun c h => by cases h) (v := .agg #[.int .i64 k, .int .i64 nb, .int .i64 r, .int .i64 e0, .int .i64 e1, .int .i64 e2]) (W' := Wy) ?_ ⟨rfl, by simpa only [getD_set_ne false (show 0 ≠ 10 by decide), getD_set_ne false (show 0 ≠ 11 by decide)] using hi⟩
              have := run_loadVar_row (P := Tryz.prog) Wy _ _ 160 _ _ _ hi.out Tryz.underlying160 rfl (by kernel_rfl)
              simp only [execOp, h6, Instr.loadAt, Instr.sureAddr, Sem.run_bind, Sem.run_pure, Result.andThen_ok, this]
            · refine step_none rfl ?_
              have h10 : a.eval (.tmp 10) = .bool false := by rw [ha.eval_old (noDst_spec (by rw [← hops]; kernel_rfl))]; simp [Act.eval, hA, hA10]
              refine opIn_value (wideAt_round yl) (fun c h => by cases h) (v := .bool false) (W' := Wy) ?_ ⟨rfl, by simpa only [getD_set_ne false (show 1 ≠ 10 by decide), getD_set_ne false (show 1 ≠ 11 by decide)] using hi⟩
              simp only [execOp, h10, Sem.run_pure]
            · refine step_none rfl ?_
              have h33 : a.eval (.tmp 33) = .bool false := ha.eval_got (j := 1) (by rw [← hops]; rfl) rfl (hall ⟨1, .data⟩ (by simp) rfl)
              refine opIn_value (wideAt_round yl) (fun c h => by cases h) (v := .bool false) (W' := Wy) ?_ ⟨rfl, by simpa only [getD_set_ne false (show 2 ≠ 10 by decide), getD_set_ne false (show 2 ≠ 11 by decide)] using hi⟩
              simp only [execOp, h33, Sem.run_pure]
            iterate 6
              (refine step_no rfl (hy 2 (hall ⟨2, .guard⟩ (by simp) rfl) ⟨_, _, by rw [← hops]; rfl, rfl⟩) ⟨fun _ _ => trivial, rfl, ?_⟩
               exact hi.other _ (by decide) (by decide))
            · refine step_none rfl ?_
              have h34 : a.eval (.tmp 34) = .bool false := ha.eval_got (j := 2) (by rw [← hops]; rfl) rfl (hall ⟨2, .data⟩ (by simp) rfl)
              refine opIn_value (wideAt_round yl) (fun c h => by cases h) (v := .bool false) (W' := Wy) ?_ ⟨rfl, hi.other _ (by decide) (by decide)⟩
              simp only [execOp, h34]; simp [go_sem]
            · refine step_none rfl ?_
              have h32 : a.eval (.tmp 32) = .agg #[.int .i64 k, .int .i64 nb, .int .i64 r, .int .i64 e0, .int .i64 e1, .int .i64 e2] := ha.eval_got (j := 0) (by rw [← hops]; rfl) rfl (hall ⟨0, .data⟩ (by simp) rfl)
              have h4 : a.eval (.tmp 4) = .pointer (some ⟨w.heap.size, 0, none⟩) := by rw [ha.eval_old (noDst_spec (by rw [← hops]; kernel_rfl))]; simp [Act.eval, hA, hA4]
              have hr := hi.res
              rw [hu] at hr
              have c0 := blkCell hr; have f0 := blkFree hr
              refine opIn_skip (wideAt_round yl) (fun c h => by cases h) (W' := set6 Wy w.heap.size (.int .i64 k) (.int .i64 nb) (.int .i64 r) (.int .i64 e0) (.int .i64 e1) (.int .i64 e2)) ?_ ⟨rfl, hi.put10 (by rw [hs]; exact hlt) hu⟩
              simp only [execOp, h32, h4]; simp [go_sem, c0, f0]
            · refine step_none rfl ?_
              have h41 : a.eval (.tmp 41) = .bool false := ha.eval_got (j := 9) (by rw [← hops]; rfl) rfl (hall ⟨9, .data⟩ (by simp) rfl)
              have h5 : a.eval (.tmp 5) = .pointer (some ⟨w.heap.size + 1, 0, none⟩) := by rw [ha.eval_old (noDst_spec (by rw [← hops]; kernel_rfl))]; simp [Act.eval, hA, hA5]
              have c1 := blkCell hi.ok; have f1 := blkFree hi.ok
              refine opIn_skip (wideAt_round yl) (fun c h => by cases h) (W' := Wy.setCell ⟨w.heap.size + 1, 0, none⟩ (.bool false)) ?_ ⟨rfl, hi.put11 (by rw [hs]; exact hlt) hu⟩
              simp only [execOp, h41, h5]; simp [go_sem, c1, f1]
      | some q =>
        obtain ⟨qk, qb, qe⟩ := q
        have He := Lib.hid (show elemOf (ByteArray.mk xl.toArray).data.toList = _ from he); clear he
        gi_wp2_with (refine ⟨trivial, ?_⟩; gi_at_call 162; refine (CallsIn.inRound yl (callsIn_wide.2 (element_any _ _))).mono ?_; rintro e W1 ⟨⟨pk, pb, pe⟩, hp0, hp1, rfl, hb1⟩; (obtain rfl : pe = [] := hp0); (have hp2 := hp1 _ He.out); (simp only [Pd.mk.injEq] at hp2); (obtain ⟨h1, h2, h3⟩ := hp2); (have HP2 := Lib.hid (And.intro h1 (And.intro h2 h3))); (clear h1 h2 h3); rw [He.out]; (simp only [Pd.val, Option.isSome, List.length_nil, List.getD_nil]); (have hz2 : w.heap.size + 1 + 1 < W1.heap.size := blkLt (blkBelow Hout.out hb1)); (have hz1 : w.heap.size + 1 < W1.heap.size := Nat.lt_of_succ_lt hz2); (have hz0 : w.heap.size < W1.heap.size := Nat.lt_of_succ_lt hz1); (have c0 := blkCell (blkBelow HI.out.res hb1)); (have f0 := blkFree (blkBelow HI.out.res hb1)); (have c1 := blkCell (blkBelow HI.out.ok hb1)); (have f1 := blkFree (blkBelow HI.out.ok hb1)); (have c2 := blkCell (blkBelow Hout.out hb1)); (have f2 := blkFree (blkBelow Hout.out hb1)))
        all_goals
          refine wpIn_world (ShM w W k (if pk = 1 then 0 else pb) r e0 e1 e2) (by
            first
              | (have hpk1 : pk = 1 := by have hpk : ((pk : Int) == 1) = true := by assumption
                                          simp at hpk; omega
                 rw [if_pos hpk1]; exact shm_two HI.out hb1 Hout.out _ 0 _)
              | (have hpk1 : ¬ pk = 1 := by have hpk : ((pk : Int) == 1) = false := by assumption
                                            simp at hpk; omega
                 rw [if_neg hpk1]; exact shm_one HI.out hb1 Hout.out _ pb)) ?_
          intro Wx hM
          have c0 := blkCell hM.res; have f0 := blkFree hM.res
          have c1 := blkCell hM.ok; have f1 := blkFree hM.ok
          have c2 := blkCell hM.out; have f2 := blkFree hM.out
          have HM := Lib.hid hM
          clear hM hb1 hp1 hkp hz0 hz1 hz2
          refine wpIn_tmps (fun A => A.size = 65 ∧ (∀ h : 6 < A.size, A[6]'h = .pointer (some ⟨w.heap.size + 1 + 1, 0, none⟩)) ∧ (∀ h : 10 < A.size, A[10]'h = .bool true) ∧ (∀ h : 4 < A.size, A[4]'h = .pointer (some ⟨w.heap.size, 0, none⟩)) ∧ (∀ h : 5 < A.size, A[5]'h = .pointer (some ⟨w.heap.size + 1, 0, none⟩))) ⟨rfl, fun _ => rfl, fun _ => rfl, fun _ => rfl, fun _ => rfl⟩ ?_
          rintro A ⟨hA, hA6, hA10, hA4, hA5⟩
          generalize hops : (#[_, _, _, _, _, _, _, _, _, _, _, _] : Array Oper) = ops
          obtain ⟨nb, hnb⟩ : ∃ nb, nb = (if pk = 1 then 0 else pb) := ⟨_, rfl⟩
          have hM := HM.out
          obtain ⟨pr, hpr⟩ : ∃ pr, pr = prodW (([e0, e1, e2].map Int.ofNat).take r) := ⟨_, rfl⟩
          have HPR := Lib.hid hpr; clear hpr
          rw [← hnb] at hM
          refine wpIn_region_inv (fun i => match i with | 0 => .agg #[.int .i64 k, .int .i64 nb, .int .i64 r, .int .i64 e0, .int .i64 e1, .int .i64 e2] | 1 => .bool true | 2 => .bool true | 3 => .pointer (some ⟨w.heap.size + 1 + 1, 3, none⟩) | 4 => .pointer (some ⟨w.heap.size + 1 + 1, 2, none⟩) | 5 => .int .i64 r | 6 => .slice (some ⟨w.heap.size + 1 + 1, 3, none⟩) r 3 | 7 => .int .i64 pr | 8 => .bool (decide (pr ≤ 4096)) | 9 => .bool (decide (pr ≤ 4096)) | _ => undef)
            (fun listed Wx => RegI w W (.int .i64 k) (.int .i64 nb) (.int .i64 r) (.int .i64 e0) (.int .i64 e1) (.int .i64 e2) (decide (pr ≤ 4096)) (listed.getD 10 false) (listed.getD 11 false) Wx)
            (by kernel_rfl) (by rw [hA, ← hops]; kernel_rfl) (by rw [getD_replicate_false, getD_replicate_false]; exact ⟨hM.res, hM.ok, hM.out, hM.below.drew, hM.keep.trans (KeepsOthers.drew _)⟩) ?step ?fin
          case fin =>
            intro a Wz _ hz
            rw [show (Array.replicate ops.size true).getD 10 false = true by rw [← hops]; rfl, show (Array.replicate ops.size true).getD 11 false = true by rw [← hops]; rfl] at hz
            have HZ := Lib.hid hz; clear hz
            gi_wp2
            have hprod : decide (pr ≤ 4096) = decide (prodN ext ≤ 4096) := by
              obtain ⟨h1, h2, h3, h4⟩ := HE.out
              rw [HPR.out, h1, h2, h3, h4, prodW_ext ext HI.out.len HI.out.all]
              exact decide_eq_decide.2 (by omega)
            obtain ⟨g1, g2, g3⟩ := HP2.out
            have hsp : shapeOf k l = if prodN ext ≤ 4096 then some ⟨k, nb, ext⟩ else none := by
              rw [hlast.out, He.out, hnb, ← g1, ← g2]; rfl
            refine ⟨HZ.out.keep.from _, rfl, ⟨k, nb, ext⟩, (fun q hq => ?_), HI.out.len, ?_, ?_, HZ.out.below⟩
            · rw [hsp] at hq; split at hq
              · exact (Option.some.inj hq)
              · cases hq
            · obtain ⟨rfl, rfl, rfl, rfl⟩ := HE.out
              exact HZ.out.res
            · have hz := HZ.out.ok
              rw [hz, hprod, hsp]
              split <;> simp [*]
          case step =>
            clear c0 c1 c2 f0 f1 f2 hM HM
            intro i o listed a Wy ho hs hu hall ha hi hy hlt
            have hlt' : i < 12 := by rw [← hops] at hlt; exact hlt
            have h12 : i = 0 ∨ i = 1 ∨ i = 2 ∨ i = 3 ∨ i = 4 ∨ i = 5 ∨ i = 6 ∨ i = 7 ∨ i = 8 ∨ i = 9 ∨ i = 10 ∨ i = 11 := by omega
            rcases h12 with rfl | rfl | rfl | rfl | rfl | rfl | rfl | rfl | rfl | rfl | rfl | rfl
            all_goals (have ho' := ho; rw [← hops] at ho'; simp only [List.getElem?_toArray, List.getElem?_cons_zero, List.getElem?_cons_succ, Option.some.injEq] at ho'; subst ho')
            · refine step_none rfl ?_
              have h6 : a.eval (.tmp 6) = .pointer (some ⟨w.heap.size + 1 + 1, 0, none⟩) := by rw [ha.eval_old (noDst_spec (by rw [← hops]; kernel_rfl))]; simp [Act.eval, hA, hA6]
              refine opIn_value (wideAt_round yl) (fun c h => by cases h) (v := .agg #[.int .i64 k, .int .i64 nb, .int .i64 r, .int .i64 e0, .int .i64 e1, .int .i64 e2]) (W' := Wy) ?_ ⟨rfl, by simpa only [getD_set_ne false (show 0 ≠ 10 by decide), getD_set_ne false (show 0 ≠ 11 by decide)] using hi⟩
              have := run_loadVar_row (P := Tryz.prog) Wy _ _ 160 _ _ _ hi.out Tryz.underlying160 rfl (by kernel_rfl)
              simp only [execOp, h6, Instr.loadAt, Instr.sureAddr, Sem.run_bind, Sem.run_pure, Result.andThen_ok, this]
            · refine step_none rfl ?_
              have h10 : a.eval (.tmp 10) = .bool true := by rw [ha.eval_old (noDst_spec (by rw [← hops]; kernel_rfl))]; simp [Act.eval, hA, hA10]
              refine opIn_value (wideAt_round yl) (fun c h => by cases h) (v := .bool true) (W' := Wy) ?_ ⟨rfl, by simpa only [getD_set_ne false (show 1 ≠ 10 by decide), getD_set_ne false (show 1 ≠ 11 by decide)] using hi⟩
              simp only [execOp, h10, Sem.run_pure]
            · refine step_none rfl ?_
              have h33 : a.eval (.tmp 33) = .bool true := ha.eval_got (j := 1) (by rw [← hops]; rfl) rfl (hall ⟨1, .data⟩ (by simp) rfl)
              refine opIn_value (wideAt_round yl) (fun c h => by cases h) (v := .bool true) (W' := Wy) ?_ ⟨rfl, by simpa only [getD_set_ne false (show 2 ≠ 10 by decide), getD_set_ne false (show 2 ≠ 11 by decide)] using hi⟩
              simp only [execOp, h33, Sem.run_pure]
            · refine step_yes rfl (hy 2 (hall ⟨2, .guard⟩ (by simp) rfl) ⟨_, _, by rw [← hops]; rfl, rfl⟩) ?_
              have h6 : a.eval (.tmp 6) = .pointer (some ⟨w.heap.size + 1 + 1, 0, none⟩) := by rw [ha.eval_old (noDst_spec (by rw [← hops]; kernel_rfl))]; simp [Act.eval, hA, hA6]
              refine opIn_value (wideAt_round yl) (fun c h => by cases h) (v := .pointer (some ⟨w.heap.size + 1 + 1, 3, none⟩)) (W' := Wy) ?_ ⟨rfl, hi.other _ (by decide) (by decide)⟩
              simp only [execOp, h6]; simp [go_sem]
            · refine step_yes rfl (hy 2 (hall ⟨2, .guard⟩ (by simp) rfl) ⟨_, _, by rw [← hops]; rfl, rfl⟩) ?_
              have h6 : a.eval (.tmp 6) = .pointer (some ⟨w.heap.size + 1 + 1, 0, none⟩) := by rw [ha.eval_old (noDst_spec (by rw [← hops]; kernel_rfl))]; simp [Act.eval, hA, hA6]
              refine opIn_value (wideAt_round yl) (fun c h => by cases h) (v := .pointer (some ⟨w.heap.size + 1 + 1, 2, none⟩)) (W' := Wy) ?_ ⟨rfl, hi.other _ (by decide) (by decide)⟩
              simp only [execOp, h6]; simp [go_sem]
            · refine step_yes rfl (hy 2 (hall ⟨2, .guard⟩ (by simp) rfl) ⟨_, _, by rw [← hops]; rfl, rfl⟩) ?_
              have h36 : a.eval (.tmp 36) = .pointer (some ⟨w.heap.size + 1 + 1, 2, none⟩) := ha.eval_got (j := 4) (by rw [← hops]; rfl) rfl (hall ⟨4, .data⟩ (by simp) rfl)
              have c2 := blkCell hi.out
              refine opIn_value (wideAt_round yl) (fun c h => by cases h) (v := .int .i64 r) (W' := Wy) ?_ ⟨rfl, hi.other _ (by decide) (by decide)⟩
              simp only [execOp, h36]; simp [go_sem, c2]
            · refine step_yes rfl (hy 2 (hall ⟨2, .guard⟩ (by simp) rfl) ⟨_, _, by rw [← hops]; rfl, rfl⟩) ?_
              have h35 : a.eval (.tmp 35) = .pointer (some ⟨w.heap.size + 1 + 1, 3, none⟩) := ha.eval_got (j := 3) (by rw [← hops]; rfl) rfl (hall ⟨3, .data⟩ (by simp) rfl)
              have h37 : a.eval (.tmp 37) = .int .i64 r := ha.eval_got (j := 5) (by rw [← hops]; rfl) rfl (hall ⟨5, .data⟩ (by simp) rfl)
              refine opIn_value (wideAt_round yl) (fun c h => by cases h) (v := .slice (some ⟨w.heap.size + 1 + 1, 3, none⟩) r 3) (W' := Wy) ?_ ⟨rfl, hi.other _ (by decide) (by decide)⟩
              have hr3' : (r : Int) ≤ 3 := by omega
              simp only [execOp, h35, Option.map_some, Option.map_none, h37]; simp [go_sem, hr3', hr3]
            · refine step_yes rfl (hy 2 (hall ⟨2, .guard⟩ (by simp) rfl) ⟨_, _, by rw [← hops]; rfl, rfl⟩) ?_
              have h38 : a.eval (.tmp 38) = .slice (some ⟨w.heap.size + 1 + 1, 3, none⟩) r 3 := ha.eval_got (j := 6) (by rw [← hops]; rfl) rfl (hall ⟨6, .data⟩ (by simp) rfl)
              have c2 := blkCell hi.out
              refine opIn_call (wideAt_round yl) (fun c h => by cases h) (f := 171) (args := #[.slice (some ⟨w.heap.size + 1 + 1, 3, none⟩) r 3]) (W' := Wy) ?_ (product_any _ 3 r 3 ([e0, e1, e2].map Int.ofNat) Wy (by simpa using hr3) (by omega) ?_) ?_
              · simp only [Act.eval] at h38; simp at h38; simp only [execOp]; simp [go_sem, resolve, invoke, h38]
              · intro j hj
                have hj' : j = 0 ∨ j = 1 ∨ j = 2 := by simp at hj; omega
                rcases hj' with rfl | rfl | rfl <;> simp [c2]
              · rintro e Wz ⟨rfl, rfl⟩
                exact ⟨_, rfl, by show a.put _ _ = a.put _ (Value.int .i64 pr); rw [HPR.out], hi.other _ (by decide) (by decide)⟩
            · refine step_yes rfl (hy 2 (hall ⟨2, .guard⟩ (by simp) rfl) ⟨_, _, by rw [← hops]; rfl, rfl⟩) ?_
              have h39 : a.eval (.tmp 39) = .int .i64 pr := ha.eval_got (j := 7) (by rw [← hops]; rfl) rfl (hall ⟨7, .data⟩ (by simp) rfl)
              refine opIn_value (wideAt_round yl) (fun c h => by cases h) (v := .bool (decide (pr ≤ 4096))) (W' := Wy) ?_ ⟨rfl, hi.other _ (by decide) (by decide)⟩
              simp only [execOp, h39]; simp [go_sem]
            · refine step_none rfl ?_
              have h40 : a.eval (.tmp 40) = .bool (decide (pr ≤ 4096)) := ha.eval_got (j := 8) (by rw [← hops]; rfl) rfl (hall ⟨8, .data⟩ (by simp) rfl)
              have h34 : a.eval (.tmp 34) = .bool true := ha.eval_got (j := 2) (by rw [← hops]; rfl) rfl (hall ⟨2, .data⟩ (by simp) rfl)
              refine opIn_value (wideAt_round yl) (fun c h => by cases h) (v := .bool (decide (pr ≤ 4096))) (W' := Wy) ?_ ⟨rfl, hi.other _ (by decide) (by decide)⟩
              simp only [execOp, h34, h40]; simp [go_sem]
            · refine step_none rfl ?_
              have h32 : a.eval (.tmp 32) = .agg #[.int .i64 k, .int .i64 nb, .int .i64 r, .int .i64 e0, .int .i64 e1, .int .i64 e2] := ha.eval_got (j := 0) (by rw [← hops]; rfl) rfl (hall ⟨0, .data⟩ (by simp) rfl)
              have h4 : a.eval (.tmp 4) = .pointer (some ⟨w.heap.size, 0, none⟩) := by rw [ha.eval_old (noDst_spec (by rw [← hops]; kernel_rfl))]; simp [Act.eval, hA, hA4]
              have hr := hi.res
              rw [hu] at hr
              have c0 := blkCell hr; have f0 := blkFree hr
              refine opIn_skip (wideAt_round yl) (fun c h => by cases h) (W' := set6 Wy w.heap.size (.int .i64 k) (.int .i64 nb) (.int .i64 r) (.int .i64 e0) (.int .i64 e1) (.int .i64 e2)) ?_ ⟨rfl, hi.put10 (by rw [hs]; exact hlt) hu⟩
              simp only [execOp, h32, h4]; simp [go_sem, c0, f0]
            · refine step_none rfl ?_
              have h41 : a.eval (.tmp 41) = .bool (decide (pr ≤ 4096)) := ha.eval_got (j := 9) (by rw [← hops]; rfl) rfl (hall ⟨9, .data⟩ (by simp) rfl)
              have h5 : a.eval (.tmp 5) = .pointer (some ⟨w.heap.size + 1, 0, none⟩) := by rw [ha.eval_old (noDst_spec (by rw [← hops]; kernel_rfl))]; simp [Act.eval, hA, hA5]
              have c1 := blkCell hi.ok; have f1 := blkFree hi.ok
              refine opIn_skip (wideAt_round yl) (fun c h => by cases h) (W' := Wy.setCell ⟨w.heap.size + 1, 0, none⟩ (.bool (decide (pr ≤ 4096)))) ?_ ⟨rfl, hi.put11 (by rw [hs]; exact hlt) hu⟩
              simp only [execOp, h41, h5]; simp [go_sem, c1, f1]
  case done =>
    rintro D xs W _ rfl ⟨ext, hi⟩ _
    obtain ⟨x, hx, hx2⟩ := partsOf_end _ l (Nat.le_refl _)
    have := hi.mid x hx
    rw [hx2] at this; cases this
  case stop =>
    rintro D c pre W hD _ ⟨rfl, p, hx⟩ hK
    have hD' : w.heap.size + 1 + 1 + 1 < D := by simp at hD; omega
    have hx0 : (W.putObj D (.deferred none)).heap[w.heap.size]? = _ := (World.putObj_heap_other (by omega)).trans hx.res
    have hx1 : (W.putObj D (.deferred none)).heap[w.heap.size + 1]? = _ := (World.putObj_heap_other (by omega)).trans hx.ok
    have HX := Lib.hid hx
    have c0 := blkCell hx0
    have c1 := blkCell hx1
    have HK := Lib.hid hK
    have HB : Hid (Below w.heap.size w (W.putObj D (.deferred none))) := hx.below.grown (grownBy_putObj' W D _) hx.below.size (fun k e => by cases e; omega)
    clear hx hx0 hx1 hK
    gi_wp2
    refine ⟨by simp, .inl ⟨_, _, rfl, run_takeDeferred HK.out, ?_⟩⟩
    refine ⟨.tuple #[p.val, .bool (shapeOf k l).isSome], ?_, ⟨p, HX.out.spec, HX.out.len, rfl, HB⟩⟩
    simp [results, Tryz.results164, go_sem, c0, c1, pdCells, Pd.val]
end Go.Proofs.YtmepjbjmjbpchaaGreatDoor
end
