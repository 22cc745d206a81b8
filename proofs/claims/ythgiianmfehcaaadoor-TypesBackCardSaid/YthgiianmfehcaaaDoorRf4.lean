/- The reference of types: names, and two names with a point between. -/
import Derived.Test.YthgiianmfehcaaaDoorRf0
namespace Go.Proofs.YthgiianmfehcaaaDoor
open Go Go.RowKit Go.Sort
set_option linter.unusedVariables false
set_option linter.unusedSimpArgs false

theorem data_last {s : ByteArray} {i : Nat} (h : i < s.size) : s.data.toList[i]? = some (s[i]'h) := bytes_get s i h
theorem isWord_cases (c : UInt8) : isWord c = true ↔ (97 ≤ (c.toNat : Int) ∧ (c.toNat : Int) ≤ 122) ∨ (48 ≤ (c.toNat : Int) ∧ (c.toNat : Int) ≤ 57) ∨ (c.toNat : Int) = 95 := by
  simp [isWord, isLet]; omega
set_option maxHeartbeats 1000000 in
theorem risName_any (s : ByteArray) (w : World) :
    Calls Tryd.prog 79 #[.string s] w (BoolPost (nameOf s.data.toList) w) := by
  have hl : s.data.toList.length = s.size := by simp
  by_cases h0 : s.toList = []
  · have hf := Lib.hid (nameOf_empty (l := s.data.toList) (by rw [← toList_nil_iff]; exact h0))
    have h0' : s.toList.isEmpty = true := by rw [h0]; rfl
    clear h0 hl
    go_enter Tryd.func79, Tryd.ntmps79
    go_wp2_with fail
    all_goals (go_ret; exact ⟨by rw [hf.out]; rfl, rfl⟩)
  have h0' : s.toList.isEmpty = false := by rw [List.isEmpty_eq_false_iff]; exact h0
  have hpos : 0 < s.size := by
    rcases Nat.eq_zero_or_pos s.size with h | h
    · exact absurd ((toList_nil_iff s).2 (List.length_eq_zero_iff.1 (by omega))) h0
    · exact h
  rcases Nat.lt_or_ge 60 s.size with h60 | h60
  · have hf := Lib.hid (nameOf_long (l := s.data.toList) (by omega))
    clear h0 hl
    go_enter Tryd.func79, Tryd.ntmps79
    go_wp2_with fail
    all_goals (go_ret; exact ⟨by rw [hf.out]; rfl, rfl⟩)
  have hhd : s.data.toList.head? = some (s[0]'hpos) := by rw [List.head?_eq_getElem?]; exact bytes_get s 0 hpos
  have hcs : ((s[0]'hpos).toNat : Int) < 97 ∨ (97 ≤ ((s[0]'hpos).toNat : Int) ∧ 122 < ((s[0]'hpos).toNat : Int)) ∨ (97 ≤ ((s[0]'hpos).toNat : Int) ∧ ((s[0]'hpos).toNat : Int) ≤ 122) := by omega
  have hnl : (((s[0]'hpos).toNat : Int) < 97 ∨ 122 < ((s[0]'hpos).toNat : Int)) → nameOf s.data.toList = false := fun h => nameOf_first hhd (by simp [isLet]; omega)
  have hyl : (97 ≤ ((s[0]'hpos).toNat : Int) ∧ ((s[0]'hpos).toNat : Int) ≤ 122) → isLet (s[0]'hpos) = true := fun h => by simp [isLet]; omega
  have HNL := Lib.hid hnl
  have HYL := Lib.hid hyl
  have Hhd := Lib.hid hhd
  have hget0 := Lib.hid (bytes_get s 0 hpos)
  clear h0 hl hhd hnl hyl
  rcases hcs with h | ⟨h, h'⟩ | ⟨h, h'⟩
  · go_enter Tryd.func79, Tryd.ntmps79
    go_wp2_with fail
    all_goals (go_ret; exact ⟨by rw [HNL.out (.inl h)]; rfl, rfl⟩)
  · go_enter Tryd.func79, Tryd.ntmps79
    go_wp2_with fail
    all_goals (go_ret; exact ⟨by rw [HNL.out (.inr h')]; rfl, rfl⟩)
  · have hlet := Lib.hid (HYL.out ⟨h, h'⟩)
    go_enter Tryd.func79, Tryd.ntmps79
    go_wp2_with fail
    go_loop [3] (fun i => ∃ k : Nat, 1 ≤ k ∧ k ≤ s.size ∧ i = .int .i64 k ∧ (s.data.toList.take k).all isWord = true) (fun i => s.size - (intOf i).toNat)
    case atStart => exact ⟨1, Nat.le_refl _, hpos, rfl, by rw [show (1 : Nat) = 0 + 1 from rfl, take_word hget0.out]; simp [isWord, hlet.out]⟩
    case round =>
      obtain ⟨k, hk1, hk, rfl, hall⟩ := hrel
      have Hall := Lib.hid hall; clear hall
      rcases Nat.lt_or_ge k s.size with hlt | hge
      · have hget := Lib.hid (bytes_get s k hlt)
        have hw := Lib.hid (isWord_cases (s[k]'hlt))
        go_wp2_with fail
        all_goals (try simp only [Bool.not_eq_eq_eq_not, Bool.not_true, Bool.not_false, decide_eq_true_eq, decide_eq_false_iff_not, bne_iff_ne, bne_eq_false_iff_eq, beq_iff_eq, beq_eq_false_iff_ne] at *)
        all_goals first
          | (go_ret
             have hno : isWord (s[k]'hlt) = false := by
               rw [Bool.eq_false_iff]; intro he; have := hw.out.1 he; omega
             exact ⟨by rw [nameOf_bad hget.out hno]; rfl, rfl⟩)
          | (go_round
             case rel => exact ⟨k + 1, by omega, by omega, by go_num, by rw [take_word hget.out, Hall.out, hw.out.2 (by omega)]; rfl⟩
             case measure => simp [intOf]; omega)
      · go_wp2_with fail
        all_goals
          (go_ret
           exact ⟨by
            have h1 : nameOf s.data.toList = true := by
              have := Hall.out
              rw [List.take_of_length_le (by simp; omega)] at this
              have h60' : s.data.toList.length ≤ 60 := by simpa using h60
              simp [nameOf, this, Hhd.out, hlet.out]
              constructor
              · intro hn; rw [hn] at Hhd; have := Hhd.out; simp at this
              · simpa using h60'
            rw [h1]; rfl, rfl⟩)

/-- `IsPair`. -/
def pairOf (l : List UInt8) (most : Nat) : Bool :=
  decide (l.length ≤ most) && match cutOf 46 l with
  | some (x, y) => nameOf x && nameOf y
  | none => false
theorem cutOf_take : ∀ (l : List UInt8) (c : UInt8) (k : Nat), (∀ x ∈ l.take k, x ≠ c) → (∀ x, l[k]? = some x → x = c) → cutOf c l = if k < l.length then some (l.take k, l.drop (k + 1)) else none
  | [], c, k, _, _ => by simp [cutOf]
  | b :: l, c, 0, _, h => by
    have := h b (by simp)
    simp [cutOf, this]
  | b :: l, c, k + 1, h1, h2 => by
    have hb : b ≠ c := h1 b (by simp)
    have ih := cutOf_take l c k (fun x hx => h1 x (by simp [hx])) (fun x hx => h2 x (by simpa using hx))
    simp only [cutOf, if_neg hb, ih, List.length_cons, Nat.add_lt_add_iff_right]
    split <;> simp
theorem pair_found {l : List UInt8} {k most : Nat} (h1 : ∀ x ∈ l.take k, x ≠ 46) (h2 : l[k]? = some 46) (hm : l.length ≤ most) : pairOf l most = (nameOf (l.take k) && nameOf (l.drop (k + 1))) := by
  have hk : k < l.length := by
    rcases Nat.lt_or_ge k l.length with h | h
    · exact h
    · rw [List.getElem?_eq_none h] at h2; cases h2
  rw [pairOf, cutOf_take l 46 k h1 (fun x hx => by rw [h2] at hx; exact (Option.some.inj hx).symm), if_pos hk]
  simp [hm]
theorem pair_none {l : List UInt8} {most : Nat} (h1 : ∀ x ∈ l, x ≠ 46) : pairOf l most = false := by
  rw [pairOf, cutOf_take l 46 l.length (by simpa using h1) (by simp), if_neg (Nat.lt_irrefl _)]
  simp
theorem take_ne {l : List UInt8} {k : Nat} {c d : UInt8} (h : ∀ x ∈ l.take k, x ≠ d) (hk : l[k]? = some c) (hc : c ≠ d) : ∀ x ∈ l.take (k + 1), x ≠ d := by
  intro x hx
  rw [List.take_add_one, hk] at hx
  simp at hx
  rcases hx with hx | rfl
  · exact h x hx
  · exact hc
theorem byte_ne {c : UInt8} (n : Nat) (hn : n < 256) (h : ¬ (c.toNat : Int) = (n : Int)) : c ≠ UInt8.ofNat n := by
  intro he; apply h; rw [he, UInt8.toNat_ofNat']; omega
theorem byte_eq {c : UInt8} (n : Nat) (hn : n < 256) (h : (c.toNat : Int) = (n : Int)) : c = UInt8.ofNat n := by
  apply UInt8.toNat_inj.1; rw [UInt8.toNat_ofNat']; omega

set_option maxHeartbeats 1000000 in
theorem risPair_any (s : ByteArray) (m : Nat) (hm : m ≤ 1000) (w : World) :
    Calls Tryd.prog 57 #[.string s, .int .i64 m] w (BoolPost (pairOf s.data.toList m) w) := by
  have hl : s.data.toList.length = s.size := by simp
  rcases Nat.lt_or_ge m s.size with hlt | hge
  · have hf : pairOf s.data.toList m = false := by simp [pairOf]; intro h; omega
    have HF := Lib.hid hf
    have hpos : (0 : Int) < (s.size : Int) := by omega
    clear hf hl
    go_enter Tryd.func57, Tryd.ntmps57
    go_wp2_with fail
    go_loop [5] (fun i => i = .int .i64 0) (fun i => 0)
    case atStart => rfl
    case round =>
      subst hrel
      go_wp2_with fail
      all_goals (go_ret; exact ⟨by rw [HF.out]; rfl, rfl⟩)
  · have hsz : s.size ≤ 1000 := by omega
    have HL := Lib.hid hl
    clear hl
    go_enter Tryd.func57, Tryd.ntmps57
    go_wp2_with fail
    go_loop [5] (fun i => ∃ k : Nat, k ≤ s.size ∧ i = .int .i64 k ∧ ∀ x ∈ s.data.toList.take k, x ≠ 46) (fun i => s.size - (intOf i).toNat)
    case atStart => exact ⟨0, Nat.zero_le _, rfl, by simp⟩
    case round =>
      obtain ⟨k, hk, rfl, hall⟩ := hrel
      have Hall := Lib.hid hall; clear hall
      rcases Nat.lt_or_ge k s.size with hlt | hge2
      · have hget := Lib.hid (bytes_get s k hlt)
        by_cases hc : ((s[k]'hlt).toNat : Int) = 46
        · have hp : pairOf s.data.toList m = (nameOf (s.extract 0 k).data.toList && nameOf (s.extract (k + 1) s.size).data.toList) := by
            rw [pair_found (k := k) Hall.out (by rw [hget.out, byte_eq 46 (by omega) hc]; rfl) (by rw [HL.out]; omega)]
            congr 2
            · simp [ByteArray.data_extract]
            · simp [ByteArray.data_extract]
              exact (List.take_of_length_le (by simp)).symm
          have HP := Lib.hid hp
          have hb : (((s[k]'hlt).toNat : Int) == 46) = true := by rw [hc]; rfl
          have hk1 : wrap64 ((k : Int) + 1) = (k : Int) + 1 := by unfold wrap64; omega
          have hk2 : (k : Int) + 1 ≤ (s.size : Int) := by omega
          clear hp hc
          cases hn1 : nameOf (s.extract 0 k).data.toList
          · have HN1 := Lib.hid hn1
            clear hn1
            go_wp2_with (go_at_call 79; refine (risName_any _ _).mono ?_; rintro e w1 ⟨rfl, rfl⟩; rw [HN1.out])
            go_ret
            exact ⟨by rw [HP.out, HN1.out]; rfl, rfl⟩
          · have HN1 := Lib.hid hn1
            clear hn1
            go_wp2_with fail
            refine (risName_any _ _).mono ?_
            rintro e w1 ⟨rfl, rfl⟩
            rw [HN1.out]
            obtain ⟨b2, hb2⟩ : ∃ b, nameOf (s.extract (k + 1) s.size).data.toList = b := ⟨_, rfl⟩
            have HB2 := Lib.hid hb2
            clear hb2
            go_wp2_with fail
            refine (risName_any _ _).mono ?_
            rintro e w1 ⟨rfl, rfl⟩
            rw [HB2.out]
            go_wp2_with fail
            go_ret
            exact ⟨by rw [HP.out, HN1.out, HB2.out]; simp, rfl⟩
        · have hb : (((s[k]'hlt).toNat : Int) == 46) = false := by rw [beq_eq_false_iff_ne]; exact hc
          have hne := Lib.hid (byte_ne (c := s[k]'hlt) 46 (by omega) hc)
          clear hc
          go_wp2_with fail
          go_round
          case rel => exact ⟨k + 1, by omega, by go_num, take_ne Hall.out hget.out hne.out⟩
          case measure => simp [intOf]; omega
      · have hn : pairOf s.data.toList m = false := pair_none (by have := Hall.out; rw [List.take_of_length_le (by simp; omega)] at this; exact this)
        have HN := Lib.hid hn
        clear hn
        go_wp2_with fail
        all_goals (go_ret; exact ⟨by rw [HN.out]; rfl, rfl⟩)
end Go.Proofs.YthgiianmfehcaaaDoor
