/- Texts of this claim, laid together: AqJ, Lwe0, AqK, Br0, Br1. -/
import Derived.IntWalk
import Derived.Test.YtmepjbjmjbpchaaGreatDoorMg15
import Derived.Test.YtmepjbjmjbpchaaGreatDoorMg20
import Derived.Test.YtmepjbjmjbpchaaGreatDoorMg23
import Derived.Test.YtmepjbjmjbpchaaGreatDoorMg25
import Derived.Test.YtmepjbjmjbpchaaGreatDoorMg26
section
/- attrs.Parse at any string. -/
namespace Go.Proofs.YtmepjbjmjbpchaaGreatDoor
open Go Go.RowKit Go.Sort
set_option linter.unusedVariables false
set_option linter.unusedSimpArgs false

set_option maxRecDepth 100000 in
set_option maxHeartbeats 4000000 in
theorem parse_empty (w : World) : Calls Tryz.prog 25 #[.string ⟨#[]⟩] w (PsPost (some []) w) := by
  go_enter Tryz.func25, Tryz.ntmps25
  go_wp2_with fail
  refine bodyPost_ret (v := .tuple #[.slice none 0 0, .int .i64 0]) (by simp [results, Tryz.results25, go_sem]) rfl ?_
  exact ⟨Below.refl _ _, _, [], rfl, AtrOwn.emp _ _, rfl⟩
set_option maxRecDepth 100000 in
set_option maxHeartbeats 4000000 in
theorem parse_one (s : ByteArray) (w : World) (h1 : s.size = 1) : Calls Tryz.prog 25 #[.string s] w (PsPost none w) := by
  have hne := not_empty (show 0 < s.size by omega)
  have h20 : ((s.size : Int) < 2) := by omega
  go_enter Tryz.func25, Tryz.ntmps25
  go_wp2_with fail
  refine bodyPost_ret (v := .tuple #[.slice none 0 0, .int .i64 70]) (by simp [results, Tryz.results25, go_sem]) rfl ?_
  exact ⟨by (repeat (first | (with_reducible refine below_set ?_ (by first | exact Nat.le_refl _ | omega) _ _) | with_reducible exact Below.refl _ _ | with_reducible refine belowA ?_ _ | with_reducible refine belowD ?_ | with_reducible refine belowN ?_ _)), rfl⟩
set_option maxRecDepth 100000 in
set_option maxHeartbeats 4000000 in
theorem parse_first (s : ByteArray) (w : World) (h2 : 2 ≤ s.size) (hs : s.size ≤ 140737488355328) (ha : (s[0]'(by omega)).toNat ≠ 123) : Calls Tryz.prog 25 #[.string s] w (PsPost none w) := by
  have hne := not_empty (show 0 < s.size by omega)
  have h20 : ¬ ((s.size : Int) < 2) := by omega
  have h21 : (2 : Int) ≤ (s.size : Int) := by omega
  have h23 : (0 : Int) < (s.size : Int) := by omega
  have ha1 : ¬ (((s[0]'(by omega)).toNat : Int) = 123) := by omega
  go_enter Tryz.func25, Tryz.ntmps25
  go_wp2_with fail
  refine bodyPost_ret (v := .tuple #[.slice none 0 0, .int .i64 70]) (by simp [results, Tryz.results25, go_sem]) rfl ?_
  exact ⟨by (repeat (first | (with_reducible refine below_set ?_ (by first | exact Nat.le_refl _ | omega) _ _) | with_reducible exact Below.refl _ _ | with_reducible refine belowA ?_ _ | with_reducible refine belowD ?_ | with_reducible refine belowN ?_ _)), rfl⟩
set_option maxRecDepth 100000 in
set_option maxHeartbeats 4000000 in
theorem parse_last (s : ByteArray) (w : World) (h2 : 2 ≤ s.size) (hs : s.size ≤ 140737488355328) (ha : (s[0]'(by omega)).toNat = 123) (hb : (s[s.size - 1]'(by omega)).toNat ≠ 125) : Calls Tryz.prog 25 #[.string s] w (PsPost none w) := by
  have hne := not_empty (show 0 < s.size by omega)
  have h1 : (1 : Int) ≤ (s.size : Int) := by omega
  have h20 : ¬ ((s.size : Int) < 2) := by omega
  have h21 : (2 : Int) ≤ (s.size : Int) := by omega
  have h22 : (1 : Int) ≤ (s.size : Int) - 1 := by omega
  have h23 : (0 : Int) < (s.size : Int) := by omega
  have hlast : ((s.size : Int) - 1).toNat = s.size - 1 := by omega
  have hb1 : ¬ (((s[s.size - 1]'(by omega)).toNat : Int) = 125) := by omega
  go_enter Tryz.func25, Tryz.ntmps25
  go_wp2_with fail
  refine bodyPost_ret (v := .tuple #[.slice none 0 0, .int .i64 70]) (by simp [results, Tryz.results25, go_sem]) rfl ?_
  exact ⟨by (repeat (first | (with_reducible refine below_set ?_ (by first | exact Nat.le_refl _ | omega) _ _) | with_reducible exact Below.refl _ _ | with_reducible refine belowA ?_ _ | with_reducible refine belowD ?_ | with_reducible refine belowN ?_ _)), rfl⟩
theorem pcs_size (s : ByteArray) : ∀ (n pos : Nat) (d : Int) (q : Bool) (f : Nat) (k : Bool), ∀ p ∈ pcs s n pos d q f k, p.size ≤ s.size
  | 0, _, _, _, f, _ => fun p hp => by
    unfold pcs at hp
    rw [List.mem_singleton.1 hp]
    first | (simp; done) | (simp; omega)
  | n + 1, pos, d, q, f, k => by
    have ih := pcs_size s n
    intro p hp
    unfold pcs at hp
    repeat' split at hp
    all_goals first
      | exact ih _ _ _ _ _ p hp
      | (rcases List.mem_cons.1 hp with rfl | hp
         · first | (simp; done) | (simp; omega)
         · exact ih _ _ _ _ _ p hp)
      | (rw [List.mem_singleton.1 hp]; first | (simp; done) | (simp; omega))
theorem cutL_le (p : ByteArray) : (nmOf p).size ≤ p.size ∧ (vlOf p).size ≤ p.size := by
  have h := Lib.trimPrefix_le p.data.toList [32]
  rw [list_size] at h
  have e : ∀ l : List UInt8, (Lib.cut l [32, 61, 32]).1.length ≤ l.length ∧ (Lib.cut l [32, 61, 32]).2.1.length ≤ l.length := by
    intro l
    unfold Lib.cut
    split
    · first | (simp; done) | (simp; omega)
    · simp
  obtain ⟨e1, e2⟩ := e (Lib.trimPrefix p.data.toList [32])
  unfold nmOf vlOf
  rw [← list_size, ← list_size]
  exact ⟨Nat.le_trans e1 h, Nat.le_trans e2 h⟩
/-- What Parse gives at any string. -/
theorem parse_any (s : ByteArray) (w : World) (hs : s.size ≤ 1099511627) (hg : GlobE w) :
    ∃ o : Option (List Dat), Calls Tryz.prog 25 #[.string s] w (PsPost o w) ∧ (∀ ds, o = some ds → CanL s ds) ∧ (∀ ds, CanL s ds → o = some ds) := by
  by_cases h0 : s.size = 0
  · have e : s = ⟨#[]⟩ := by
      refine bytes_inj (List.eq_nil_of_length_eq_zero ?_)
      rw [list_size, h0]
    subst e
    refine ⟨some [], parse_empty w, fun ds h => ?_, fun ds h => ?_⟩
    · cases h
      exact ⟨rfl, by simp, rfl⟩
    · obtain ⟨-, -, h⟩ := h
      cases ds with
      | nil => rfl
      | cons d ds => simp [listD] at h
  · have key : ∀ ds, CanL s ds → ∃ m, s.data.toList = 123 :: (m ++ [125]) := fun ds h => by
      obtain ⟨-, -, h⟩ := h
      unfold listD at h
      split at h
      · exfalso; apply h0; rw [← list_size, ← h]; rfl
      · exact ⟨_, h.symm⟩
    have no : (∀ m, s.data.toList ≠ 123 :: (m ++ [125])) → Calls Tryz.prog 25 #[.string s] w (PsPost none w) → ∃ o : Option (List Dat), Calls Tryz.prog 25 #[.string s] w (PsPost o w) ∧ (∀ ds, o = some ds → CanL s ds) ∧ (∀ ds, CanL s ds → o = some ds) := fun hm hc =>
      ⟨none, hc, (fun ds h => by cases h), (fun ds h => by obtain ⟨m, h⟩ := key ds h; exact absurd h (hm m))⟩
    by_cases h1 : s.size = 1
    · refine no (fun m h => ?_) (parse_one s w h1)
      have := congrArg List.length h
      rw [list_size, h1] at this
      simp at this
    · have h2 : 2 ≤ s.size := by omega
      by_cases ha : (s[0]'(by omega)).toNat = 123
      · by_cases hb : (s[s.size - 1]'(by omega)).toNat = 125
        · obtain ⟨F, hF⟩ := can_fun
          obtain ⟨p1, p2⟩ := parse_can F hF s h2
          refine ⟨_, parse_of (fun p => F (nmOf p) (vlOf p)) s w h2 hs ha hb hg.glob (fun p hp => ?_), p1, p2⟩
          have hz : p.size ≤ s.size := by
            have := pcs_size _ _ _ _ _ _ _ p hp
            refine Nat.le_trans this ?_
            first | (simp; done) | (simp; omega)
          refine ⟨by omega, fun W hW => ?_⟩
          obtain ⟨c1, c2⟩ := cutL_le p
          refine (readA_any F hF (nmOf p) (vlOf p) W (by omega) (by omega) (hg.below hW)).mono fun e w' h => ?_
          exact ⟨_, by split <;> decide, h⟩
        · refine no (fun m h => hb ?_) (parse_last s w h2 (by omega) ha hb)
          have hl := list_size s
          have h4 : s.data.toList[s.size - 1]? = some 125 := by
            rw [h] at hl
            rw [h, ← hl]
            simp
          rw [Array.getElem?_toList, Array.getElem?_eq_getElem (by show s.size - 1 < s.size; omega)] at h4
          have := Option.some.inj h4
          exact congrArg UInt8.toNat this
      · refine no (fun m h => ha ?_) (parse_first s w h2 (by omega) ha)
        have h4 : s.data.toList[0]? = some 123 := by rw [h]; rfl
        rw [Array.getElem?_toList, Array.getElem?_eq_getElem (by show 0 < s.size; omega)] at h4
        have := Option.some.inj h4
        exact congrArg UInt8.toNat this
end Go.Proofs.YtmepjbjmjbpchaaGreatDoor
end
section
/- AttrsEdits: merges that give the list back. -/
namespace Go.Proofs.YtmepjbjmjbpchaaGreatDoor
open Go Go.RowKit Go.Sort
set_option linter.unusedVariables false
set_option linter.unusedSimpArgs false

/-- A list that comes back with given data. -/
def LsPost (ds : List Dat) (w : World) (e : Ending) (w' : World) : Prop := ∃ sv cv n lv, e = .returned (.tuple #[.slice sv n cv, .int .i64 0]) ∧ n = lv.length ∧ n ≤ cv ∧ AtrSl w' sv lv ∧ lv.map Atr.dat = ds ∧ Below w.heap.size w w'
end Go.Proofs.YtmepjbjmjbpchaaGreatDoor
end
section
/- AttrsBack: what Parse, Print, Read and Value give, by the cases of the law. -/
namespace Go.Proofs.YtmepjbjmjbpchaaGreatDoor
open Go Go.RowKit Go.Sort
set_option linter.unusedVariables false
set_option linter.unusedSimpArgs false

theorem ps_ls {ds : List Dat} {w : World} {e : Ending} {w' : World} (h : PsPost (some ds) w e w') : LsPost ds w e w' := by
  obtain ⟨hb, v, lv, he, ho, hd⟩ := h
  obtain ⟨sv, cv, rfl, hnc, -⟩ := own_form ho.own
  exact ⟨sv, cv, lv.length, lv, he, rfl, hnc, ho.sl, hd, hb⟩
/-- Parse at a string that is a list's. -/
theorem parse_yes (s : ByteArray) (ds : List Dat) (hs : s.size ≤ 1099511627) (hc : CanL s ds) (W : World) (hg : GlobE W) : Calls Tryz.prog 25 #[.string s] W (LsPost ds W) := by
  obtain ⟨o, h1, h2, h3⟩ := parse_any s W hs hg
  rw [h3 ds hc] at h1
  exact h1.mono fun e w' h => ps_ls h
/-- Parse at a string that is no list's. -/
theorem parse_no (s : ByteArray) (hs : s.size ≤ 1099511627) (hc : ∀ ds, ¬ CanL s ds) (W : World) (hg : GlobE W) : Calls Tryz.prog 25 #[.string s] W fun e w' => e = .returned (.tuple #[.slice none 0 0, .int .i64 70]) ∧ Below W.heap.size W w' := by
  obtain ⟨o, h1, h2, h3⟩ := parse_any s W hs hg
  cases o with
  | some ds => exact absurd (h2 ds rfl) (hc ds)
  | none => exact h1.mono fun e w' h => ⟨h.2, h.1⟩
/-- A right list that lies in memory is the list with its string. -/
theorem can_list {l : List Atr} (h : rightL l = true) (hf : ∀ a ∈ l, a.Fits) {s : ByteArray} (hs : s.data.toList = listD (l.map Atr.dat)) : CanL s (l.map Atr.dat) := by
  refine ⟨by rw [← rightL_D]; exact h, fun d hd => ?_, hs.symm⟩
  obtain ⟨a, ha, rfl⟩ := List.mem_map.1 hd
  exact (hf a ha).inR
end Go.Proofs.YtmepjbjmjbpchaaGreatDoor
end
section
/- The reference's integer, Unquote and numbers in plain words. -/
namespace Go.Proofs.YtmepjbjmjbpchaaGreatDoor
open Go Go.RowKit
set_option linter.unusedVariables false
set_option linter.unusedSimpArgs false

def I64 (n : Int) : Prop := -9223372036854775808 ≤ n ∧ n ≤ 9223372036854775807
theorem wrap64_I64 (n : Int) : I64 (wrap64 n) := by unfold I64 wrap64; omega
def isDg (c : UInt8) : Bool := decide (48 ≤ c.toNat) && decide (c.toNat ≤ 57)
/-- One digit more, downwards. -/
def dgStep (n : Int) (c : UInt8) : Int := wrap64 (wrap64 (10 * n) - ((c.toNat : Int) - 48))
theorem dgStep_I64 (n : Int) (c : UInt8) : I64 (dgStep n c) := wrap64_I64 _
theorem num_mono : ∀ (l : List UInt8) (a : Nat), a ≤ numOfL a l
  | [], a => Nat.le_refl _
  | b :: l, a => Nat.le_trans (by omega) (num_mono l _)
theorem dg_fold : ∀ (l : List UInt8) (a : Nat), (∀ c ∈ l, 48 ≤ c.toNat ∧ c.toNat ≤ 57) → numOfL a l ≤ 9223372036854775808 → l.foldl dgStep (-(a : Int)) = -(numOfL a l : Int)
  | [], a, _, _ => rfl
  | c :: l, a, h, hm => by
    have hc := h c (List.mem_cons_self ..)
    have h1 : 10 * a + (c.toNat - 48) ≤ 9223372036854775808 := Nat.le_trans (num_mono l _) hm
    have h2 : dgStep (-(a : Int)) c = -((10 * a + (c.toNat - 48) : Nat) : Int) := by
      unfold dgStep
      rw [IntWalk.wrap64_in (10 * -(a : Int)) (by omega), IntWalk.wrap64_in _ (by omega)]
      omega
    show l.foldl dgStep (dgStep (-(a : Int)) c) = _
    rw [h2]
    exact dg_fold l _ (fun b hb => h b (List.mem_cons_of_mem _ hb)) hm
/-- What integer gives: a number, and whether it is written so. -/
def rintD (l : List UInt8) : List UInt8 := if l.head? = some 45 then l.tail else l
def rintN (l : List UInt8) : Int := if l.head? = some 45 then (rintD l).foldl dgStep 0 else wrap64 (-((rintD l).foldl dgStep 0))
def rintB (l : List UInt8) : Bool := decide (l ≠ []) && decide (l.length ≤ 20) && (rintD l).all isDg && decide (Lib.itoa (rintN l) = l)
theorem rintN_I64 (l : List UInt8) : I64 (rintN l) := by
  unfold rintN
  split
  · rcases hd : rintD l with _ | ⟨c, r⟩
    · exact ⟨by show (-9223372036854775808 : Int) ≤ 0; omega, by show (0 : Int) ≤ 9223372036854775807; omega⟩
    · have : ∀ (l : List UInt8) (n : Int), I64 n → I64 (l.foldl dgStep n) := by
        intro l
        induction l with
        | nil => intro n h; exact h
        | cons c l ih => intro n _; exact ih _ (dgStep_I64 n c)
      exact this _ _ ⟨by omega, by omega⟩
  · exact wrap64_I64 _
theorem itoa20 {v : Int} (h : I64 v) : (Lib.itoa v).length ≤ 20 := by
  unfold I64 at h
  unfold Lib.itoa
  split
  · have := digs_le 18 v.natAbs (by omega)
    rw [List.length_cons, Lib.decDigits_length]; omega
  · rw [Lib.decDigits_length]; exact digs_le 19 v.toNat (by omega)
theorem itoa_pos (v : Int) : Lib.itoa v ≠ [] := by
  obtain ⟨c, r, h, -⟩ := itoa_head v
  rw [h]; simp
theorem rint_itoa {v : Int} (h : I64 v) : rintB (Lib.itoa v) = true ∧ rintN (Lib.itoa v) = v := by
  have h20 := itoa20 h
  have hne := itoa_pos v
  have hr := h
  unfold I64 at hr
  have key : (rintD (Lib.itoa v)).all isDg = true ∧ rintN (Lib.itoa v) = v := by
    by_cases hn : v < 0
    · have e : Lib.itoa v = 45 :: Lib.decDigits v.natAbs := by unfold Lib.itoa; rw [if_pos hn]
      have hd : rintD (Lib.itoa v) = Lib.decDigits v.natAbs := by rw [e]; rfl
      refine ⟨?_, ?_⟩
      · rw [hd, List.all_eq_true]
        intro c hc
        have := dec_digit _ c hc
        simp [isDg, this]
      · unfold rintN
        rw [hd, if_pos (by rw [e]; rfl)]
        have := dg_fold (Lib.decDigits v.natAbs) 0 (dec_digit _) (by rw [numOfL_dec]; omega)
        rw [numOfL_dec] at this
        refine Eq.trans this ?_
        omega
    · have e : Lib.itoa v = Lib.decDigits v.toNat := by unfold Lib.itoa; rw [if_neg hn]
      have h45 : (Lib.itoa v).head? ≠ some 45 := by
        rw [e]
        intro h0
        cases hx : Lib.decDigits v.toNat with
        | nil => rw [hx] at h0; cases h0
        | cons c r =>
          rw [hx] at h0
          have hc := dec_digit v.toNat c (by rw [hx]; exact List.mem_cons_self ..)
          have : c = 45 := by simpa using h0
          subst this
          simp at hc
      have hd : rintD (Lib.itoa v) = Lib.decDigits v.toNat := by unfold rintD; rw [if_neg h45, e]
      refine ⟨?_, ?_⟩
      · rw [hd, List.all_eq_true]
        intro c hc
        have := dec_digit _ c hc
        simp [isDg, this]
      · unfold rintN
        rw [hd, if_neg h45]
        have := dg_fold (Lib.decDigits v.toNat) 0 (dec_digit _) (by rw [numOfL_dec]; omega)
        rw [numOfL_dec] at this
        have h2 : (Lib.decDigits v.toNat).foldl dgStep 0 = -((v.toNat : Nat) : Int) := this
        rw [h2, IntWalk.wrap64_in _ (by omega)]
        omega
  refine ⟨?_, key.2⟩
  unfold rintB
  rw [key.1, key.2]
  simp [hne, h20]
theorem rint_yes {l : List UInt8} (h : rintB l = true) : Lib.itoa (rintN l) = l := by
  unfold rintB at h
  simp only [Bool.and_eq_true, decide_eq_true_eq] at h
  exact h.2
/-- The number of a hexadecimal digit, or -1. -/
def nbI (c : UInt8) : Int := if 48 ≤ c.toNat ∧ c.toNat ≤ 57 then (c.toNat : Int) - 48 else if 97 ≤ c.toNat ∧ c.toNat ≤ 102 then (c.toNat : Int) - 87 else -1
theorem nib_range (c : UInt8) : -1 ≤ nbI c ∧ nbI c ≤ 15 := by
  unfold nbI
  split
  · omega
  · split <;> omega
theorem nib_hex {n : Nat} (h : n < 16) : nbI (hexOf n) = (n : Int) := by
  have : ∀ k : Fin 16, nbI (hexOf k.val) = (k.val : Int) := by decide +kernel
  exact this ⟨n, h⟩
theorem nib_div (c : UInt8) : nbI (hexOf (c.toNat / 16)) = ((c.toNat / 16 : Nat) : Int) ∧ nbI (hexOf (c.toNat % 16)) = ((c.toNat % 16 : Nat) : Int) := by
  have := c.toNat_lt
  exact ⟨nib_hex (by omega), nib_hex (by omega)⟩
/-- What stands at the head of an escaped text. -/
theorem esc_step {l t2 r : List UInt8} (h : l = escL t2 ++ 34 :: r) {c : UInt8} {rest : List UInt8} (hl : l = c :: rest) (hc : c ≠ 34) :
    ∃ x t3, t2 = x :: t3 ∧ ((c ≠ 92 ∧ x = c ∧ rest = escL t3 ++ 34 :: r) ∨ (c = 92 ∧ ∃ d rest2, rest = d :: rest2 ∧
      ((d = 110 ∧ x = 10 ∧ rest2 = escL t3 ++ 34 :: r) ∨ (d = 34 ∧ x = 34 ∧ rest2 = escL t3 ++ 34 :: r) ∨ (d = 92 ∧ x = 92 ∧ rest2 = escL t3 ++ 34 :: r) ∨
       (d = 120 ∧ ∃ a b, rest2 = a :: b :: (escL t3 ++ 34 :: r) ∧ nbI a = ((x.toNat / 16 : Nat) : Int) ∧ nbI b = ((x.toNat % 16 : Nat) : Int))))) := by
  cases t2 with
  | nil =>
    rw [hl] at h
    exact absurd (List.cons.inj h).1 hc
  | cons x t3 =>
    refine ⟨x, t3, rfl, ?_⟩
    have e : escL (x :: t3) = escOf x ++ escL t3 := rfl
    rw [hl, e] at h
    unfold escOf at h
    split at h
    · rename_i hx
      obtain ⟨h1, h2⟩ := List.cons.inj h
      exact .inr ⟨h1, 34, _, h2, .inr (.inl ⟨rfl, hx, rfl⟩)⟩
    · split at h
      · rename_i hx
        obtain ⟨h1, h2⟩ := List.cons.inj h
        exact .inr ⟨h1, 92, _, h2, .inr (.inr (.inl ⟨rfl, hx, rfl⟩))⟩
      · rename_i h92
        split at h
        · rename_i hx
          obtain ⟨h1, h2⟩ := List.cons.inj h
          exact .inr ⟨h1, 110, _, h2, .inl ⟨rfl, hx, rfl⟩⟩
        · split at h
          · obtain ⟨h1, h2⟩ := List.cons.inj h
            have := nib_div x
            exact .inr ⟨h1, 120, _, h2, .inr (.inr (.inr ⟨rfl, _, _, rfl, this.1, this.2⟩))⟩
          · obtain ⟨h1, h2⟩ := List.cons.inj h
            exact .inl ⟨by rw [h1]; exact h92, h1.symm, h2⟩
/-- The strings of numbers, each with a comma and a blank behind it. -/
def sepd (l : List Int) : List UInt8 := (l.map fun z => Lib.itoa z ++ [44, 32]).flatten
theorem sepd_snoc (l : List Int) (n : Int) : sepd (l ++ [n]) = sepd l ++ Lib.itoa n ++ [44, 32] := by simp [sepd]
def joinI (l : List Int) : List UInt8 := Lib.join ((l.map itoaB).map (·.data.toList)) [44, 32]
theorem joinI_eq (l : List Int) : joinI l = Lib.join (l.map Lib.itoa) [44, 32] := by
  unfold joinI
  congr 1
  simp [itoaB, Function.comp_def]
theorem joinI_one (n : Int) : joinI [n] = Lib.itoa n := by rw [joinI_eq]; exact Lib.join_one _ _
theorem joinI_cons (n m : Int) (l : List Int) : joinI (n :: m :: l) = Lib.itoa n ++ 44 :: 32 :: joinI (m :: l) := by
  rw [joinI_eq, joinI_eq, List.map_cons, Lib.join_cons, List.map_cons, Lib.join_cons]
  simp [Lib.joinTail]
theorem joinI_snoc : ∀ (l : List Int) (n : Int), joinI (l ++ [n]) = sepd l ++ Lib.itoa n
  | [], n => joinI_one n
  | [m], n => by
    show joinI (m :: n :: []) = _
    rw [joinI_cons, joinI_one]
    simp [sepd]
  | m :: k :: l, n => by
    have ih := joinI_snoc (k :: l) n
    show joinI (m :: k :: (l ++ [n])) = _
    rw [joinI_cons]
    have : k :: (l ++ [n]) = (k :: l) ++ [n] := rfl
    rw [this, ih]
    simp [sepd]
/-- What stands at the head of a list of numbers. -/
theorem joinI_head {n : Int} {l : List Int} {s : List UInt8} (h : s = joinI (n :: l)) :
    (l = [] ∧ cutOf 44 s = none ∧ s = Lib.itoa n) ∨ (∃ m l', l = m :: l' ∧ cutOf 44 s = some (Lib.itoa n, 32 :: joinI l)) := by
  cases l with
  | nil =>
    rw [joinI_one] at h
    refine .inl ⟨rfl, ?_, h⟩
    rw [cutOf_take s 44 s.length (fun x hx => by rw [List.take_length, h] at hx; intro e; subst e; exact itoa_no44 n hx) (by simp), if_neg (by omega)]
  | cons m l =>
    refine .inr ⟨m, l, rfl, ?_⟩
    rw [joinI_cons] at h
    have hk : s.take (Lib.itoa n).length = Lib.itoa n := by rw [h]; simp
    rw [cutOf_take s 44 (Lib.itoa n).length (fun x hx => by rw [hk] at hx; intro e; subst e; exact itoa_no44 n hx) (fun x hx => by rw [h] at hx; simpa using hx.symm), if_pos (by rw [h]; simp), hk]
    congr 2
    rw [h, ← List.drop_drop]
    simp
end Go.Proofs.YtmepjbjmjbpchaaGreatDoor
end
section
/- The reference's nibble and integer. -/
namespace Go.Proofs.YtmepjbjmjbpchaaGreatDoor
open Go Go.RowKit Go.Sort
set_option linter.unusedVariables false
set_option linter.unusedSimpArgs false

set_option maxRecDepth 100000 in
theorem rnib_any (c : UInt8) (w : World) : Calls Tryz.prog 76 #[.int .u8 (c.toNat : Int)] w fun e w' => e = .returned (.int .i64 (nbI c)) ∧ w = w' := by
  have hx := c.toNat_lt
  have hcs : (48 ≤ c.toNat ∧ c.toNat ≤ 57) ∨ (97 ≤ c.toNat ∧ c.toNat ≤ 102) ∨ c.toNat < 48 ∨ (57 < c.toNat ∧ c.toNat < 97) ∨ 102 < c.toNat := by omega
  rcases hcs with ⟨h1, h2⟩ | ⟨h1, h2⟩ | h1 | ⟨h1, h2⟩ | h1
  · have HE : Hid (nbI c = (c.toNat : Int) - 48) := Lib.hid (by unfold nbI; rw [if_pos ⟨h1, h2⟩])
    go_enter Tryz.func76, Tryz.ntmps76
    go_wp2_with fail
    go_ret
    exact ⟨by rw [HE.out]; rfl, rfl⟩
  · have HE : Hid (nbI c = (c.toNat : Int) - 87) := Lib.hid (by unfold nbI; rw [if_neg (by omega), if_pos ⟨h1, h2⟩])
    have h3 : ¬ ((c.toNat : Int) ≤ 57) := by omega
    go_enter Tryz.func76, Tryz.ntmps76
    go_wp2_with fail
    go_ret
    exact ⟨by rw [HE.out]; exact congrArg (fun z => Ending.returned (.int .i64 z)) (by omega), rfl⟩
  all_goals
    have HE : Hid (nbI c = -1) := Lib.hid (by unfold nbI; rw [if_neg (by omega), if_neg (by omega)])
    go_enter Tryz.func76, Tryz.ntmps76
    go_wp2_with fail
    go_ret
    exact ⟨by rw [HE.out]; rfl, rfl⟩
/-- What integer answers. -/
def RiPost (s : ByteArray) (w : World) (e : Ending) (w' : World) : Prop :=
  w = w' ∧ ∃ n : Int, e = .returned (.tuple #[.int .i64 n, .bool (rintB s.data.toList)]) ∧ I64 n ∧ (rintB s.data.toList = true → n = rintN s.data.toList)
theorem ri_no {s : ByteArray} {w : World} {e : Ending} {n : Int} (h : rintB s.data.toList = false) (hn : I64 n) (he : e = .returned (.tuple #[.int .i64 n, .bool false])) : RiPost s w e w :=
  ⟨rfl, n, by rw [he, h], hn, fun h2 => by rw [h] at h2; cases h2⟩
theorem I64_0 : I64 0 := ⟨by decide, by decide⟩
theorem rint_short {l : List UInt8} (h : l = [] ∨ 20 < l.length) : rintB l = false := by
  unfold rintB
  rcases h with h | h
  · simp [h]
  · have : decide (l.length ≤ 20) = false := by simp; omega
    rw [this]; simp
theorem rint_bad {l : List UInt8} (h : (rintD l).all isDg = false) : rintB l = false := by
  unfold rintB
  rw [h]; simp
/-- What integer has read at a place. -/
structure RiI (l : List UInt8) (f j : Nat) (n : Int) : Prop where
  dig : ((l.take j).drop f).all isDg = true
  num : n = ((l.take j).drop f).foldl dgStep 0
theorem take_drop_snoc {l : List UInt8} {f j : Nat} (hf : f ≤ j) {c : UInt8} (hc : l[j]? = some c) : (l.take (j + 1)).drop f = (l.take j).drop f ++ [c] := by
  obtain ⟨hj, rfl⟩ := List.getElem?_eq_some_iff.1 hc
  rw [List.take_succ_eq_append_getElem hj, List.drop_append_of_le_length (by rw [List.length_take]; omega)]
theorem RiI.step {l : List UInt8} {f j : Nat} {n : Int} (h : RiI l f j n) (hf : f ≤ j) {c : UInt8} (hc : l[j]? = some c) (hd : 48 ≤ c.toNat ∧ c.toNat ≤ 57) : RiI l f (j + 1) (dgStep n c) := by
  refine ⟨?_, ?_⟩
  · rw [take_drop_snoc hf hc, List.all_append, h.dig]
    simp [isDg, hd]
  · rw [take_drop_snoc hf hc, List.foldl_append, ← h.num]; rfl
theorem RiI.bad {l : List UInt8} {f j : Nat} (hf : f ≤ j) (hD : rintD l = l.drop f) {c : UInt8} (hc : l[j]? = some c) (hd : ¬ (48 ≤ c.toNat ∧ c.toNat ≤ 57)) : rintB l = false := by
  refine rint_bad ?_
  rw [hD, List.all_eq_false]
  refine ⟨c, ?_, by simp [isDg]; omega⟩
  rw [List.mem_iff_getElem?]
  exact ⟨j - f, by rw [List.getElem?_drop, show f + (j - f) = j by omega]; exact hc⟩
set_option maxRecDepth 100000 in
set_option maxHeartbeats 4000000 in
theorem rint_from1 (s : ByteArray) (w : World) (h0 : 0 < s.size) (h20 : s.size ≤ 20) (hh : (s[0]'h0).toNat = 45) : Calls Tryz.prog 49 #[.string s] w (RiPost s w) := by
  have hget0 := bytes_get s 0 h0
  have hhead : s.data.toList.head? = some (s[0]'h0) := by rw [List.head?_eq_getElem?]; exact hget0
  have h45 : s[0]'h0 = 45 := UInt8.toNat_inj.1 hh
  have hD : rintD s.data.toList = s.data.toList.drop 1 := by unfold rintD; rw [if_pos (by rw [hhead, h45]), List.drop_one]
  have hN : rintN s.data.toList = (s.data.toList.drop 1).foldl dgStep 0 := by unfold rintN; rw [if_pos (by rw [hhead, h45]), hD]
  have ht : (((s[0]'h0).toNat : Int) == 45) = true := by rw [hh]; rfl
  have HD := Lib.hid hD
  have HN := Lib.hid hN
  have hemp := not_empty (show 0 < s.size by omega)
  have h20i : (s.size : Int) ≤ 20 := by omega
  clear hget0 hhead h45 hD hN hh
  go_enter Tryz.func49, Tryz.ntmps49
  go_wp2_with fail
  go_loop [4, 6] (fun nv i => ∃ (j : Nat) (n : Int), i = .int .i64 j ∧ nv = .int .i64 n ∧ 1 ≤ j ∧ j ≤ s.size ∧ RiI s.data.toList 1 j n) (fun _ i => s.size - (intOf i).toNat)
  case atStart => exact ⟨1, 0, rfl, rfl, Nat.le_refl _, by omega, by simp, by simp⟩
  case round =>
    clear ht hemp
    obtain ⟨j, n, rfl, rfl, hfj, hj, hi⟩ := hrel
    have HI := Lib.hid hi
    clear hi
    rcases Nat.lt_or_ge j s.size with hlt | hge
    · have hget := Lib.hid (bytes_get s j hlt)
      have hx := (s[j]'hlt).toNat_lt
      by_cases hd : 48 ≤ (s[j]'hlt).toNat ∧ (s[j]'hlt).toNat ≤ 57
      · have HI2 := Lib.hid (HI.out.step hfj hget.out hd)
        obtain ⟨hd1, hd2⟩ := hd
        go_wp2_with fail
        go_round
        case rel => exact ⟨j + 1, _, by go_num, rfl, by omega, by omega, HI2.out⟩
        case measure => simp [intOf]; omega
      · have HB := Lib.hid (RiI.bad hfj HD.out hget.out hd)
        have hcs : (s[j]'hlt).toNat < 48 ∨ 57 < (s[j]'hlt).toNat := by omega
        clear hd
        rcases hcs with hc | hc
        all_goals
          go_wp2_with fail
          go_ret2
          exact ri_no HB.out I64_0 rfl
    · have hje : j = s.size := by omega
      subst hje
      have hall : ((rintD s.data.toList).all isDg) = true := by
        have := HI.out.dig
        rw [List.take_of_length_le (by simp)] at this
        rw [HD.out]; exact this
      have hnum : n = rintN s.data.toList := by
        rw [HN.out]
        have := HI.out.num
        rw [List.take_of_length_le (by simp)] at this
        exact this
      have hr : I64 n := by rw [hnum]; exact rintN_I64 _
      have HNUM := Lib.hid hnum
      have HR := Lib.hid hr
      have HALL := Lib.hid hall
      clear hnum hr hall
      go_wp2_with (go_at_call 60; refine (rdigits_any _ ?_ ?_ _).mono ?_; (focus (exact HR.out.1)); (focus (exact HR.out.2)); rintro e w' ⟨rfl, rfl⟩)
      go_ret2
      refine ⟨rfl, n, ?_, HR.out, fun _ => HNUM.out⟩
      have hb : ((itoaB n).toList == s.toList) = rintB s.data.toList := by
        unfold rintB
        rw [HALL.out, ← HNUM.out, Bool.eq_iff_iff]
        have h1 : s.data.toList ≠ [] := by intro h; have := congrArg List.length h; rw [list_size, List.length_nil] at this; omega
        have h2 : s.data.toList.length ≤ 20 := by simpa using h20
        rw [beq_iff_eq, toList_inj]
        simp only [Bool.and_eq_true, decide_eq_true_eq, and_true]
        constructor
        · intro h; exact ⟨⟨h1, h2⟩, by rw [← h]; rfl⟩
        · intro h; exact bytes_inj h.2
      rw [← hb]; rfl
set_option maxRecDepth 100000 in
set_option maxHeartbeats 4000000 in
theorem rint_from0 (s : ByteArray) (w : World) (h0 : 0 < s.size) (h20 : s.size ≤ 20) (hh : (s[0]'h0).toNat ≠ 45) : Calls Tryz.prog 49 #[.string s] w (RiPost s w) := by
  have hget0 := bytes_get s 0 h0
  have hhead : s.data.toList.head? = some (s[0]'h0) := by rw [List.head?_eq_getElem?]; exact hget0
  have h45 : ¬ s[0]'h0 = 45 := fun e => hh (by rw [e]; rfl)
  have hD : rintD s.data.toList = s.data.toList.drop 0 := by unfold rintD; rw [if_neg (by rw [hhead]; intro e; exact h45 (Option.some.inj e)), List.drop_zero]
  have hN : rintN s.data.toList = wrap64 (-((s.data.toList.drop 0).foldl dgStep 0)) := by unfold rintN; rw [if_neg (by rw [hhead]; intro e; exact h45 (Option.some.inj e)), hD]
  have ht : (((s[0]'h0).toNat : Int) == 45) = false := by rw [beq_eq_false_iff_ne]; omega
  have HD := Lib.hid hD
  have HN := Lib.hid hN
  have hemp := not_empty (show 0 < s.size by omega)
  have h20i : (s.size : Int) ≤ 20 := by omega
  clear hget0 hhead h45 hD hN hh
  go_enter Tryz.func49, Tryz.ntmps49
  go_wp2_with fail
  go_loop [4, 6] (fun nv i => ∃ (j : Nat) (n : Int), i = .int .i64 j ∧ nv = .int .i64 n ∧ 0 ≤ j ∧ j ≤ s.size ∧ RiI s.data.toList 0 j n) (fun _ i => s.size - (intOf i).toNat)
  case atStart => exact ⟨0, 0, rfl, rfl, Nat.le_refl _, by omega, by simp, by simp⟩
  case round =>
    clear ht hemp
    obtain ⟨j, n, rfl, rfl, hfj, hj, hi⟩ := hrel
    have HI := Lib.hid hi
    clear hi
    rcases Nat.lt_or_ge j s.size with hlt | hge
    · have hget := Lib.hid (bytes_get s j hlt)
      have hx := (s[j]'hlt).toNat_lt
      by_cases hd : 48 ≤ (s[j]'hlt).toNat ∧ (s[j]'hlt).toNat ≤ 57
      · have HI2 := Lib.hid (HI.out.step hfj hget.out hd)
        obtain ⟨hd1, hd2⟩ := hd
        go_wp2_with fail
        go_round
        case rel => exact ⟨j + 1, _, by go_num, rfl, by omega, by omega, HI2.out⟩
        case measure => simp [intOf]; omega
      · have HB := Lib.hid (RiI.bad hfj HD.out hget.out hd)
        have hcs : (s[j]'hlt).toNat < 48 ∨ 57 < (s[j]'hlt).toNat := by omega
        clear hd
        rcases hcs with hc | hc
        all_goals
          go_wp2_with fail
          go_ret2
          exact ri_no HB.out I64_0 rfl
    · have hje : j = s.size := by omega
      subst hje
      have hall : ((rintD s.data.toList).all isDg) = true := by
        have := HI.out.dig
        rw [List.take_of_length_le (by simp)] at this
        rw [HD.out]; exact this
      have hnum : wrap64 (-n) = rintN s.data.toList := by
        rw [HN.out]
        have := HI.out.num
        rw [List.take_of_length_le (by simp)] at this
        rw [this]
      have hr : I64 (wrap64 (-n)) := wrap64_I64 _
      have HNUM := Lib.hid hnum
      have HR := Lib.hid hr
      have HALL := Lib.hid hall
      clear hnum hr hall
      go_wp2_with (go_at_call 60; refine (rdigits_any _ ?_ ?_ _).mono ?_; (focus (exact HR.out.1)); (focus (exact HR.out.2)); rintro e w' ⟨rfl, rfl⟩)
      go_ret2
      refine ⟨rfl, (wrap64 (-n)), ?_, HR.out, fun _ => HNUM.out⟩
      have hb : ((itoaB (wrap64 (-n))).toList == s.toList) = rintB s.data.toList := by
        unfold rintB
        rw [HALL.out, ← HNUM.out, Bool.eq_iff_iff]
        have h1 : s.data.toList ≠ [] := by intro h; have := congrArg List.length h; rw [list_size, List.length_nil] at this; omega
        have h2 : s.data.toList.length ≤ 20 := by simpa using h20
        rw [beq_iff_eq, toList_inj]
        simp only [Bool.and_eq_true, decide_eq_true_eq, and_true]
        constructor
        · intro h; exact ⟨⟨h1, h2⟩, by rw [← h]; rfl⟩
        · intro h; exact bytes_inj h.2
      rw [← hb]; rfl

set_option maxRecDepth 100000 in
theorem rint_any (s : ByteArray) (w : World) (hs : s.size ≤ 9223372036854775807) : Calls Tryz.prog 49 #[.string s] w (RiPost s w) := by
  rcases Nat.eq_zero_or_pos s.size with h0 | h0
  · have HB := Lib.hid (rint_short (l := s.data.toList) (.inl (List.eq_nil_of_length_eq_zero (by simpa using h0))))
    have hs0 : s = ⟨#[]⟩ := by apply ByteArray.ext; exact Array.eq_empty_of_size_eq_zero h0
    subst hs0
    go_enter Tryz.func49, Tryz.ntmps49
    go_wp2_with fail
    go_ret2
    exact ri_no HB.out I64_0 rfl
  · rcases Nat.lt_or_ge 20 s.size with h20 | h20
    · have HB := Lib.hid (rint_short (l := s.data.toList) (.inr (by simpa using h20)))
      have hemp := not_empty (show 0 < s.size by omega)
      have h20i : (20 : Int) < (s.size : Int) := by omega
      go_enter Tryz.func49, Tryz.ntmps49
      go_wp2_with fail
      go_ret2
      exact ri_no HB.out I64_0 rfl
    · by_cases hh : (s[0]'h0).toNat = 45
      · exact rint_from1 s w h0 h20 hh
      · exact rint_from0 s w h0 h20 hh
end Go.Proofs.YtmepjbjmjbpchaaGreatDoor
end
