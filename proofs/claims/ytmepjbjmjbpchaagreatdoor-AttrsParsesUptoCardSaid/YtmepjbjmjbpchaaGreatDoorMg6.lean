/- Texts of this claim, laid together: Rf5, Rf6, Rf7, Rf8. -/
import Derived.Test.YtmepjbjmjbpchaaGreatDoorMg5
section
/- Plain laws of the reference of types: a number's string is the only one; what stands behind the extents. -/
namespace Go.Proofs.YtmepjbjmjbpchaaGreatDoor
open Go
set_option linter.unusedVariables false
set_option linter.unusedSimpArgs false

theorem decDigits_snoc {n d : Nat} (hn : 1 ≤ n) (hd : d < 10) : Lib.decDigits (10 * n + d) = Lib.decDigits n ++ [UInt8.ofNat (48 + d)] := by
  rw [Lib.decDigits, dif_neg (by omega)]
  rw [show (10 * n + d) / 10 = n by omega, show (10 * n + d) % 10 = d by omega]
theorem digit_back {c : UInt8} (h : 48 ≤ c.toNat) : UInt8.ofNat (48 + (c.toNat - 48)) = c := by
  apply UInt8.toNat_inj.1
  rw [UInt8.toNat_ofNat']
  have := c.toNat_lt
  omega
theorem numFrom_digits : ∀ (l : List UInt8) (n N : Nat), 1 ≤ n → numFrom l n = some N → Lib.decDigits N = Lib.decDigits n ++ l
  | [], n, N, _, h => by simp [numFrom] at h; simp [h]
  | c :: l, n, N, hn, h => by
    simp only [numFrom] at h
    split at h
    · rename_i hc
      rw [numFrom_digits l _ N (by omega) h, decDigits_snoc hn (by omega), digit_back hc.1, List.append_assoc]
      rfl
    · cases h
theorem numOf_digits {l : List UInt8} {N : Nat} (h : numOf l = some N) : l = Lib.decDigits N := by
  unfold numOf at h
  split at h
  · cases h
  · rename_i hc
    match l, hc, h with
    | [], hc, h => exact absurd (.inl rfl) hc
    | c :: l, hc, h =>
      simp only [numFrom] at h
      split at h
      · rename_i hr
        by_cases h48 : c = 48
        · have hl : l = [] := by
            by_cases hl : l = []
            · exact hl
            · exfalso; apply hc; right; right
              have : 0 < l.length := List.length_pos_iff.2 hl
              exact ⟨by simp; omega, by simp [h48]⟩
          subst hl
          subst h48
          simp [numFrom] at h
          subst h
          rw [Lib.decDigits_one (by decide)]
          rfl
        · have hne : c.toNat ≠ 48 := fun he => h48 (UInt8.toNat_inj.1 (by simpa using he))
          have := numFrom_digits l _ N (by omega) h
          rw [this, Lib.decDigits_one (by omega)]
          rw [show 10 * 0 + (c.toNat - 48) = c.toNat - 48 by omega, digit_back hr.1]
          rfl
      · cases h
theorem elemOf_str {l : List UInt8} {q : Pd} (h : elemOf l = some q) : l = elStr (if q.kind = 1 then 0 else q.bits) := by
  unfold elemOf at h
  split at h
  · rename_i hi; cases h; simpa [elStr] using hi
  · split at h
    · rename_i hp
      split at h
      · rename_i n hn
        split at h
        · rename_i hb
          cases h
          have := numOf_digits hn
          match l, hp with
          | [], hp => simp [Lib.hasPrefix, List.isPrefixOf] at hp
          | c :: l, hp =>
            simp [Lib.hasPrefix, List.isPrefixOf] at hp
            subst hp
            rw [elStr]
            simp at this ⊢
            rw [if_neg (by omega), this]
        · cases h
      · cases h
    · cases h
theorem numFrom_all : ∀ (l : List UInt8) (n N : Nat), numFrom l n = some N → ∀ c ∈ l, 48 ≤ c.toNat ∧ c.toNat ≤ 57
  | [], n, N, h => by simp
  | c :: l, n, N, h => by
    simp only [numFrom] at h
    split at h
    · rename_i hc
      intro x hx
      rcases List.mem_cons.1 hx with rfl | hx
      · exact hc
      · exact numFrom_all l _ N h x hx
    · cases h
theorem numOf_all {l : List UInt8} {N : Nat} (h : numOf l = some N) : ∀ c ∈ l, 48 ≤ c.toNat ∧ c.toNat ≤ 57 := by
  unfold numOf at h
  split at h
  · cases h
  · exact numFrom_all _ _ _ h
def isDig : List UInt8 → Bool
  | c :: _ => decide (48 ≤ c.toNat ∧ c.toNat ≤ 57)
  | [] => false
/-- What the reference reads of a type with cells: its extents, and what stands behind them. -/
def rshape (ext : List Nat) (l : List UInt8) : Option (List Nat × List UInt8) :=
  if isDig l then match h : cutOf 120 l with
    | none => none
    | some (x, y) => match numOf x with
      | some n => if n ≤ 1000 ∧ ext.length < 3 then rshape (ext ++ [n]) y else none
      | none => none
  else some (ext, l)
termination_by l.length
decreasing_by have := cutOf_len h; omega
theorem rshape_end {ext : List Nat} {l : List UInt8} (h : isDig l = false) : rshape ext l = some (ext, l) := by
  unfold rshape; simp [h]
theorem rshape_none {ext : List Nat} {l : List UInt8} (h : isDig l = true) (hc : cutOf 120 l = none) : rshape ext l = none := by
  unfold rshape; rw [if_pos h]
  split
  · rfl
  · rename_i h'; rw [hc] at h'; cases h'
theorem rshape_more {ext : List Nat} {l x y : List UInt8} (h : isDig l = true) (hc : cutOf 120 l = some (x, y)) :
    rshape ext l = match numOf x with | some n => if n ≤ 1000 ∧ ext.length < 3 then rshape (ext ++ [n]) y else none | none => none := by
  rw [rshape, if_pos h]
  split
  · rename_i h'; rw [hc] at h'; cases h'
  · rename_i h'; rw [hc] at h'; cases h'; rfl
def restOf (r : List Nat × List UInt8) : Option (List Nat × Nat) :=
  match elemOf r.2 with
  | some e => if prodN r.1 ≤ 4096 then some (r.1, if e.kind = 1 then 0 else e.bits) else none
  | none => none
theorem elemOf_dig {l : List UInt8} (h : isDig l = true) : elemOf l = none := by
  match l, h with
  | c :: l, h =>
    have hc : c ≠ 105 := by
      intro he; subst he
      simp [isDig] at h
    unfold elemOf
    rw [if_neg (by intro he; cases he; exact hc rfl), if_neg]
    simp [Lib.hasPrefix, List.isPrefixOf, Ne.symm hc]
theorem elemOf_noX {l : List UInt8} (h : l ≠ [105, 110, 100, 101, 120]) (hx : (120 : UInt8) ∈ l) : elemOf l = none := by
  unfold elemOf
  rw [if_neg h]
  split
  · rename_i hp
    match l, hp with
    | [], hp => simp [Lib.hasPrefix, List.isPrefixOf] at hp
    | c :: l, hp =>
      simp [Lib.hasPrefix, List.isPrefixOf] at hp
      subst hp
      split
      · rename_i n hn
        exfalso
        have : (120 : UInt8) ∈ l := by simpa using hx
        have := numOf_all (l := l) (by simpa using hn) 120 this
        exact absurd this.2 (by decide)
      · rfl
  · rfl
theorem numOf_head {x : List UInt8} {c : UInt8} {l : List UInt8} {N : Nat} (h : numOf x = some N) (hx : x = c :: l) : 48 ≤ c.toNat ∧ c.toNat ≤ 57 := numOf_all h c (by simp [hx])
theorem rshape_eq : ∀ (m : Nat) (l : List UInt8) (ext : List Nat), l.length ≤ m → shapeP ext (partsOf l) = (rshape ext l).bind restOf := by
  intro m
  induction m with
  | zero =>
    intro l ext hl
    have : l = [] := List.length_eq_zero_iff.1 (by omega)
    subst this
    rw [partsOf_last (.inr rfl), rshape_end rfl]
    rfl
  | succ m ih =>
    intro l ext hl
    by_cases hi : l = [105, 110, 100, 101, 120]
    · rw [partsOf_last (.inl hi), rshape_end (by rw [hi]; rfl)]
      rfl
    · cases hc : cutOf 120 l with
      | none =>
        rw [partsOf_last (.inr hc)]
        cases hd : isDig l
        · rw [rshape_end hd]; rfl
        · rw [rshape_none hd hc]
          simp only [shapeP, elemOf_dig hd]
          rfl
      | some p =>
        obtain ⟨x, y⟩ := p
        have hlen := cutOf_len hc
        obtain ⟨-, hxy, hnx⟩ := cutOf_some _ _ _ _ hc
        rw [partsOf_more hi hc]
        cases hd : isDig l
        · rw [rshape_end hd]
          have he : elemOf l = none := elemOf_noX hi (by rw [hxy]; simp)
          have hn : numOf x = none := by
            cases hn : numOf x with
            | none => rfl
            | some n =>
              exfalso
              match x, hxy, hn with
              | [], hxy, hn => simp [numOf] at hn
              | c :: x, hxy, hn =>
                have := numOf_head hn rfl
                rw [hxy] at hd
                simp [isDig] at hd
                omega
          simp only [shapeP, hn, Option.bind_some, restOf, he]
        · rw [rshape_more hd hc]
          cases hn : numOf x with
          | none => simp only [shapeP, hn]; rfl
          | some n =>
            simp only [shapeP, hn]
            by_cases hc2 : n ≤ 1000 ∧ ext.length < 3
            · rw [if_pos hc2, if_pos hc2]; exact ih y _ (by omega)
            · rw [if_neg hc2, if_neg hc2]; rfl
end Go.Proofs.YtmepjbjmjbpchaaGreatDoor
end
section
/- The reference of types: Read, where the string is no type with cells. -/
namespace Go.Proofs.YtmepjbjmjbpchaaGreatDoor
open Go Go.RowKit Go.Sort
set_option linter.unusedVariables false
set_option linter.unusedSimpArgs false

theorem numT_some {s : ByteArray} {q : Pd} (h : elemOf s.data.toList = some q) (w : World) :
    Calls Tryz.prog 86 #[.string s] w fun e w' => e = .returned (.tuple #[.int .i64 q.bits, .bool (q.kind == 1), .bool true]) ∧ w = w' :=
  (numT_any s w).mono fun e w' ⟨hw, he⟩ => ⟨by rw [h] at he; exact he, hw⟩
theorem numT_none {s : ByteArray} (h : elemOf s.data.toList = none) (w : World) :
    Calls Tryz.prog 86 #[.string s] w fun e w' => (∃ v : Int, e = .returned (.tuple #[.int .i64 v, .bool false, .bool false])) ∧ w = w' :=
  (numT_any s w).mono fun e w' ⟨hw, he⟩ => ⟨by rw [h] at he; exact he, hw⟩

/-- A value of the reference's T. -/
abbrev tv (k b : Int) (v : Value) (el : ByteArray) : Value := .agg #[.int .i64 k, .int .i64 b, v, .string el]
abbrev tCells (k b : Int) (v : Value) (el : ByteArray) : Array Value := #[.int .i64 k, .int .i64 b, v, .string el]
def elT (q : Pd) : List UInt8 := if q.kind = 2 ∨ q.kind = 3 then elStr q.bits else []
def bitsT (q : Pd) : Nat := if q.kind ≤ 1 then q.bits else 0
theorem own_slice {W : World} {base : Nat} {e : TypeId} {v : Value} {n : Nat} {xs : List Value} (h : W.ownsRow base e 1 v n xs) : ∃ sa sc, v = .slice sa n sc := by
  rcases h.2 with ⟨h1, h2⟩ | ⟨g, c, cur, h1, -⟩
  · exact ⟨none, 0, by rw [h1, h2]⟩
  · exact ⟨_, _, h1⟩
def RReadPost (l : List UInt8) (w : World) (e : Ending) (w' : World) : Prop :=
  Below w.heap.size w w' ∧ match readOf l with
  | some q => ∃ sa sc, e = .returned (.tuple #[tv q.kind (bitsT q) (.slice sa q.ext.length sc) ⟨(elT q).toArray⟩, .bool true]) ∧ w'.ownsRow w.heap.size 3 1 (.slice sa q.ext.length sc) q.ext.length (q.ext.map (fun (n : Nat) => Value.int .i64 n))
  | none => ∃ k b el, e = .returned (.tuple #[tv k b (.slice none 0 0) el, .bool false])
theorem rread_yes {l : List UInt8} {q : Pd} {w w' : World} {e : Ending} (h : readOf l = some q) (v : Value) (he : e = .returned (.tuple #[tv q.kind (bitsT q) v ⟨(elT q).toArray⟩, .bool true]))
    (hv : w'.ownsRow w.heap.size 3 1 v q.ext.length (q.ext.map (fun (n : Nat) => Value.int .i64 n))) (hb : Below w.heap.size w w') : RReadPost l w e w' := ⟨hb, by
  rw [h]
  obtain ⟨sa, sc, rfl⟩ := own_slice hv
  exact ⟨sa, sc, he, hv⟩⟩
theorem rread_no {l : List UInt8} {w w' : World} {e : Ending} (h : readOf l = none) (k b : Int) (el : ByteArray) (he : e = .returned (.tuple #[tv k b (.slice none 0 0) el, .bool false])) (hb : Below w.heap.size w w') : RReadPost l w e w' :=
  ⟨hb, by rw [h]; exact ⟨k, b, el, he⟩⟩

theorem elemOf_form {l : List UInt8} {q : Pd} (h : elemOf l = some q) : q = ⟨1, 64, []⟩ ∨ ∃ n, q = ⟨0, n, []⟩ := by
  unfold elemOf at h
  split at h
  · cases h; exact .inl rfl
  · split at h
    · split at h
      · split at h
        · cases h; exact .inr ⟨_, rfl⟩
        · cases h
      · cases h
    · cases h

set_option maxRecDepth 100000 in
set_option maxHeartbeats 1000000 in
theorem rread_elem (s : ByteArray) (q : Pd) (w : World) (h : elemOf s.data.toList = some q) : Calls Tryz.prog 66 #[.string s] w (RReadPost s.data.toList w) := by
  have hr : readOf s.data.toList = some q := by unfold readOf; rw [h]
  have HR := Lib.hid hr
  have H := Lib.hid h
  rcases elemOf_form h with rfl | ⟨n, rfl⟩
  all_goals
    clear h hr
    go_enter Tryz.func66, Tryz.ntmps66
    go_wp2_with (go_at_call 86; refine (numT_some H.out _).mono ?_; rintro e w1 ⟨rfl, rfl⟩)
  · refine bodyPost_ret (v := .tuple #[tv 1 64 (.slice none 0 0) ⟨#[]⟩, .bool true]) (by simp [results, Tryz.results66, go_sem]) rfl ?_
    exact rread_yes HR.out (.slice none 0 0) rfl (World.ownsRow_nil _ _ _ _) (by repeat (with_reducible (first | exact Below.refl _ _ | refine below_set ?_ (Nat.le_refl _) _ _ | refine belowA ?_ _)))
  · refine bodyPost_ret (v := .tuple #[tv 0 n (.slice none 0 0) ⟨#[]⟩, .bool true]) (by simp [results, Tryz.results66, go_sem]) rfl ?_
    exact rread_yes HR.out (.slice none 0 0) rfl (World.ownsRow_nil _ _ _ _) (by repeat (with_reducible (first | exact Below.refl _ _ | refine below_set ?_ (Nat.le_refl _) _ _ | refine belowA ?_ _)))

theorem foreignOf_pair (l : List UInt8) : foreignOf (33 :: l) = if pairOf l 59 then some ⟨4, 0, []⟩ else none := by
  unfold foreignOf pairOf
  have hp : Lib.hasPrefix (33 :: l) [33] = true := by simp [Lib.hasPrefix, List.isPrefixOf]
  have hl : ((33 :: l).length ≤ 60) = (l.length ≤ 59) := by simp
  by_cases h : l.length ≤ 59
  · rw [if_pos ⟨hp, by simp; omega⟩]
    simp only [h, decide_true, Bool.true_and, List.tail_cons]
    cases cutOf 46 l with
    | none => rfl
    | some p => obtain ⟨x, y⟩ := p; rfl
  · rw [if_neg (by simp; omega)]
    simp [h]
theorem readOf_foreign {l : List UInt8} (h : elemOf (33 :: l) = none) : readOf (33 :: l) = if pairOf l 59 then some ⟨4, 0, []⟩ else none := by
  rw [← foreignOf_pair]
  unfold readOf
  rw [h]
  have hm : ∀ (k : List UInt8) (c : UInt8), c ≠ 33 → Lib.hasPrefix ((33 :: l).take ((33 :: l).length - 1)) (c :: k) = false := by
    intro k c hc
    cases l with
    | nil => simp [Lib.hasPrefix, List.isPrefixOf]
    | cons b l => simp [Lib.hasPrefix, List.isPrefixOf, hc]
  dsimp only
  rw [hm _ _ (by decide), hm _ _ (by decide)]
  simp

set_option maxRecDepth 100000 in
set_option maxHeartbeats 1000000 in
theorem rread_foreign (s : ByteArray) (w : World) (h : elemOf s.data.toList = none) (h1 : 1 < s.size) (h0 : s[0]'(by omega) = 33) : Calls Tryz.prog 66 #[.string s] w (RReadPost s.data.toList w) := by
  have hd := data_get s 0 (by omega)
  rw [List.drop_zero, h0] at hd
  have hr := readOf_foreign (l := s.data.toList.drop 1) (by rw [← hd]; exact h)
  rw [← hd] at hr
  have hx : (s.extract 1 s.size).data.toList = s.data.toList.drop 1 := by
    simp [ByteArray.data_extract]; exact List.take_of_length_le (by simp)
  have hb0 : (((s[0]'(by omega)).toNat : Int) == 33) = true := by rw [h0]; rfl
  have hq1 : (1 : Int) < (s.size : Int) := by omega
  have hq2 : (1 : Int) ≤ (s.size : Int) := by omega
  have H := Lib.hid h
  have HR := Lib.hid hr
  have HX := Lib.hid hx
  clear h hd hr hx h0
  go_enter Tryz.func66, Tryz.ntmps66
  go_wp2_with (first
    | (go_at_call 86; refine (numT_none H.out _).mono ?_; rintro e w1 ⟨⟨v, rfl⟩, rfl⟩)
    | (go_at_call 87; refine (risPair_any _ 59 (by omega) _).mono ?_; rintro e w1 ⟨rfl, rfl⟩; rw [HX.out]))
  refine bodyPost_ret (v := .tuple #[tv 4 0 (.slice none 0 0) ⟨#[]⟩, .bool (pairOf (s.data.toList.drop 1) 59)]) (by simp [results, Tryz.results66, go_sem]) rfl ?_
  cases hp : pairOf (s.data.toList.drop 1) 59
  · exact rread_no (by rw [HR.out, hp]; rfl) 4 0 ⟨#[]⟩ rfl (by repeat (with_reducible (first | exact Below.refl _ _ | refine below_set ?_ (Nat.le_refl _) _ _ | refine belowA ?_ _)))
  · exact rread_yes (by rw [HR.out, hp]; rfl) (.slice none 0 0) rfl (World.ownsRow_nil _ _ _ _) (by repeat (with_reducible (first | exact Below.refl _ _ | refine below_set ?_ (Nat.le_refl _) _ _ | refine belowA ?_ _)))
end Go.Proofs.YtmepjbjmjbpchaaGreatDoor
end
section
/- The reference of types: Read, where the string may be a type with cells: the plain laws. -/
namespace Go.Proofs.YtmepjbjmjbpchaaGreatDoor
open Go Go.RowKit Go.Sort
set_option linter.unusedVariables false
set_option linter.unusedSimpArgs false

theorem suffix_iff {l : List UInt8} {c : UInt8} (h : l ≠ []) : Lib.hasSuffix l [c] = (l.getLast h == c) := by
  have hs := List.dropLast_concat_getLast h
  rw [Bool.eq_iff_iff]
  simp only [Lib.hasSuffix, List.isSuffixOf_iff_suffix, beq_iff_eq]
  constructor
  · rintro ⟨t, ht⟩
    have : (t ++ [c]).getLast (by simp) = l.getLast h := by congr 1
    simpa using this.symm
  · intro he
    exact ⟨l.dropLast, by rw [← he]; exact hs⟩
theorem prefix_take {l p : List UInt8} : Lib.hasPrefix l p = (l.take p.length == p) := by
  rw [Bool.eq_iff_iff]
  simp only [Lib.hasPrefix, List.isPrefixOf_iff_prefix, beq_iff_eq]
  rw [List.prefix_iff_eq_take]
  exact eq_comm
/-- What `Read` comes to where the string is a type with cells. -/
theorem readOf_cells {l : List UInt8} {k : Nat} {p : List UInt8} (he : elemOf l = none) (hk : (k = 2 ∧ p = [109, 101, 109, 60]) ∨ (k = 3 ∧ p = [97, 114, 114, 60])) (h5 : 5 ≤ l.length) (hp : l.take 4 = p) (hs : Lib.hasSuffix l [62] = true) :
    readOf l = ((rshape [] ((l.take (l.length - 1)).drop 4)).bind restOf).map fun r => ⟨k, r.2, r.1⟩ := by
  have ht : (l.take (l.length - 1)).take 4 = p := by rw [List.take_take, Nat.min_eq_left (by omega), hp]
  rw [← rshape_eq _ _ _ (Nat.le_refl _)]
  unfold readOf
  rw [he]
  dsimp only
  rw [if_pos hs]
  rcases hk with ⟨rfl, rfl⟩ | ⟨rfl, rfl⟩
  · rw [if_pos (by rw [prefix_take]; simpa using ht)]; rfl
  · rw [if_neg (by rw [prefix_take]; simp only [List.length_cons, List.length_nil, Nat.reduceAdd]; rw [ht]; decide), if_pos (by rw [prefix_take]; simpa using ht)]; rfl
theorem foreign_head {l : List UInt8} (h : l.head? ≠ some 33) : foreignOf l = none := by
  unfold foreignOf
  rw [if_neg]
  rintro ⟨h1, -⟩
  match l, h, h1 with
  | [], h, h1 => simp [Lib.hasPrefix, List.isPrefixOf] at h1
  | c :: l, h, h1 => simp [Lib.hasPrefix, List.isPrefixOf] at h1 h; exact h h1.symm
theorem foreign_one : foreignOf [33] = none := by rfl
/-- What `Read` comes to where the string is no type at all. -/
theorem readOf_no {l : List UInt8} (he : elemOf l = none) (h0 : l.head? ≠ some 33 ∨ l.length ≤ 1) (hn : l.length < 5 ∨ (l.take 4 ≠ [109, 101, 109, 60] ∧ l.take 4 ≠ [97, 114, 114, 60]) ∨ Lib.hasSuffix l [62] = false) : readOf l = none := by
  have hf : foreignOf l = none := by
    rcases h0 with h0 | h0
    · exact foreign_head h0
    · by_cases h : l.head? = some 33
      · match l, h, h0 with
        | [c], h, _ => simp at h; rw [h]; exact foreign_one
      · exact foreign_head h
  unfold readOf
  rw [he]
  dsimp only
  split
  · rename_i hs
    have hpre : ∀ p : List UInt8, p = [109, 101, 109, 60] ∨ p = [97, 114, 114, 60] → ¬ Lib.hasPrefix (l.take (l.length - 1)) p = true := by
      intro p hp h
      rw [prefix_take] at h
      have h4 : p.length = 4 := by rcases hp with rfl | rfl <;> rfl
      rw [h4] at h
      have h := eq_of_beq h
      have hl := congrArg List.length h
      rw [h4] at hl
      simp at hl
      rw [List.take_take, Nat.min_eq_left (by omega)] at h
      rcases hn with hn | ⟨hn, hn'⟩ | hn
      · omega
      · rcases hp with rfl | rfl
        · exact hn h
        · exact hn' h
      · rw [hs] at hn; cases hn
    rw [if_neg (hpre _ (.inl rfl)), if_neg (hpre _ (.inr rfl))]
    exact hf
  · exact hf

theorem prodN_snoc (ext : List Nat) (n : Nat) : prodN (ext ++ [n]) = prodN ext * n := by simp [prodN, List.foldl_append]
theorem prodN_le : ∀ (ext : List Nat), (∀ n ∈ ext, n ≤ 1000) → prodN ext ≤ 1000 ^ ext.length := by
  intro ext
  induction h : ext.length generalizing ext with
  | zero => intro _; rw [List.length_eq_zero_iff.1 h]; decide
  | succ m ih =>
    intro hm
    obtain ⟨l, x, rfl⟩ : ∃ l x, ext = l ++ [x] := ⟨ext.dropLast, ext.getLast (by intro e; subst e; simp at h), (List.dropLast_concat_getLast _).symm⟩
    rw [prodN_snoc, Nat.pow_succ]
    exact Nat.mul_le_mul (ih l (by simpa using h) (fun n hn => hm n (by simp [hn]))) (hm x (by simp))
theorem prodN_le3 {ext : List Nat} (h : ext.length ≤ 3) (ha : ∀ n ∈ ext, n ≤ 1000) : prodN ext ≤ 1000000000 :=
  Nat.le_trans (prodN_le ext ha) (Nat.le_trans (Nat.pow_le_pow_right (by omega) h) (by decide))

theorem numRes_form (o : Option Nat) (m : Int) : ∃ (a : Int) (b : Bool), numRes o m = .tuple #[.int .i64 a, .bool b] := by
  cases o with
  | none => exact ⟨0, false, rfl⟩
  | some n => exact ⟨n, _, rfl⟩
theorem num_good {l : List UInt8} {n : Nat} (h : numOf l = some n) (hn : n ≤ 1000) : numRes (rnumOf l) 1000 = .tuple #[.int .i64 n, .bool true] := by
  rw [(rnum_small hn).2 h]
  simp only [numRes]
  rw [show decide ((n : Int) ≤ 1000) = true by simp; omega]
theorem num_bad {l : List UInt8} (h : ∀ n, numOf l = some n → 1000 < n) : ∃ a : Int, numRes (rnumOf l) 1000 = .tuple #[.int .i64 a, .bool false] := by
  cases hr : rnumOf l with
  | none => exact ⟨0, rfl⟩
  | some n =>
    have hn : 1000 < n := by
      rcases Nat.lt_or_ge 1000 n with h' | h'
      · exact h'
      · have := h n ((rnum_small h').1 hr); omega
    refine ⟨n, ?_⟩
    simp only [numRes]
    rw [show decide ((n : Int) ≤ 1000) = false by simp; omega]
/-- The world at the head of the loop over the extents. -/
structure RdI (w : World) (l0 : List UInt8) (k : Nat) (ext : List Nat) (v : Value) (l : List UInt8) (wr : World) : Prop where
  kind : k = 2 ∨ k = 3
  go : readOf l0 = ((rshape ext l).bind restOf).map fun r => ⟨k, r.2, r.1⟩
  len : ext.length ≤ 3
  all : ∀ n ∈ ext, n ≤ 1000
  sz : l.length ≤ 140737488355328
  res : wr.heap[w.heap.size]? = some (.cells (tCells 0 0 (.slice none 0 0) ⟨#[]⟩) 97 (0, 0))
  tb : wr.heap[w.heap.size + 1]? = some (.cells (tCells k 0 v ⟨#[]⟩) 97 (0, 0))
  own : wr.ownsRow (w.heap.size + 2) 3 1 v ext.length (ext.map (fun (n : Nat) => Value.int .i64 n))
  below : Below w.heap.size w wr
theorem own_mono {W : World} {base b2 : Nat} {e : TypeId} {v : Value} {n : Nat} {xs : List Value} (h : W.ownsRow base e 1 v n xs) (hb : b2 ≤ base) : W.ownsRow b2 e 1 v n xs :=
  ⟨h.1, by
    rcases h.2 with h | ⟨g, c, cur, h1, h2, h3⟩
    · exact .inl h
    · exact .inr ⟨g, c, cur, h1, Nat.le_trans hb h2, h3⟩⟩
def strLen : Value → Nat
  | .string s => s.size
  | _ => 0
theorem isDig_iff {s : ByteArray} (h : 0 < s.size) : isDig s.data.toList = decide (48 ≤ ((s[0]'h).toNat : Int) ∧ ((s[0]'h).toNat : Int) ≤ 57) := by
  have hd := data_get s 0 h
  rw [List.drop_zero] at hd
  rw [hd]
  simp only [isDig]
  rw [Bool.eq_iff_iff]; simp; omega
end Go.Proofs.YtmepjbjmjbpchaaGreatDoor
end
section
/- The reference of types: Read, the walk where the string may be a type with cells. -/
namespace Go.Proofs.YtmepjbjmjbpchaaGreatDoor
open Go Go.RowKit Go.Sort
set_option linter.unusedVariables false
set_option linter.unusedSimpArgs false

set_option maxRecDepth 100000 in
set_option maxHeartbeats 4000000 in
theorem rread_cells (s : ByteArray) (w : World) (k : Nat) (p : List UInt8) (hk : (k = 2 ∧ p = [109, 101, 109, 60]) ∨ (k = 3 ∧ p = [97, 114, 114, 60])) (hs : s.size ≤ 140737488355328) (h : elemOf s.data.toList = none)
    (h5 : 5 ≤ s.size) (hp : s.data.toList.take 4 = p) (hsf : s[s.size - 1]'(by omega) = 62) : Calls Tryz.prog 66 #[.string s] w (RReadPost s.data.toList w) := by
  have hp0 : 0 < s.size := by omega
  have hpl : s.size - 1 < s.size := by omega
  have hl : s.data.toList.length = s.size := by simp
  have hne : s.data.toList ≠ [] := by intro e; rw [e] at hl; simp at hl; omega
  have hsuf : Lib.hasSuffix s.data.toList [62] = true := by
    rw [suffix_iff hne, List.getLast_eq_getElem]
    simp only [beq_iff_eq]
    rw [← hsf]
    simp [ByteArray.getElem_eq_getElem_data]
  have hro := readOf_cells h hk (by omega) hp hsuf
  obtain ⟨r0, hr0⟩ : ∃ r0, r0 = (s.data.toList.take (s.data.toList.length - 1)).drop 4 := ⟨_, rfl⟩
  rw [← hr0] at hro
  have hex : (s.extract 4 (s.size - 1)).data.toList = r0 := by
    rw [hr0]; simp [ByteArray.data_extract, List.drop_take]
  have hex4 : (s.extract 0 4).toList = p := by
    rw [ByteArray.toList_eq, ← hp]; simp [ByteArray.data_extract]
  have hr0l : r0.length ≤ 140737488355328 := by rw [hr0]; simp; omega
  have h33 : (((s[0]'hp0).toNat : Int) == 33) = false := by
    rw [beq_eq_false_iff_ne]
    intro h'
    have hd := data_get s 0 hp0
    rw [List.drop_zero] at hd
    rw [hd] at hp
    rcases hk with ⟨-, rfl⟩ | ⟨-, rfl⟩
    · simp only [List.take_succ_cons, List.cons.injEq] at hp
      rw [hp.1] at h'; exact absurd h' (by decide)
    · simp only [List.take_succ_cons, List.cons.injEq] at hp
      rw [hp.1] at h'; exact absurd h' (by decide)
  have hq1 : (5 : Int) ≤ (s.size : Int) := by omega
  have hlast : (((s[s.size - 1]'hpl).toNat : Int) != 62) = false := by rw [hsf]; rfl
  have hq2 : decide ((s.size : Int) < 5) = false := by simp; omega
  have H := Lib.hid h
  have HRO := Lib.hid hro
  have HEX := Lib.hid hex
  have HL := Lib.hid hl
  clear h hro hr0 hex hl hne hsuf hp hsf
  rcases hk with ⟨rfl, rfl⟩ | ⟨rfl, rfl⟩
  all_goals
    go_enter Tryz.func66, Tryz.ntmps66
    go_wp2_with (go_at_call 86; refine (numT_none H.out _).mono ?_; rintro e w1 ⟨⟨v, rfl⟩, rfl⟩)
    go_loopw [8, 9] (fun rv cv wr => ∃ (k : Nat) (ext : List Nat) (v : Value) (rs : ByteArray), rv = .string rs ∧ cv = .int .i64 (prodN ext : Nat) ∧ RdI w s.data.toList k ext v rs.data.toList wr) (fun rv _ _ => strLen rv)
    case atStart =>
      have hb0 := belowA (belowA (Below.refl w.heap.size w) (.cells (tCells 0 0 (.slice none 0 0) ⟨#[]⟩) 97))
      first
        | exact ⟨2, [], .slice none 0 0, s.extract 4 (s.size - 1), rfl, rfl, .inl rfl, by rw [HEX.out]; exact HRO.out, by decide, by simp, by rw [HEX.out]; exact hr0l, allocPast _ (heap_alloc_new w _) (by simp), allocAt _ (by simp), World.ownsRow_nil _ _ _ _, hb0 _⟩
        | exact ⟨3, [], .slice none 0 0, s.extract 4 (s.size - 1), rfl, rfl, .inr rfl, by rw [HEX.out]; exact HRO.out, by decide, by simp, by rw [HEX.out]; exact hr0l, allocPast _ (heap_alloc_new w _) (by simp), allocAt _ (by simp), World.ownsRow_nil _ _ _ _, hb0 _⟩
    case round =>
      clear HRO HEX H hlast hq1 hq2 hex4 h33 HL hr0l
      obtain ⟨k, ext, v, rs, rfl, rfl, hi⟩ := hrel
      have hpn := prodN_le3 hi.len hi.all
      have hrs : rs.size ≤ 140737488355328 := by have := hi.sz; simpa using this
      have hlen := hi.len
      obtain ⟨sa, sc, rfl⟩ := own_slice hi.own
      have hall := Lib.hid hi.all
      have c2 := blkCell hi.res
      have f2 := blkFree hi.res
      have c7 := blkCell hi.tb
      have f7 := blkFree hi.tb
      have hz : w.heap.size + 1 < wr.heap.size := blkLt hi.tb
      have HI := Lib.hid hi
      clear hi
      by_cases hdg : isDig rs.data.toList = true
      · have hpos : 0 < rs.size := by
          rcases Nat.eq_zero_or_pos rs.size with h | h
          · rw [List.length_eq_zero_iff.1 ((show rs.data.toList.length = rs.size from by simp).trans h)] at hdg; simp [isDig] at hdg
          · exact h
        have hne : rs.toList.isEmpty = false := by rw [List.isEmpty_eq_false_iff]; intro h0; rw [toList_nil_iff] at h0; have := congrArg List.length h0; rw [show rs.data.toList.length = rs.size from by simp, List.length_nil] at this; omega
        have hd01 : 48 ≤ ((rs[0]'hpos).toNat : Int) ∧ ((rs[0]'hpos).toNat : Int) ≤ 57 := by
          rw [isDig_iff hpos] at hdg; exact of_decide_eq_true hdg
        obtain ⟨hd0, hd1⟩ := hd01
        have HDG := Lib.hid hdg
        clear hdg
        go_wp2_with fail
        go_loop [10] (fun i => ∃ j : Nat, j ≤ rs.size ∧ i = .int .i64 j ∧ ∀ x ∈ rs.data.toList.take j, x ≠ 120) (fun i => rs.size - (intOf i).toNat)
        case atStart => exact ⟨0, Nat.zero_le _, rfl, by simp⟩
        case round =>
          obtain ⟨j, hj, rfl, hx⟩ := hrel
          have HX := Lib.hid hx
          clear hx
          rcases Nat.lt_or_ge j rs.size with hlt | hge
          · have hget := Lib.hid (bytes_get rs j hlt)
            by_cases hc : ((rs[j]'hlt).toNat : Int) = 120
            · have hb : (((rs[j]'hlt).toNat : Int) != 120) = false := by rw [hc]; rfl
              have hcut : cutOf 120 rs.data.toList = some (rs.data.toList.take j, rs.data.toList.drop (j + 1)) := by
                rw [cutOf_take _ 120 j HX.out (fun x hx => by rw [hget.out] at hx; cases hx; exact byte_eq 120 (by omega) hc), if_pos (by simpa using hlt)]
              have hex : (rs.extract 0 j).data.toList = rs.data.toList.take j := by simp [ByteArray.data_extract]
              have hgo := HI.out.go
              rw [rshape_more HDG.out hcut] at hgo
              have hj1 : (j : Int) + 1 ≤ (rs.size : Int) := by omega
              have hjn : ((j : Int) == (rs.size : Int)) = false := by rw [beq_eq_false_iff_ne]; omega
              have HEX := Lib.hid hex
              clear hc hex hcut
              by_cases hgood : ∃ n, numOf (rs.data.toList.take j) = some n ∧ n ≤ 1000
              · obtain ⟨n, hn, hn1⟩ := hgood
                have hnr := num_good hn hn1
                rw [hn] at hgo
                have HNR := Lib.hid hnr
                clear hnr hn
                rcases Nat.lt_or_ge ext.length 3 with hl3 | hl3
                · dsimp only at hgo
                  rw [if_pos ⟨hn1, hl3⟩] at hgo
                  have hl3b : ((ext.length : Int) == 3) = false := by rw [beq_eq_false_iff_ne]; omega
                  have HGO := Lib.hid hgo
                  clear hgo
                  have hpm0 : (0 : Int) ≤ ((prodN ext : Nat) : Int) * (n : Int) := Int.mul_nonneg (by omega) (by omega)
                  have hpm1 : ((prodN ext : Nat) : Int) * (n : Int) ≤ 1000000000000 := by
                    have := Nat.mul_le_mul hpn hn1
                    rw [← Int.natCast_mul]; omega
                  obtain ⟨i0, hin, hz0, hz1, hz2⟩ := info_parts (show (Tryz.prog.info? 3).map (fun i => (i.zero, i.size, i.bytes)) = some (some (.int .i64 0), 1, 8) by kernel_rfl)
                  have HOWN := Lib.hid HI.out.own
                  go_wp2_with (first
                    | (go_at_call 88; refine (rnum_any _ _ _).mono ?_; rintro e w1 ⟨rfl, rfl⟩; rw [HEX.out, HNR.out])
                    | (at_builtin; refine wpList_append_own _ rfl _ _ 95 rfl (w.heap.size + 2) 3 i0 (.int .i64 0) 1 8 Tryz.underlying95 hin hz0 hz1 hz2 rfl (by decide) _ _ _ rfl (HOWN.out.alloc _) ⟨wr.heap.size, 0, none⟩ 1 1 [.int .i64 n] rfl rfl ?c1 ?c2 ?c3 ?c4 ?c5 ?_))
                  case c1 =>
                    intro t u hj
                    match t, hj with
                    | 0, hj => simp at hj; subst hj; simp [Addr.add]
                  case c2 => intro u hu; simp at hu; subst hu; rfl
                  case c3 => unfold maxLen; omega
                  case c4 => omega
                  case c5 => simp; omega
                  intro v' w3 hown' hgrow _
                  have hnew : ∀ b, b < w.heap.size + 2 → w3.heap[b]? = wr.heap[b]? := fun b hb => (hgrow.block b (by simp; omega) (fun he => by have := (HOWN.out.lt b he.symm).1; omega)).trans (Below.heap_alloc wr _ b (by omega))
                  have c7n := blkCell ((hnew (w.heap.size + 1) (by omega)).trans HI.out.tb)
                  have f7n := blkFree ((hnew (w.heap.size + 1) (by omega)).trans HI.out.tb)
                  have hres3 := (hnew w.heap.size (by omega)).trans HI.out.res
                  have htb3 := (hnew (w.heap.size + 1) (by omega)).trans HI.out.tb
                  have hbel3 := (belowA HI.out.below (.cells #[.int .i64 n] 3)).grown hgrow (by have := HI.out.below.size; simp; omega) (fun k hk => by have := (HOWN.out.lt k hk).1; omega)
                  obtain ⟨sa', sc', rfl⟩ := own_slice hown'
                  have HOWN3 := Lib.hid hown'
                  have HRES3 := Lib.hid hres3
                  have HTB3 := Lib.hid htb3
                  have HBEL3 := Lib.hid hbel3
                  clear hnew hres3 htb3 hbel3 hown' c7 f7 c2 f2
                  go_wp2_with fail
                  go_roundw
                  · refine ⟨k, ext ++ [n], .slice sa' (ext.length + 1) sc', rs.extract (j + 1) rs.size, rfl, by rw [prodN_snoc, Int.natCast_mul], HI.out.kind, ?_, by simp; omega, ?_, ?_, (heap_setCell_other _ _ _ _ (Nat.ne_of_lt (Nat.lt_succ_self _))).trans HRES3.out, heap_setCell_same _ _ 2 _ _ _ HTB3.out, ?_, HBEL3.out.setCell (p := ⟨w.heap.size + 1, 2, none⟩) (by simp) _⟩
                    · rw [HGO.out]
                      congr 3
                      simp [ByteArray.data_extract]
                      exact (List.take_of_length_le (by simp)).symm
                    · intro x hx
                      rw [List.mem_append, List.mem_singleton] at hx
                      rcases hx with hx | rfl
                      · exact hall.out x hx
                      · exact hn1
                    · simp; omega
                    · have := ownsRow_setCell_below HOWN3.out (a := ⟨w.heap.size + 1, 2, none⟩) (by simp) (.slice sa' (ext.length + 1) sc')
                      simpa using this
                  · simp [strLen]; omega
                · have hl3b : ((ext.length : Int) == 3) = true := by rw [beq_iff_eq]; omega
                  dsimp only at hgo
                  rw [if_neg (by omega)] at hgo
                  have HGO := Lib.hid hgo
                  clear hgo
                  go_wp2_with (go_at_call 88; refine (rnum_any _ _ _).mono ?_; rintro e w1 ⟨rfl, rfl⟩; rw [HEX.out, HNR.out])
                  refine bodyPost_ret (v := .tuple #[tv 0 0 (.slice none 0 0) ⟨#[]⟩, .bool false]) (by simp [results, Tryz.results66, go_sem, c2, c7, hz]) rfl ?_
                  have hbw := HI.out.below
                  exact rread_no HGO.out 0 0 ⟨#[]⟩ rfl (by repeat (with_reducible (first | exact hbw | refine below_set ?_ (Nat.le_refl _) _ _ | refine below_set ?_ (Nat.le_succ _) _ _ | refine belowA ?_ _)))
              · have hbad : ∀ n, numOf (rs.data.toList.take j) = some n → 1000 < n := fun n hn => by
                  rcases Nat.lt_or_ge 1000 n with h' | h'
                  · exact h'
                  · exact absurd ⟨n, hn, h'⟩ hgood
                obtain ⟨na, hnr⟩ := num_bad hbad
                have hno : readOf s.data.toList = none := by
                  rw [hgo]
                  cases hn : numOf (rs.data.toList.take j) with
                  | none => rfl
                  | some n => dsimp only; rw [if_neg (by have := hbad n hn; omega)]; rfl
                have HNR := Lib.hid hnr
                have HNO := Lib.hid hno
                clear hgo hbad hgood hnr hno
                go_wp2_with (go_at_call 88; refine (rnum_any _ _ _).mono ?_; rintro e w1 ⟨rfl, rfl⟩; rw [HEX.out, HNR.out])
                refine bodyPost_ret (v := .tuple #[tv 0 0 (.slice none 0 0) ⟨#[]⟩, .bool false]) (by simp [results, Tryz.results66, go_sem, c2, c7, hz]) rfl ?_
                have hbw := HI.out.below
                exact rread_no HNO.out 0 0 ⟨#[]⟩ rfl (by repeat (with_reducible (first | exact hbw | refine below_set ?_ (Nat.le_refl _) _ _ | refine below_set ?_ (Nat.le_succ _) _ _ | refine belowA ?_ _)))
            · have hb : (((rs[j]'hlt).toNat : Int) != 120) = true := by rw [bne_iff_ne]; exact hc
              have hne := Lib.hid (byte_ne (c := rs[j]'hlt) 120 (by omega) hc)
              clear hc
              go_wp2_with fail
              go_round
              case rel => exact ⟨j + 1, by omega, by go_num, take_ne HX.out hget.out hne.out⟩
              case measure => simp [intOf]; omega
          · have hje : j = rs.size := by omega
            subst hje
            have hcut : cutOf 120 rs.data.toList = none := by
              rw [cutOf_take _ 120 rs.size HX.out (by simp), if_neg (by simp)]
            have hno : readOf s.data.toList = none := by rw [HI.out.go, rshape_none HDG.out hcut]; rfl
            have HNO := Lib.hid hno
            clear hno hcut
            go_wp2_with fail
            refine (rnum_any _ _ _).mono ?_
            rintro e w1 ⟨rfl, rfl⟩
            obtain ⟨na, nb, hnr⟩ := numRes_form (rnumOf rs.data.toList) 1000
            rw [hnr]
            have HNR := Lib.hid hnr
            clear hnr
            cases nb
            all_goals
              go_wp2_with fail
              refine bodyPost_ret (v := .tuple #[tv 0 0 (.slice none 0 0) ⟨#[]⟩, .bool false]) (by simp [results, Tryz.results66, go_sem, c2, c7, hz]) rfl ?_
              have hbw := HI.out.below
              exact rread_no HNO.out 0 0 ⟨#[]⟩ rfl (by repeat (with_reducible (first | exact hbw | refine below_set ?_ (Nat.le_refl _) _ _ | refine below_set ?_ (Nat.le_succ _) _ _ | refine belowA ?_ _)))
      · have hdg' : isDig rs.data.toList = false := by simpa using hdg
        have hgo : readOf s.data.toList = (restOf (ext, rs.data.toList)).map fun r => ⟨k, r.2, r.1⟩ := by rw [HI.out.go, rshape_end hdg']; rfl
        have hcs : rs.toList.isEmpty = true ∨ (∃ h0 : 0 < rs.size, rs.toList.isEmpty = false ∧ ((rs[0]'h0).toNat : Int) < 48) ∨ (∃ h0 : 0 < rs.size, rs.toList.isEmpty = false ∧ 48 ≤ ((rs[0]'h0).toNat : Int) ∧ 57 < ((rs[0]'h0).toNat : Int)) := by
          by_cases h0 : rs.toList = []
          · exact .inl (by rw [h0]; rfl)
          · have h0' : rs.toList.isEmpty = false := by rw [List.isEmpty_eq_false_iff]; exact h0
            have hpos : 0 < rs.size := by
              rcases Nat.eq_zero_or_pos rs.size with h | h
              · exact absurd ((toList_nil_iff rs).2 (List.length_eq_zero_iff.1 ((show rs.data.toList.length = rs.size from by simp).trans h))) h0
              · exact h
            rw [isDig_iff hpos, decide_eq_false_iff_not] at hdg'
            by_cases h48 : ((rs[0]'hpos).toNat : Int) < 48
            · exact .inr (.inl ⟨hpos, h0', h48⟩)
            · exact .inr (.inr ⟨hpos, h0', by omega, by omega⟩)
        have HGO := Lib.hid hgo
        clear hgo hdg hdg'
        cases he : elemOf rs.data.toList with
        | none =>
          have hno : readOf s.data.toList = none := by rw [HGO.out]; simp [restOf, he]
          have HE := Lib.hid he
          have HNO := Lib.hid hno
          clear he hno
          rcases hcs with h1 | ⟨hpos, h1, h2⟩ | ⟨hpos, h1, h2, h3⟩
          all_goals
            go_wp2_with (go_at_call 86; refine (numT_none HE.out _).mono ?_; rintro e w1 ⟨⟨v, rfl⟩, rfl⟩)
            refine bodyPost_ret (v := .tuple #[tv 0 0 (.slice none 0 0) ⟨#[]⟩, .bool false]) (by simp [results, Tryz.results66, go_sem, c2, c7, hz]) rfl ?_
            have hbw := HI.out.below
            exact rread_no HNO.out 0 0 ⟨#[]⟩ rfl (by repeat (with_reducible (first | exact hbw | refine below_set ?_ (Nat.le_refl _) _ _ | refine below_set ?_ (Nat.le_succ _) _ _ | refine belowA ?_ _)))
        | some q =>
          have hstr := elemOf_str he
          have hqb : q.bits ≤ 64 := (elemOf_ok he).1.bits
          by_cases hpr : prodN ext ≤ 4096
          · have hyes : readOf s.data.toList = some ⟨k, if q.kind = 1 then 0 else q.bits, ext⟩ := by rw [HGO.out]; simp [restOf, he, hpr]
            have hb : bitsT ⟨k, if q.kind = 1 then 0 else q.bits, ext⟩ = 0 := by rcases HI.out.kind with h | h <;> simp [bitsT, h]
            have hel : elT ⟨k, if q.kind = 1 then 0 else q.bits, ext⟩ = rs.data.toList := by rw [hstr]; rcases HI.out.kind with h | h <;> simp [elT, h]
            have hp2 : decide (4096 < ((prodN ext : Nat) : Int)) = false := by simp; omega
            have HE := Lib.hid he
            have HY := Lib.hid hyes
            have HB := Lib.hid hb
            have HEL := Lib.hid hel
            clear he hyes hb hel hstr hpr
            rcases hcs with h1 | ⟨hpos, h1, h2⟩ | ⟨hpos, h1, h2, h3⟩
            all_goals
              go_wp2_with (go_at_call 86; refine (numT_some HE.out _).mono ?_; rintro e w1 ⟨rfl, rfl⟩)
              refine bodyPost_ret (v := .tuple #[tv k 0 (.slice sa ext.length sc) rs, .bool true]) (by simp [results, Tryz.results66, go_sem, c2, c7, hz]) rfl ?_
              have hbw := HI.out.below
              refine rread_yes HY.out (.slice sa ext.length sc) (by rw [HB.out, HEL.out]; simp) ?_ (by repeat (with_reducible (first | exact hbw | refine below_set ?_ (Nat.le_refl _) _ _ | refine below_set ?_ (Nat.le_succ _) _ _ | refine belowA ?_ _)))
              have hown := HI.out.own
              refine own_mono (base := w.heap.size + 2) (b2 := w.heap.size) ?_ (Nat.le_add_right _ _)
              repeat (with_reducible (first | exact hown | refine ownsRow_setCell_below ?_ (by simp) _ | refine World.ownsRow.alloc ?_ _))
          · have hno : readOf s.data.toList = none := by rw [HGO.out]; simp [restOf, he, hpr]
            have hp2 : decide (4096 < ((prodN ext : Nat) : Int)) = true := by simp; omega
            have HE := Lib.hid he
            have HNO := Lib.hid hno
            clear he hno hstr hpr
            rcases hcs with h1 | ⟨hpos, h1, h2⟩ | ⟨hpos, h1, h2, h3⟩
            all_goals
              go_wp2_with (go_at_call 86; refine (numT_some HE.out _).mono ?_; rintro e w1 ⟨rfl, rfl⟩)
              refine bodyPost_ret (v := .tuple #[tv 0 0 (.slice none 0 0) ⟨#[]⟩, .bool false]) (by simp [results, Tryz.results66, go_sem, c2, c7, hz]) rfl ?_
              have hbw := HI.out.below
              exact rread_no HNO.out 0 0 ⟨#[]⟩ rfl (by repeat (with_reducible (first | exact hbw | refine below_set ?_ (Nat.le_refl _) _ _ | refine below_set ?_ (Nat.le_succ _) _ _ | refine belowA ?_ _)))
end Go.Proofs.YtmepjbjmjbpchaaGreatDoor
end
