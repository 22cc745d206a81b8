/- Plain laws of the reference of types: a number's string is the only one; what stands behind the extents. -/
import Derived.Test.YthgiianmfehcaaaDoorTyA
namespace Go.Proofs.YthgiianmfehcaaaDoor
open Go
set_option linter.unusedVariables false
set_option linter.unusedSimpArgs false

theorem decDigits_snoc {n d : Nat} (hn : 1 ≤ n) (hd : d < 10) : Lib.decDigits (10 * n + d) = Lib.decDigits n ++ [UInt8.ofNat (48 + d)] := by
  rw [Lib.decDigits, dif_neg (by omega)]
  rw [show (10 * n + d) / 10 = n by omega, show (10 * n + d) % 10 = d by omega]
theorem digit_back {c : UInt8} (h : 48 ≤ c.toNat) : UInt8.ofNat (48 + (c.toNat - 48)) = c := by
  apply UInt8.toNat_inj.1
  rw [UInt8.toNat_ofNat']
  have := c.toNat_lt
  omega
theorem numFrom_digits : ∀ (l : List UInt8) (n N : Nat), 1 ≤ n → numFrom l n = some N → Lib.decDigits N = Lib.decDigits n ++ l
  | [], n, N, _, h => by simp [numFrom] at h; simp [h]
  | c :: l, n, N, hn, h => by
    simp only [numFrom] at h
    split at h
    · rename_i hc
      rw [numFrom_digits l _ N (by omega) h, decDigits_snoc hn (by omega), digit_back hc.1, List.append_assoc]
      rfl
    · cases h
theorem numOf_digits {l : List UInt8} {N : Nat} (h : numOf l = some N) : l = Lib.decDigits N := by
  unfold numOf at h
  split at h
  · cases h
  · rename_i hc
    match l, hc, h with
    | [], hc, h => exact absurd (.inl rfl) hc
    | c :: l, hc, h =>
      simp only [numFrom] at h
      split at h
      · rename_i hr
        by_cases h48 : c = 48
        · have hl : l = [] := by
            by_cases hl : l = []
            · exact hl
            · exfalso; apply hc; right; right
              have : 0 < l.length := List.length_pos_iff.2 hl
              exact ⟨by simp; omega, by simp [h48]⟩
          subst hl
          subst h48
          simp [numFrom] at h
          subst h
          rw [Lib.decDigits_one (by decide)]
          rfl
        · have hne : c.toNat ≠ 48 := fun he => h48 (UInt8.toNat_inj.1 (by simpa using he))
          have := numFrom_digits l _ N (by omega) h
          rw [this, Lib.decDigits_one (by omega)]
          rw [show 10 * 0 + (c.toNat - 48) = c.toNat - 48 by omega, digit_back hr.1]
          rfl
      · cases h
theorem elemOf_str {l : List UInt8} {q : Pd} (h : elemOf l = some q) : l = elStr (if q.kind = 1 then 0 else q.bits) := by
  unfold elemOf at h
  split at h
  · rename_i hi; cases h; simpa [elStr] using hi
  · split at h
    · rename_i hp
      split at h
      · rename_i n hn
        split at h
        · rename_i hb
          cases h
          have := numOf_digits hn
          match l, hp with
          | [], hp => simp [Lib.hasPrefix, List.isPrefixOf] at hp
          | c :: l, hp =>
            simp [Lib.hasPrefix, List.isPrefixOf] at hp
            subst hp
            rw [elStr]
            simp at this ⊢
            rw [if_neg (by omega), this]
        · cases h
      · cases h
    · cases h
theorem numFrom_all : ∀ (l : List UInt8) (n N : Nat), numFrom l n = some N → ∀ c ∈ l, 48 ≤ c.toNat ∧ c.toNat ≤ 57
  | [], n, N, h => by simp
  | c :: l, n, N, h => by
    simp only [numFrom] at h
    split at h
    · rename_i hc
      intro x hx
      rcases List.mem_cons.1 hx with rfl | hx
      · exact hc
      · exact numFrom_all l _ N h x hx
    · cases h
theorem numOf_all {l : List UInt8} {N : Nat} (h : numOf l = some N) : ∀ c ∈ l, 48 ≤ c.toNat ∧ c.toNat ≤ 57 := by
  unfold numOf at h
  split at h
  · cases h
  · exact numFrom_all _ _ _ h
def isDig : List UInt8 → Bool
  | c :: _ => decide (48 ≤ c.toNat ∧ c.toNat ≤ 57)
  | [] => false
/-- What the reference reads of a type with cells: its extents, and what stands behind them. -/
def rshape (ext : List Nat) (l : List UInt8) : Option (List Nat × List UInt8) :=
  if isDig l then match h : cutOf 120 l with
    | none => none
    | some (x, y) => match numOf x with
      | some n => if n ≤ 1000 ∧ ext.length < 3 then rshape (ext ++ [n]) y else none
      | none => none
  else some (ext, l)
termination_by l.length
decreasing_by have := cutOf_len h; omega
theorem rshape_end {ext : List Nat} {l : List UInt8} (h : isDig l = false) : rshape ext l = some (ext, l) := by
  unfold rshape; simp [h]
theorem rshape_none {ext : List Nat} {l : List UInt8} (h : isDig l = true) (hc : cutOf 120 l = none) : rshape ext l = none := by
  unfold rshape; rw [if_pos h]
  split
  · rfl
  · rename_i h'; rw [hc] at h'; cases h'
theorem rshape_more {ext : List Nat} {l x y : List UInt8} (h : isDig l = true) (hc : cutOf 120 l = some (x, y)) :
    rshape ext l = match numOf x with | some n => if n ≤ 1000 ∧ ext.length < 3 then rshape (ext ++ [n]) y else none | none => none := by
  rw [rshape, if_pos h]
  split
  · rename_i h'; rw [hc] at h'; cases h'
  · rename_i h'; rw [hc] at h'; cases h'; rfl
def restOf (r : List Nat × List UInt8) : Option (List Nat × Nat) :=
  match elemOf r.2 with
  | some e => if prodN r.1 ≤ 4096 then some (r.1, if e.kind = 1 then 0 else e.bits) else none
  | none => none
theorem elemOf_dig {l : List UInt8} (h : isDig l = true) : elemOf l = none := by
  match l, h with
  | c :: l, h =>
    have hc : c ≠ 105 := by
      intro he; subst he
      simp [isDig] at h
    unfold elemOf
    rw [if_neg (by intro he; cases he; exact hc rfl), if_neg]
    simp [Lib.hasPrefix, List.isPrefixOf, Ne.symm hc]
theorem elemOf_noX {l : List UInt8} (h : l ≠ [105, 110, 100, 101, 120]) (hx : (120 : UInt8) ∈ l) : elemOf l = none := by
  unfold elemOf
  rw [if_neg h]
  split
  · rename_i hp
    match l, hp with
    | [], hp => simp [Lib.hasPrefix, List.isPrefixOf] at hp
    | c :: l, hp =>
      simp [Lib.hasPrefix, List.isPrefixOf] at hp
      subst hp
      split
      · rename_i n hn
        exfalso
        have : (120 : UInt8) ∈ l := by simpa using hx
        have := numOf_all (l := l) (by simpa using hn) 120 this
        exact absurd this.2 (by decide)
      · rfl
  · rfl
theorem numOf_head {x : List UInt8} {c : UInt8} {l : List UInt8} {N : Nat} (h : numOf x = some N) (hx : x = c :: l) : 48 ≤ c.toNat ∧ c.toNat ≤ 57 := numOf_all h c (by simp [hx])
theorem rshape_eq : ∀ (m : Nat) (l : List UInt8) (ext : List Nat), l.length ≤ m → shapeP ext (partsOf l) = (rshape ext l).bind restOf := by
  intro m
  induction m with
  | zero =>
    intro l ext hl
    have : l = [] := List.length_eq_zero_iff.1 (by omega)
    subst this
    rw [partsOf_last (.inr rfl), rshape_end rfl]
    rfl
  | succ m ih =>
    intro l ext hl
    by_cases hi : l = [105, 110, 100, 101, 120]
    · rw [partsOf_last (.inl hi), rshape_end (by rw [hi]; rfl)]
      rfl
    · cases hc : cutOf 120 l with
      | none =>
        rw [partsOf_last (.inr hc)]
        cases hd : isDig l
        · rw [rshape_end hd]; rfl
        · rw [rshape_none hd hc]
          simp only [shapeP, elemOf_dig hd]
          rfl
      | some p =>
        obtain ⟨x, y⟩ := p
        have hlen := cutOf_len hc
        obtain ⟨-, hxy, hnx⟩ := cutOf_some _ _ _ _ hc
        rw [partsOf_more hi hc]
        cases hd : isDig l
        · rw [rshape_end hd]
          have he : elemOf l = none := elemOf_noX hi (by rw [hxy]; simp)
          have hn : numOf x = none := by
            cases hn : numOf x with
            | none => rfl
            | some n =>
              exfalso
              match x, hxy, hn with
              | [], hxy, hn => simp [numOf] at hn
              | c :: x, hxy, hn =>
                have := numOf_head hn rfl
                rw [hxy] at hd
                simp [isDig] at hd
                omega
          simp only [shapeP, hn, Option.bind_some, restOf, he]
        · rw [rshape_more hd hc]
          cases hn : numOf x with
          | none => simp only [shapeP, hn]; rfl
          | some n =>
            simp only [shapeP, hn]
            by_cases hc2 : n ≤ 1000 ∧ ext.length < 3
            · rw [if_pos hc2, if_pos hc2]; exact ih y _ (by omega)
            · rw [if_neg hc2, if_neg hc2]; rfl
end Go.Proofs.YthgiianmfehcaaaDoor
