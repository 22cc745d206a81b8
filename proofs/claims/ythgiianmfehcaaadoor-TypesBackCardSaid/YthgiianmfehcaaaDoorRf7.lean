/- The reference of types: Read, where the string may be a type with cells: the plain laws. -/
import Derived.Test.YthgiianmfehcaaaDoorRf6
namespace Go.Proofs.YthgiianmfehcaaaDoor
open Go Go.RowKit Go.Sort
set_option linter.unusedVariables false
set_option linter.unusedSimpArgs false

theorem suffix_iff {l : List UInt8} {c : UInt8} (h : l ≠ []) : Lib.hasSuffix l [c] = (l.getLast h == c) := by
  have hs := List.dropLast_concat_getLast h
  rw [Bool.eq_iff_iff]
  simp only [Lib.hasSuffix, List.isSuffixOf_iff_suffix, beq_iff_eq]
  constructor
  · rintro ⟨t, ht⟩
    have : (t ++ [c]).getLast (by simp) = l.getLast h := by congr 1
    simpa using this.symm
  · intro he
    exact ⟨l.dropLast, by rw [← he]; exact hs⟩
theorem prefix_take {l p : List UInt8} : Lib.hasPrefix l p = (l.take p.length == p) := by
  rw [Bool.eq_iff_iff]
  simp only [Lib.hasPrefix, List.isPrefixOf_iff_prefix, beq_iff_eq]
  rw [List.prefix_iff_eq_take]
  exact eq_comm
/-- What `Read` comes to where the string is a type with cells. -/
theorem readOf_cells {l : List UInt8} {k : Nat} {p : List UInt8} (he : elemOf l = none) (hk : (k = 2 ∧ p = [109, 101, 109, 60]) ∨ (k = 3 ∧ p = [97, 114, 114, 60])) (h5 : 5 ≤ l.length) (hp : l.take 4 = p) (hs : Lib.hasSuffix l [62] = true) :
    readOf l = ((rshape [] ((l.take (l.length - 1)).drop 4)).bind restOf).map fun r => ⟨k, r.2, r.1⟩ := by
  have ht : (l.take (l.length - 1)).take 4 = p := by rw [List.take_take, Nat.min_eq_left (by omega), hp]
  rw [← rshape_eq _ _ _ (Nat.le_refl _)]
  unfold readOf
  rw [he]
  dsimp only
  rw [if_pos hs]
  rcases hk with ⟨rfl, rfl⟩ | ⟨rfl, rfl⟩
  · rw [if_pos (by rw [prefix_take]; simpa using ht)]; rfl
  · rw [if_neg (by rw [prefix_take]; simp only [List.length_cons, List.length_nil, Nat.reduceAdd]; rw [ht]; decide), if_pos (by rw [prefix_take]; simpa using ht)]; rfl
theorem foreign_head {l : List UInt8} (h : l.head? ≠ some 33) : foreignOf l = none := by
  unfold foreignOf
  rw [if_neg]
  rintro ⟨h1, -⟩
  match l, h, h1 with
  | [], h, h1 => simp [Lib.hasPrefix, List.isPrefixOf] at h1
  | c :: l, h, h1 => simp [Lib.hasPrefix, List.isPrefixOf] at h1 h; exact h h1.symm
theorem foreign_one : foreignOf [33] = none := by rfl
/-- What `Read` comes to where the string is no type at all. -/
theorem readOf_no {l : List UInt8} (he : elemOf l = none) (h0 : l.head? ≠ some 33 ∨ l.length ≤ 1) (hn : l.length < 5 ∨ (l.take 4 ≠ [109, 101, 109, 60] ∧ l.take 4 ≠ [97, 114, 114, 60]) ∨ Lib.hasSuffix l [62] = false) : readOf l = none := by
  have hf : foreignOf l = none := by
    rcases h0 with h0 | h0
    · exact foreign_head h0
    · by_cases h : l.head? = some 33
      · match l, h, h0 with
        | [c], h, _ => simp at h; rw [h]; exact foreign_one
      · exact foreign_head h
  unfold readOf
  rw [he]
  dsimp only
  split
  · rename_i hs
    have hpre : ∀ p : List UInt8, p = [109, 101, 109, 60] ∨ p = [97, 114, 114, 60] → ¬ Lib.hasPrefix (l.take (l.length - 1)) p = true := by
      intro p hp h
      rw [prefix_take] at h
      have h4 : p.length = 4 := by rcases hp with rfl | rfl <;> rfl
      rw [h4] at h
      have h := eq_of_beq h
      have hl := congrArg List.length h
      rw [h4] at hl
      simp at hl
      rw [List.take_take, Nat.min_eq_left (by omega)] at h
      rcases hn with hn | ⟨hn, hn'⟩ | hn
      · omega
      · rcases hp with rfl | rfl
        · exact hn h
        · exact hn' h
      · rw [hs] at hn; cases hn
    rw [if_neg (hpre _ (.inl rfl)), if_neg (hpre _ (.inr rfl))]
    exact hf
  · exact hf

theorem prodN_snoc (ext : List Nat) (n : Nat) : prodN (ext ++ [n]) = prodN ext * n := by simp [prodN, List.foldl_append]
theorem prodN_le : ∀ (ext : List Nat), (∀ n ∈ ext, n ≤ 1000) → prodN ext ≤ 1000 ^ ext.length := by
  intro ext
  induction h : ext.length generalizing ext with
  | zero => intro _; rw [List.length_eq_zero_iff.1 h]; decide
  | succ m ih =>
    intro hm
    obtain ⟨l, x, rfl⟩ : ∃ l x, ext = l ++ [x] := ⟨ext.dropLast, ext.getLast (by intro e; subst e; simp at h), (List.dropLast_concat_getLast _).symm⟩
    rw [prodN_snoc, Nat.pow_succ]
    exact Nat.mul_le_mul (ih l (by simpa using h) (fun n hn => hm n (by simp [hn]))) (hm x (by simp))
theorem prodN_le3 {ext : List Nat} (h : ext.length ≤ 3) (ha : ∀ n ∈ ext, n ≤ 1000) : prodN ext ≤ 1000000000 :=
  Nat.le_trans (prodN_le ext ha) (Nat.le_trans (Nat.pow_le_pow_right (by omega) h) (by decide))

theorem numRes_form (o : Option Nat) (m : Int) : ∃ (a : Int) (b : Bool), numRes o m = .tuple #[.int .i64 a, .bool b] := by
  cases o with
  | none => exact ⟨0, false, rfl⟩
  | some n => exact ⟨n, _, rfl⟩
theorem num_good {l : List UInt8} {n : Nat} (h : numOf l = some n) (hn : n ≤ 1000) : numRes (rnumOf l) 1000 = .tuple #[.int .i64 n, .bool true] := by
  rw [(rnum_small hn).2 h]
  simp only [numRes]
  rw [show decide ((n : Int) ≤ 1000) = true by simp; omega]
theorem num_bad {l : List UInt8} (h : ∀ n, numOf l = some n → 1000 < n) : ∃ a : Int, numRes (rnumOf l) 1000 = .tuple #[.int .i64 a, .bool false] := by
  cases hr : rnumOf l with
  | none => exact ⟨0, rfl⟩
  | some n =>
    have hn : 1000 < n := by
      rcases Nat.lt_or_ge 1000 n with h' | h'
      · exact h'
      · have := h n ((rnum_small h').1 hr); omega
    refine ⟨n, ?_⟩
    simp only [numRes]
    rw [show decide ((n : Int) ≤ 1000) = false by simp; omega]
/-- The world at the head of the loop over the extents. -/
structure RdI (w : World) (l0 : List UInt8) (k : Nat) (ext : List Nat) (v : Value) (l : List UInt8) (wr : World) : Prop where
  kind : k = 2 ∨ k = 3
  go : readOf l0 = ((rshape ext l).bind restOf).map fun r => ⟨k, r.2, r.1⟩
  len : ext.length ≤ 3
  all : ∀ n ∈ ext, n ≤ 1000
  sz : l.length ≤ 140737488355328
  res : wr.heap[w.heap.size]? = some (.cells (tCells 0 0 (.slice none 0 0) ⟨#[]⟩) 54 (0, 0))
  tb : wr.heap[w.heap.size + 1]? = some (.cells (tCells k 0 v ⟨#[]⟩) 54 (0, 0))
  own : wr.ownsRow (w.heap.size + 2) 3 1 v ext.length (ext.map (fun (n : Nat) => Value.int .i64 n))
  below : Below w.heap.size w wr
theorem own_mono {W : World} {base b2 : Nat} {e : TypeId} {v : Value} {n : Nat} {xs : List Value} (h : W.ownsRow base e 1 v n xs) (hb : b2 ≤ base) : W.ownsRow b2 e 1 v n xs :=
  ⟨h.1, by
    rcases h.2 with h | ⟨g, c, cur, h1, h2, h3⟩
    · exact .inl h
    · exact .inr ⟨g, c, cur, h1, Nat.le_trans hb h2, h3⟩⟩
def strLen : Value → Nat
  | .string s => s.size
  | _ => 0
theorem isDig_iff {s : ByteArray} (h : 0 < s.size) : isDig s.data.toList = decide (48 ≤ ((s[0]'h).toNat : Int) ∧ ((s[0]'h).toNat : Int) ≤ 57) := by
  have hd := data_get s 0 h
  rw [List.drop_zero] at hd
  rw [hd]
  simp only [isDig]
  rw [Bool.eq_iff_iff]; simp; omega
end Go.Proofs.YthgiianmfehcaaaDoor
