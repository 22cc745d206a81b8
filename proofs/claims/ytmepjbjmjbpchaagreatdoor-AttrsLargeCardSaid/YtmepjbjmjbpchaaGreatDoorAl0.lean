/- AttrsLarge: the list of attributes with long texts. -/
import Derived.Test.YtmepjbjmjbpchaaGreatDoorAs0
import Derived.Laws.MakeOwn
namespace Go.Proofs.YtmepjbjmjbpchaaGreatDoor
open Go Go.RowKit Go.Sort
set_option linter.unusedVariables false
set_option linter.unusedSimpArgs false

/-- A conversion, met by its run. -/
theorem wpList_conv {P : Program} {ops : Array Oper} {rest : List Oper} {o : Oper} {a : Act} {Q : Exit → Act → World → Prop} {w : World} (hgd : o.guard = none) (x : Operand) (src dst : TypeId) (ho : o.op = .convert src dst x) (v : Value) (hx : a.eval x = v)
    (r : Value) (hrun : (convert src dst v).run P w = .ok r w) (h : wpList P ops Q rest (a.put o.dst r) w) : wpList P ops Q (o :: rest) a w := by
  refine wpList_plain hgd fun K hK => ?_
  unfold Oper.wp
  simp [execOp, ho, hx, hrun, Result.andThen]
  exact hK _ _ h
def lgAt (t : ByteArray) (i : Nat) : Atr := ⟨mName i, 1, 0, t, none, [], 0, none, [], 0⟩
def lgL (t : ByteArray) (k : Nat) : List Atr := (List.range k).map (lgAt t)
theorem lgL_succ (t : ByteArray) (k : Nat) : lgL t (k + 1) = lgL t k ++ [lgAt t k] := by unfold lgL; rw [List.range_succ, List.map_append]; rfl
theorem lgL_len (t : ByteArray) (k : Nat) : (lgL t k).length = k := by simp [lgL]
theorem lgL_mem {t : ByteArray} {k : Nat} {a : Atr} (h : a ∈ lgL t k) : ∃ i, i < k ∧ a = lgAt t i := by
  unfold lgL at h
  obtain ⟨i, hi, rfl⟩ := List.mem_map.1 h
  exact ⟨i, List.mem_range.1 hi, rfl⟩
theorem nm_all : (List.range 100).all (fun i => nameOf (mName i).data.toList) = true := by kernel_rfl
theorem nm_ok {i : Nat} (h : i < 100) : nameOf (mName i).data.toList = true := List.all_eq_true.1 nm_all i (List.mem_range.2 h)
theorem lgAt_right {t : ByteArray} (ht : t.size ≤ 1000) {i : Nat} (h : i < 100) : rightA (lgAt t i) = true := by
  unfold rightA ownB aloneB lgAt
  simp [nm_ok h, ht, noNumB, noListsB]
theorem lg_rises (t : ByteArray) {k : Nat} (hk : k ≤ 100) : Rises (lgL t k) := by
  intro i j hij hj
  rw [lgL_len] at hj
  have h1 := rises_of_right mR i j hij (by rw [mL_len]; omega)
  simpa [mL, lgL, mAt, lgAt] using h1
theorem lg_right {t : ByteArray} (ht : t.size ≤ 1000) {k : Nat} (hk : k ≤ 100) : rightL (lgL t k) = true :=
  rightL_of (by rw [lgL_len]; exact hk) (fun a ha => by obtain ⟨i, hi, rfl⟩ := lgL_mem ha; exact lgAt_right ht (by omega)) (lg_rises t hk)
theorem escOf_four {c : UInt8} (h : 128 ≤ c.toNat) : (escOf c).length = 4 := by
  unfold escOf
  rw [if_neg (by intro e; rw [e] at h; revert h; decide), if_neg (by intro e; rw [e] at h; revert h; decide), if_neg (by intro e; rw [e] at h; revert h; decide), if_pos (by omega)]
  rfl
theorem escL_four : ∀ {l : List UInt8}, (∀ c ∈ l, 128 ≤ c.toNat) → (escL l).length = 4 * l.length
  | [], _ => rfl
  | c :: l, h => by
    rw [escL, List.length_append, escOf_four (h c (by simp)), escL_four fun d hd => h d (by simp [hd]), List.length_cons]
    omega
def lgT (b : UInt8) : ByteArray := ⟨(List.replicate 1000 b).toArray⟩
theorem lgT_size (b : UInt8) : (lgT b).size = 1000 := by
  show (List.replicate 1000 b).toArray.size = 1000
  rw [List.size_toArray, List.length_replicate]
theorem lgT_list (b : UInt8) : (lgT b).data.toList = List.replicate 1000 b := rfl
theorem lg_val {b : UInt8} (h : 128 ≤ b.toNat) (i : Nat) : (valD (lgAt (lgT b) i).dat).length = 4002 := by
  have h1 : valD (lgAt (lgT b) i).dat = quoteL (List.replicate 1000 b) := rfl
  rw [h1]
  unfold quoteL
  rw [List.length_cons, List.length_append, escL_four (fun c hc => by rw [List.eq_of_mem_replicate hc]; exact h), List.length_replicate]
  rfl
theorem lgAt_fits (b : UInt8) (i : Nat) : (lgAt (lgT b) i).Fits := plain_fits (by show 3 ≤ _; omega) (by rw [lgT_size]; omega) (by decide) (by decide)
theorem lgL_sl {w : World} {base : Nat} {p : Option Addr} {k c : Nat} {b : UInt8} (h : w.ownsRow base 27 6 (.slice p k c) k ((lgL (lgT b) k).flatMap Atr.cells)) : AtrSl w p (lgL (lgT b) k) :=
  sl_of_own h (lgL_len _ k).symm (fun a ha => by obtain ⟨i, -, rfl⟩ := lgL_mem ha; exact plain_lies w rfl rfl) (fun a ha => by obtain ⟨i, -, rfl⟩ := lgL_mem ha; exact lgAt_fits b i)
/-- A new row while it is filled. -/
def repC (u v : Value) (N j : Nat) : Array Value := (List.replicate j u ++ List.replicate (N - j) v).toArray
theorem repC_zero (u v : Value) (N : Nat) : repC u v N 0 = madeCells #[v] N := by
  apply Array.ext
  · simp [repC, madeCells]
  · intro i h1 h2
    have hr : (madeCells #[v] N)[i] = v := by simp [madeCells, Nat.mod_one]
    rw [hr]
    have hc : repC u v N 0 = (List.replicate N v).toArray := by unfold repC; rw [List.replicate_zero, List.nil_append]; rfl
    have h3 : i < (List.replicate N v).toArray.size := by rw [← hc]; exact h1
    have h4 : (List.replicate N v).toArray[i]? = some v := by
      rw [List.getElem?_toArray, List.getElem?_replicate, if_pos (by simpa using h3)]
    rw [← hc, Array.getElem?_eq_getElem h1] at h4
    exact Option.some.inj h4
theorem repC_at {u v : Value} {N j : Nat} (h : j < N) : (repC u v N j)[j]? = some v := by
  unfold repC
  rw [List.getElem?_toArray, List.getElem?_append_right (by simp), List.length_replicate, Nat.sub_self, List.getElem?_replicate, if_pos (by omega)]
theorem repC_set {u v : Value} {N j : Nat} (h : j < N) : (repC u v N j).setIfInBounds j u = repC u v N (j + 1) := by
  unfold repC
  apply Array.ext'
  simp only [List.setIfInBounds_toArray]
  rw [List.set_append_right _ _ (by simp), List.length_replicate, Nat.sub_self, show N - j = (N - (j + 1)) + 1 by omega, List.replicate_succ, List.set_cons_zero, List.replicate_succ']
  simp
theorem repC_full {u v : Value} {N j : Nat} (h : j < N) : (repC u v N N)[j]? = some u := by
  unfold repC
  rw [List.getElem?_toArray, List.getElem?_append_left (by rw [List.length_replicate]; exact h), List.getElem?_replicate, if_pos h]
/-- The new bytes while they are filled. -/
def lgC (z : Int) (j : Nat) : Array Value := repC (.int .u8 (128 + z % 128)) (.int .u8 0) 1000 j
theorem lgC_zero (z : Int) : lgC z 0 = madeCells #[.int .u8 0] 1000 := repC_zero _ _ _
theorem lgC_at {z : Int} {j : Nat} (h : j < 1000) : (lgC z j)[j]? = some (.int .u8 0) := repC_at h
theorem lgC_set {z : Int} {j : Nat} (h : j < 1000) : (lgC z j).setIfInBounds j (.int .u8 (128 + z % 128)) = lgC z (j + 1) := repC_set h
def lgB (z : Int) : UInt8 := UInt8.ofNat (128 + z % 128).toNat
theorem lgB_nat (z : Int) : ((lgB z).toNat : Int) = 128 + z % 128 := by
  unfold lgB
  rw [UInt8.toNat_ofNat']
  have h1 : 0 ≤ z % 128 := Int.emod_nonneg _ (by decide)
  have h2 : z % 128 < 128 := Int.emod_lt_of_pos _ (by decide)
  omega
theorem lgB_big (z : Int) : 128 ≤ (lgB z).toNat := by
  have := lgB_nat z
  have h1 : 0 ≤ z % 128 := Int.emod_nonneg _ (by decide)
  omega
theorem lg_conv {W : World} {B : Nat} {z : Int} (h : W.heap[B]? = some (.cells (lgC z 1000) 5 (0, 0))) : (convert 60 9 (.slice (some ⟨B, 0, none⟩) 1000 1000)).run Tryz.prog W = .ok (.string (lgT (lgB z))) W := by
  have hl : 1000 = (List.replicate 1000 (lgB z)).length := by rw [List.length_replicate]
  have h1 := run_convert_bytes_back (P := Tryz.prog) W 60 9 5 ⟨B, 0, none⟩ 1000 (List.replicate 1000 (lgB z)) Tryz.underlying60 Tryz.underlying5 Tryz.underlying9 (fun j hj => by
    have hj' : j < 1000 := by rw [List.length_replicate] at hj; exact hj
    have hadd : (⟨B, 0, none⟩ : Addr).add j = ⟨B, 0 + j, none⟩ := by
      unfold Addr.add; split
      · rename_i h0; subst h0; rfl
      · rfl
    rw [hadd, Nat.zero_add, blkCell h]
    refine (repC_full hj').trans ?_
    rw [List.getElem_replicate, lgB_nat])
  rw [← hl] at h1
  exact h1
end Go.Proofs.YtmepjbjmjbpchaaGreatDoor

