/- types.text. -/
import Derived.Test.YthgiianmfehcaaaDoorTyA
import Derived.Test.YthgiianmfehcaaaDoorBld
import Derived.Lib.AppendIntMem
namespace Go.Proofs.YthgiianmfehcaaaDoor
open Go Go.RowKit Go.Sort
set_option linter.unusedVariables false
set_option linter.unusedSimpArgs false

/-- strconv's table of powers of ten lies in the heap. -/
abbrev Pow (w : World) : Prop := Lib.TabIs Tryd.prog w "internal/strconv.uint64pow10" .u64 Lib.pow10Tab
theorem pow_below {w w' : World} (h : Pow w) (hb : Below w.heap.size w w') : Pow w' := Lib.tabBelow_of_tabIs h w' hb
theorem below_grow (w : World) (k : Nat) (os : Array Obj) : Below w.heap.size w (grow (w.drewN k) os) :=
  ⟨rfl, rfl, rfl, Lib.size_grow w k os, fun j hj => by
    show (w.heap ++ os)[j]? = _
    rw [Array.getElem?_append_left hj]⟩

theorem isB_below {B b : Nat} {bs : List Value} {W W' : World} (h : IsB B b bs W) (hb : Below W.heap.size W W') : IsB B b bs W' := by
  have key : ∀ p, Lib.BuilderAt 100 5 B b p bs W → Lib.BuilderAt 100 5 B b p bs W' := by
    rintro p ⟨hB, v, hbk, hown, hne⟩
    refine ⟨hB, v, blkBelow hbk hb, ⟨hown.1, ?_⟩, hne⟩
    rcases hown.2 with h1 | ⟨g, cap, cur, e1, e2, e3, e4⟩
    · exact .inl h1
    · exact .inr ⟨g, cap, cur, e1, e2, blkBelow e3 hb, e4⟩
  rcases h with h | h
  · exact .inl (key _ h)
  · exact .inr (key _ h)

def extStr (zs : List Int) : List UInt8 := zs.flatMap fun n => Lib.itoa n ++ [120]
def kwStr (k : Int) : List UInt8 := if k = 2 then [109, 101, 109, 60] else [97, 114, 114, 60]
/-- A type with cells. -/
def textOf (k : Int) (zs : List Int) (el : List UInt8) : List UInt8 := kwStr k ++ extStr zs ++ el ++ [62]
theorem extStr_snoc {zs : List Int} {i : Nat} (h : i < zs.length) : extStr (zs.take (i + 1)) = extStr (zs.take i) ++ (Lib.itoa (zs.getD i 0) ++ [120]) := by
  rw [List.take_add_one, List.getElem?_eq_getElem h]
  unfold extStr
  rw [List.flatMap_append]
  simp [h]
theorem digs_le : ∀ (d n : Nat), n < 10 ^ (d + 1) → Lib.nDigits n ≤ d + 1
  | 0, n, h => by unfold Lib.nDigits; rw [dif_pos (by simpa using h)]; omega
  | d + 1, n, h => by
    unfold Lib.nDigits
    split
    · omega
    · have := digs_le d (n / 10) (by rw [Nat.div_lt_iff_lt_mul (by decide)]; rw [Nat.pow_succ] at h; exact h)
      omega
theorem itoa_len {n : Int} (h0 : 0 ≤ n) (h1 : n ≤ 1000) : (Lib.itoa n).length ≤ 4 := by
  unfold Lib.itoa
  rw [if_neg (by omega), Lib.decDigits_length]
  exact digs_le 3 n.toNat (by omega)
theorem extStr_len : ∀ (zs : List Int), (∀ z ∈ zs, 0 ≤ z ∧ z ≤ 1000) → (extStr zs).length ≤ 5 * zs.length
  | [], _ => by simp [extStr]
  | z :: zs, h => by
    have h1 := itoa_len (h z (by simp)).1 (h z (by simp)).2
    have h2 := extStr_len zs fun x hx => h x (by simp [hx])
    have : extStr (z :: zs) = Lib.itoa z ++ [120] ++ extStr zs := by simp [extStr]
    rw [this]
    simp
    omega
theorem itoa_str (n : Int) (h0 : 0 ≤ n) (h1 : n ≤ 1000) (w : World) (hp : Pow w) :
    Calls Tryd.prog 72 #[.int .i64 n] w fun e w' => ∃ t : ByteArray, e = .returned (.string t) ∧ Hid (t.data.toList = Lib.itoa n) ∧ t.size ≤ 4 ∧ Below w.heap.size w w' :=
  (Tryd.strconv_Itoa n (by omega) (by omega) w hp).mono fun e w' ⟨he, k, os, hw⟩ => ⟨_, he, rfl, by have := itoa_len h0 h1; simpa [ByteArray.size] using this, by rw [hw]; exact below_grow w k os⟩
theorem words_lookup (k : Nat) (hk : k = 2 ∨ k = 3) {W : World} {m : Nat} (h : W.heap[m]? = some (.map wordEs 2)) :
    (Instr.lookup 105 (.map (some m)) (.int .i64 k) false).run Tryd.prog W = .ok (.string ⟨(kwStr k).toArray⟩) W := by
  rcases hk with rfl | rfl
  · rw [run_lookup_hit (i := 0) (v := .string ⟨(kwStr 2).toArray⟩) Tryd.underlying105 Tryd.underlying26 (fun b => run_checkKey_int Tryd.underlying26 b _ _) rfl h]; rfl
  · rw [run_lookup_hit (i := 1) (v := .string ⟨(kwStr 3).toArray⟩) Tryd.underlying105 Tryd.underlying26 (fun b => run_checkKey_int Tryd.underlying26 b _ _) rfl h]; rfl
structure TxI (w : World) (pre : List UInt8) (W : World) : Prop where
  bld : IsB w.heap.size w.heap.size (Lib.byteCells pre) W
  below : Below w.heap.size w W

set_option maxHeartbeats 2000000 in
set_option maxRecDepth 100000 in
theorem text_any (k : Nat) (hk : k = 2 ∨ k = 3) (a : Option Addr) (n c : Nat) (zs : List Int) (el : ByteArray) (w : World) (hp : Pow w) (hzl : zs.length = n) (hz : ∀ z ∈ zs, 0 ≤ z ∧ z ≤ 1000) (hn : n ≤ 3) (hel : el.size ≤ 1000)
    (hc : ∀ j, j < n → ∃ g off, a = some ⟨g, off, none⟩ ∧ g < w.heap.size ∧ w.cell? ⟨g, off + j, none⟩ = some (.int .i64 (zs.getD j 0))) :
    Calls Tryd.prog 44 #[.int .i64 k, .slice a n c, .string el] w fun e w' => e = .returned (.string ⟨(textOf k zs el.data.toList).toArray⟩) ∧ Below w.heap.size w w' := by
  have HC := Lib.hid hc; clear hc
  have HZ := Lib.hid hz; clear hz
  have HP := Lib.hid hp; clear hp
  have HK := Lib.hid hk
  have hkl : (kwStr k).length = 4 := by rcases hk with rfl | rfl <;> rfl
  go_enter Tryd.func44, Tryd.ntmps44
  go_wp2_with (first
    | (go_at_call 71; refine (words_m _).mono ?_; rintro e w2 ⟨m, rfl, hm, hsz, hmp, hb2⟩; (have hlook := words_lookup k HK.out hmp); (have HM := Lib.hid hb2); clear hm hsz hmp hb2)
    | (go_at_call 70; refine (bld_write w.heap.size w.heap.size (Lib.byteCells []) _ _ (isB_below (Lib.fresh_isBuilder _ _ w) HM.out) ?_ ?_).mono ?_; (simp [ByteArray.size, hkl, Lib.byteCells]); (have := HM.out.size; simp at this; omega); rintro e w3 ⟨rfl, hbw, hb3⟩))
  · have hI : TxI w (kwStr k) w3 := ⟨by rw [Lib.strCells_toArray] at hbw; exact hbw, ((Below.refl _ w).alloc (Nat.le_refl _) _).trans ((HM.out.mono (by simp)).trans (hb3.mono (Nat.le_refl _)))⟩
    clear hb3 hbw HM hlook
    go_loopw [16] (fun i wr => ∃ j : Nat, j ≤ n ∧ i = .int .i64 j ∧ TxI w (kwStr k ++ extStr (zs.take j)) wr) (fun i _ => n - (intOf i).toNat)
    · exact ⟨0, Nat.zero_le _, rfl, by simpa [extStr] using hI⟩
    · clear hI
      obtain ⟨j, hj, rfl, hI⟩ := hrel
      obtain ⟨pre, hpre⟩ : ∃ pre, pre = kwStr k ++ extStr (zs.take j) := ⟨_, rfl⟩
      rw [← hpre] at hI
      have hplen : pre.length ≤ 19 := by
        have h1 := extStr_len (zs.take j) (fun z h => HZ.out z (List.mem_of_mem_take h))
        have h2 : (zs.take j).length ≤ 3 := by simp; omega
        rw [hpre, List.length_append, hkl]; omega
      have HPRE := Lib.hid hpre; clear hpre
      rcases Nat.lt_or_ge j n with hlt | hge
      · obtain ⟨g, off, rfl, hg, hcell⟩ := HC.out j hlt
        obtain ⟨z, hz⟩ : ∃ z, z = zs.getD j 0 := ⟨_, rfl⟩
        have hcw : wr.cell? ⟨g, off + j, none⟩ = some (.int .i64 z) := by rw [rdCell hI.below g hg, hz]; exact hcell
        have hzr := HZ.out z (by rw [hz, List.getD_eq_getElem?_getD, List.getElem?_eq_getElem (by omega)]; exact List.getElem_mem _)
        have hsn := extStr_snoc (zs := zs) (i := j) (by omega)
        rw [← hz] at hsn
        have HSN := Lib.hid hsn
        have HI := Lib.hid hI
        clear hz hcell hg hsn hI
        obtain ⟨hz0, hz1⟩ := hzr
        go_wp2_with (first
          | (go_at_call 72; refine (itoa_str z hz0 hz1 wr ?_).mono ?_; (exact pow_below HP.out HI.out.below); rintro e w4 ⟨t, rfl, ht, htl, hb4⟩)
          | (go_at_call 70; refine (bld_write w.heap.size w.heap.size (Lib.byteCells pre) _ w4 ?_ ?_ ?_).mono ?_; (exact isB_below HI.out.bld hb4); (rw [Lib.byteCells_length, ByteArray.size_append]; have h120 : (ByteArray.mk #[120]).size = 1 := rfl; omega); (exact Nat.le_trans HI.out.below.size hb4.size); rintro e w5 ⟨rfl, hbw, hb5⟩))
        go_roundw
        · refine ⟨j + 1, hlt, by simp, ?_, ?_⟩
          · have e1 : Lib.byteCells (kwStr k ++ extStr (zs.take (j + 1))) = Lib.byteCells pre ++ Lib.strCells (t ++ ⟨#[120]⟩) := by
              rw [HSN.out, HPRE.out, Lib.strCells_eq, ← ht.out, ← Lib.byteCells_append, List.append_assoc]
              congr 3
            rw [e1]; exact hbw
          · exact (HI.out.below.trans (hb4.mono HI.out.below.size)).trans (hb5.mono (Nat.le_refl _))
        · simp [intOf]; omega
      · have HI := Lib.hid hI; clear hI
        go_wp2_with (first
          | (go_at_call 73; refine (Tryd.Builder_String_any w.heap.size w.heap.size pre wr ?_ ?_).mono ?_; (exact HI.out.bld); (exact HI.out.below.size); rintro e w4 ⟨rfl, hb4⟩))
        go_ret
        refine ⟨?_, HI.out.below.trans hb4⟩
        have hj' : j = n := by omega
        have hzs : zs.take n = zs := by rw [← hzl]; exact List.take_length
        have e1 : (⟨pre.toArray⟩ ++ el ++ ⟨#[62]⟩ : ByteArray) = ⟨(textOf k zs el.data.toList).toArray⟩ := by
          apply ByteArray.ext
          rw [textOf, ← hzs, ← hj', ← HPRE.out]
          apply Array.ext'
          simp
        rw [← e1]
        rfl
end Go.Proofs.YthgiianmfehcaaaDoor
