/- Texts of this claim, laid together: Ax4, Az1, Ae0, Ae1, TyB, TyC, TyE, TyF, TyG, TyH, Rf2, Rf3, Aw0, Run, Aw1, Lw0, Lw1, LwL, Jn0. -/
import Derived.Deep.RegionLaw
import Derived.Laws.IdiomCopy
import Derived.Lib.LazyBuf
import Derived.WalkMore
import Derived.Deep.Cut
import Derived.Test.YtmepjbjmjbpchaaGreatDoorMg1
import Derived.Test.YtmepjbjmjbpchaaGreatDoorMg4
import Derived.Test.YtmepjbjmjbpchaaGreatDoorMg5
import Derived.Test.YtmepjbjmjbpchaaGreatDoorMg7
import Derived.Test.YtmepjbjmjbpchaaGreatDoorMg9
import Derived.Test.YtmepjbjmjbpchaaGreatDoorMg12
import Derived.Test.YtmepjbjmjbpchaaGreatDoorMg13
import Derived.Test.YtmepjbjmjbpchaaGreatDoorMg14
import Derived.Test.YtmepjbjmjbpchaaGreatDoorMg15
section
/- attrs.list, short, Value, Print, Whole. -/
namespace Go.Proofs.YtmepjbjmjbpchaaGreatDoor
open Go Go.RowKit
set_option linter.unusedVariables false
set_option linter.unusedSimpArgs false

/-- An attribute's string. -/
def itemD (d : Dat) : List UInt8 := d.name.data.toList ++ [32, 61, 32] ++ valD d
/-- A list's string. -/
def listD (ds : List Dat) : List UInt8 := if ds = [] then [] else 123 :: (Lib.join (ds.map itemD) [44, 32] ++ [125])
def itemB (a : Atr) : ByteArray := a.name ++ ⟨#[32, 61, 32]⟩ ++ ⟨(valD a.dat).toArray⟩
theorem itemB_list (a : Atr) : (itemB a).data.toList = itemD a.dat := by simp [itemB, itemD, Atr.dat]
theorem rightA_name {a : Atr} (h : rightA a = true) : a.name.size ≤ 60 := by
  unfold rightA at h
  simp only [Bool.and_eq_true] at h
  have := h.1.1.2
  refine Nat.le_of_not_lt fun h3 => ?_
  rw [nameOf_long (by simpa using h3)] at this; cases this
theorem rightL_mem {l : List Atr} (h : rightL l = true) : ∀ a ∈ l, rightA a = true := by
  intro a ha
  unfold rightL at h
  simp only [Bool.and_eq_true, List.all_eq_true] at h
  obtain ⟨j, hj, rfl⟩ := List.mem_iff_getElem.1 ha
  have := h.2 j (List.mem_range.2 hj)
  unfold okAt at this
  rw [List.getElem?_eq_getElem hj] at this
  simp only [Bool.and_eq_true] at this
  exact this.1
theorem rightL_len {l : List Atr} (h : rightL l = true) : l.length ≤ 100 := by
  unfold rightL at h
  simp only [Bool.and_eq_true, decide_eq_true_eq] at h
  exact h.1
theorem items_len {l : List Atr} (h : ∀ a ∈ l, rightA a = true) (hf : ∀ a ∈ l, a.Fits) (hl : l.length ≤ 100) : (Lib.join ((l.map itemB).map (·.data.toList)) [44, 32]).length ≤ 2000000 := by
  have := join_len 10065 ((l.map itemB).map (·.data.toList)) (fun x hx => by
    simp only [List.mem_map] at hx
    obtain ⟨y, ⟨a, ha, rfl⟩, rfl⟩ := hx
    rw [itemB_list]
    have h1 := rightA_name (h a ha)
    have h2 := valD_len (h a ha) (hf a ha)
    simp [itemD, Atr.dat] at h2 ⊢; omega)
  simp at this ⊢; omega

theorem cell_grown {W W' : World} {row : Option Nat} (hg : W.grownBy W' row) (b : Nat) (hb : b < W.heap.size) (hne : row = some b → False) : ∀ off, W'.cell? ⟨b, off, none⟩ = W.cell? ⟨b, off, none⟩ :=
  fun off => World.cell?_of_block (a := ⟨b, off, none⟩) (hg.block b hb (fun e => hne e.symm))
set_option maxRecDepth 262144 in
set_option maxHeartbeats 4000000 in
theorem list_any (p : Option Addr) (c : Nat) (l : List Atr) (w : World) (hs : AtrSl w p l) (hr : ∀ a ∈ l, rightA a = true) (hl : l.length ≤ 100) (hp : Pow w) :
    Calls Tryz.prog 53 #[.slice p l.length c] w fun e w' => e = .returned (.string ⟨(listD (l.map Atr.dat)).toArray⟩) ∧ Below w.heap.size w w' := by
  by_cases hnil : l = []
  · subst hnil
    clear hs hr hp
    go_enter Tryz.func53, Tryz.ntmps53
    go_wp2_with fail
    go_ret
    exact ⟨rfl, Below.refl _ _⟩
  · obtain ⟨i0, hin, hz0, hz1, hz2⟩ := info_parts (show (Tryz.prog.info? 9).map (fun i => (i.zero, i.size, i.bytes)) = some (some (.string ⟨#[]⟩), 1, 16) by kernel_rfl)
    have hpos : 0 < l.length := List.length_pos_iff.2 hnil
    have hjl := Lib.hid (items_len hr hs.fits hl)
    have HS := Lib.hid hs
    have HR := Lib.hid hr
    have HP := Lib.hid hp
    have HNIL := Lib.hid hnil
    obtain ⟨N, hN⟩ : ∃ N, N = l.length := ⟨_, rfl⟩
    rw [← hN] at hl hpos ⊢
    have HN := Lib.hid hN
    have hne : ((N : Int) == 0) = false := by simp; omega
    clear hs hr hp hN hnil
    go_enter Tryz.func53, Tryz.ntmps53
    go_wp2_with fail
    go_loopw [3, 11] (fun v i wr => ∃ (j : Nat) (sa : Option Addr) (sc : Nat), v = .slice sa j sc ∧ i = .int .i64 j ∧ j ≤ N ∧ wr.ownsRow w.heap.size 9 1 (.slice sa j sc) j (((l.map itemB).take j).map .string) ∧ Below w.heap.size w wr) (fun _ i _ => N - (intOf i).toNat)
    case atStart => exact ⟨0, none, 0, rfl, rfl, Nat.zero_le _, World.ownsRow_nil _ _ _ _, Below.refl _ _⟩
    case round =>
      obtain ⟨j, sa, sc, rfl, rfl, hj, ho, hb⟩ := hrel
      have HO := Lib.hid ho
      have HB := Lib.hid hb
      have hszw := hb.size
      clear ho hb
      rcases Nat.lt_or_ge j N with hlt | hge
      · have hl0 : j < l.length := by rw [← HN.out]; exact hlt
        have hsw := HS.out.below HB.out
        obtain ⟨g, off, rfl, hg, hrow⟩ := hsw.row hl0
        obtain ⟨a0, ha0⟩ : ∃ a0, a0 = l[j] := ⟨_, rfl⟩
        have hcj := hrow j hl0
        rw [← ha0] at hcj
        have hmem : a0 ∈ l := by rw [ha0]; exact List.getElem_mem _
        have HLI := Lib.hid (fun (W : World) (hb : Below wr.heap.size wr W) => (hsw.lies a0 hmem).below hb)
        have HFI := Lib.hid (hsw.fits a0 hmem)
        have HRI := Lib.hid (HR.out a0 hmem)
        have hj0 : (0 : Int) ≤ (j : Int) := by omega
        have hjl' : (j : Int) < (N : Int) := by omega
        have hn60 := rightA_name HRI.out
        have hv := valD_len HRI.out HFI.out
        have HTK : Hid ((l.map itemB).take (j + 1) = (l.map itemB).take j ++ [itemB a0]) := Lib.hid (by
          rw [List.take_add_one, List.getElem?_map, List.getElem?_eq_getElem hl0, ha0]; rfl)
        obtain ⟨vs, hvs⟩ : ∃ vs : ByteArray, vs = ⟨(valD a0.dat).toArray⟩ := ⟨_, rfl⟩
        have hvl : vs.size ≤ 10002 := by rw [hvs]; simpa [ByteArray.size] using hv
        have HVS := Lib.hid hvs
        clear ha0 hrow hsw hmem hv hvs
        obtain ⟨k0, k1, k2, k3, k4, k5⟩ := hcj
        have hs1 : ∀ W : World, (Op.stringOp .add a0.name ⟨#[32, 61, 32]⟩).run Tryz.prog W = .ok (.string (a0.name ++ ⟨#[32, 61, 32]⟩)) W := fun W => run_string_add_sum W _ _ (by have : (⟨#[32, 61, 32]⟩ : ByteArray).size = 3 := rfl; omega)
        have hs2 : ∀ W : World, (Op.stringOp .add (a0.name ++ ⟨#[32, 61, 32]⟩) vs).run Tryz.prog W = .ok (.string (a0.name ++ ⟨#[32, 61, 32]⟩ ++ vs)) W := fun W => run_string_add_sum W _ _ (by have : (⟨#[32, 61, 32]⟩ : ByteArray).size = 3 := rfl; rw [ByteArray.size_append]; omega)
        have hrlt := Lib.hid HO.out.lt
        have hj9 : j < 100 := by omega
        go_wp2_with fail
        go_region_held3 (fun w' => w'.cell? ⟨wr.heap.size, 0, none⟩ = some (.string a0.name) ∧ w'.cell? ⟨wr.heap.size, 0 + 1, none⟩ = some (.int .i64 a0.kind) ∧ w'.cell? ⟨wr.heap.size, 0 + 2, none⟩ = some (.int .i64 a0.num) ∧ w'.cell? ⟨wr.heap.size, 0 + 3, none⟩ = some (.string a0.text) ∧ w'.cell? ⟨wr.heap.size, 0 + 4, none⟩ = some (.slice a0.ia a0.ints.length a0.ic) ∧ w'.cell? ⟨wr.heap.size, 0 + 5, none⟩ = some (.slice a0.ta a0.texts.length a0.tc)) (go_keep)
          (first
            | (go_at_call 45; refine (textA_any a0 _ (HLI.out _ ?_) HFI.out HRI.out (pow_below HP.out (below_own' HB.out ?_))).mono ?_; (focus ((repeat (first | (with_reducible refine below_set ?_ (by first | exact Nat.le_refl _ | omega) _ _) | with_reducible exact Below.refl _ _ | with_reducible refine belowA ?_ _ | with_reducible refine belowD ?_ | with_reducible refine belowN ?_ _)); done)); (focus ((repeat (first | (with_reducible refine below_set ?_ (by first | exact Nat.le_refl _ | omega) _ _) | with_reducible exact Below.refl _ _ | with_reducible refine belowA ?_ _ | with_reducible refine belowD ?_ | with_reducible refine belowN ?_ _)); done)); rintro e w2 ⟨rfl, hb2⟩; rw [← HVS.out]; have c2 := rdCell hb2 wr.heap.size (by first | (simp; done) | (simp; omega)); have hzz : wr.heap.size < w2.heap.size := (by have := Below.size hb2; simp at this; omega))
            | (rw [if_pos (by rfl)]; refine wp_append_own _ _ _ 25 rfl w.heap.size 9 i0 (.string ⟨#[]⟩) 1 16 Tryz.underlying25 hin hz0 hz1 hz2 rfl (by decide) _ _ _ rfl ((own_below HO.out (by (repeat (first | (with_reducible refine below_set ?_ (by first | exact Nat.le_refl _ | omega) _ _) | with_reducible exact Below.refl _ _ | with_reducible refine belowA ?_ _ | with_reducible refine below_own' ?_ hb2 | with_reducible refine belowD ?_ | with_reducible refine belowN ?_ _)))).alloc _) ⟨w2.heap.size, 0, none⟩ 1 1 [.string (a0.name ++ ⟨#[32, 61, 32]⟩ ++ vs)] rfl rfl ?c1 ?c2 ?c3 ?c4 ?c5 ?_;
                (focus (case c1 => (intro t u hj; match t, hj with | 0, hj => simp at hj; subst hj; simp [Addr.add]))); (focus (case c2 => (intro u hu; simp at hu; subst hu; rfl))); (focus (case c3 => (unfold maxLen; omega))); (focus (case c4 => omega)); (focus (case c5 => (have := hb2.size; simp at this ⊢; omega)));
                intro v' w3 hown' hgrow hnil3; obtain ⟨sa', sc', rfl⟩ := own_slice hown'; clear hnil3; have c3 := cell_grown hgrow wr.heap.size (by first | (simp; done) | (simp; omega)) (fun e => by have := (hrlt.out _ e).2; omega)))
        have HOWN3 := Lib.hid (show w3.ownsRow w.heap.size 9 1 (.slice sa' (j + 1) sc') (j + 1) (((l.map itemB).take (j + 1)).map .string) by rw [HTK.out, itemB, ← HVS.out]; simpa using hown')
        have HB3 := Lib.hid (show Below w.heap.size w w3 from (belowA (show Below w.heap.size w w2 from below_own' HB.out (by (repeat (first | (with_reducible refine below_set ?_ (by first | exact Nat.le_refl _ | omega) _ _) | with_reducible exact Below.refl _ _ | with_reducible refine belowA ?_ _ | with_reducible refine below_own' ?_ hb2 | with_reducible refine belowD ?_ | with_reducible refine belowN ?_ _)))) _).grown hgrow (by simp; omega) (fun k hk => (HO.out.lt k hk).1))
        clear hown'
        go_wp2_with fail
        go_roundw
        · exact ⟨j + 1, sa', sc', by go_num, by go_num, by omega, HOWN3.out, HB3.out⟩
        · simp [intOf]; omega
      · obtain rfl : N = j := by omega
        have htk : (l.map itemB).take N = l.map itemB := List.take_of_length_le (by simp [HN.out])
        have ho := HO.out
        rw [htk] at ho
        have hlm : (l.map itemB).length = N := by simp [HN.out]
        have hsl := own_strs (zs := l.map itemB) ho
        obtain ⟨sa', sc', he, hcap, -⟩ := own_form ho
        cases he
        have HJ := Lib.hid (join_sl' hsl sc (by rw [hlm]; exact hcap) (by rw [hlm]; omega) (Nat.le_trans hjl.out (by omega)))
        rw [hlm] at HJ
        clear hcap ho hsl hlm htk
        go_wp2_with (go_at_call 79; refine HJ.out.mono ?_; rintro e w2 ⟨t, rfl, ht, hts, hb2⟩)
        go_ret
        refine ⟨?_, below_own' HB.out hb2⟩
        have e1 : (⟨#[123]⟩ ++ t ++ ⟨#[125]⟩ : ByteArray) = ⟨(listD (l.map Atr.dat)).toArray⟩ := by
          apply ByteArray.ext
          apply Array.ext'
          have hm : (l.map itemB).map (fun x => x.data.toList) = (l.map Atr.dat).map itemD := by
            rw [List.map_map, List.map_map]; apply List.map_congr_left; intro a _; exact itemB_list a
          rw [listD, if_neg (by simpa using HNIL.out), ← hm, ← ht.out]
          simp
        rw [← e1]; rfl

/-- The string of a list, if it is not too long. -/
def shortPost (s : List UInt8) (w : World) (e : Ending) (w' : World) : Prop :=
  (if s.length ≤ 262144 then e = .returned (.tuple #[.string ⟨s.toArray⟩, .int .i64 0]) else e = .returned (.tuple #[.string ⟨#[]⟩, .int .i64 2])) ∧ Below w.heap.size w w'
theorem short_any (s : List UInt8) (w : World) : Calls Tryz.prog 59 #[.string ⟨s.toArray⟩] w (shortPost s w) := by
  obtain ⟨t, ht⟩ : ∃ t : ByteArray, t = ⟨s.toArray⟩ := ⟨_, rfl⟩
  have hz : t.size = s.length := by rw [ht]; simp [ByteArray.size]
  rw [← ht]
  have HT := Lib.hid ht
  have HZ := Lib.hid hz
  rcases Nat.lt_or_ge 262144 t.size with h | h
  all_goals
    clear ht hz
    go_enter Tryz.func59, Tryz.ntmps59
    go_wp2_with fail
    go_ret2
    refine ⟨?_, Below.refl _ _⟩
    rw [← HZ.out]
  · rw [if_neg (by omega)]; rfl
  · rw [if_pos h, ← HT.out]; rfl
/-- What Value and Print answer. -/
def SaidPost (ok : Bool) (s : List UInt8) (w : World) (e : Ending) (w' : World) : Prop :=
  (if ok then (if s.length ≤ 262144 then e = .returned (.tuple #[.string ⟨s.toArray⟩, .int .i64 0]) else e = .returned (.tuple #[.string ⟨#[]⟩, .int .i64 2])) else e = .returned (.tuple #[.string ⟨#[]⟩, .int .i64 20])) ∧ Below w.heap.size w w'
theorem print_any (p : Option Addr) (c : Nat) (l : List Atr) (w : World) (hs : AtrSl w p l) (hl : l.length ≤ 100000000000000) (hp : Pow w) :
    Calls Tryz.prog 30 #[.slice p l.length c] w (SaidPost (rightL l) (listD (l.map Atr.dat)) w) := by
  have HS := Lib.hid (fun (W : World) (hb : Below w.heap.size w W) => hs.below hb)
  have HP := Lib.hid hp
  have hc := check_any' p c l w hs hl
  unfold CkPost at hc
  obtain ⟨r, hr⟩ : ∃ r, r = rightL l := ⟨_, rfl⟩
  rw [← hr]
  rw [← hr] at hc
  have HC := Lib.hid hc
  clear hc
  have HR := Lib.hid hr
  clear hs hp hr
  cases r with
  | false =>
    go_enter Tryz.func30, Tryz.ntmps30
    go_wp2_with (go_at_call 19; refine HC.out.mono ?_; rintro e w1 ⟨rfl, hb1⟩; simp only [Bool.false_eq_true, if_false])
    go_ret2
    exact ⟨rfl, hb1⟩
  | true =>
    go_enter Tryz.func30, Tryz.ntmps30
    go_wp2_with (first
      | (go_at_call 19; refine HC.out.mono ?_; rintro e w1 ⟨rfl, hb1⟩; simp only [if_true])
      | (go_at_call 53; refine (list_any p c l _ (HS.out _ ?_) (rightL_mem HR.out.symm) (rightL_len HR.out.symm) (pow_below HP.out ?_)).mono ?_; (focus ((repeat (first | (with_reducible refine below_set ?_ (by first | exact Nat.le_refl _ | omega) _ _) | with_reducible exact Below.refl _ _ | with_reducible refine belowA ?_ _ | with_reducible refine below_own' ?_ hb1 | with_reducible refine belowD ?_ | with_reducible refine belowN ?_ _)); done)); (focus ((repeat (first | (with_reducible refine below_set ?_ (by first | exact Nat.le_refl _ | omega) _ _) | with_reducible exact Below.refl _ _ | with_reducible refine belowA ?_ _ | with_reducible refine below_own' ?_ hb1 | with_reducible refine belowD ?_ | with_reducible refine belowN ?_ _)); done)); rintro e w2 ⟨rfl, hb2⟩)
      | (go_at_call 59; refine (short_any _ _).mono ?_; rintro e w3 ⟨he, hb3⟩; split at he; all_goals (subst he)))
    all_goals go_ret2
    all_goals refine ⟨?_, by (repeat (first | (with_reducible refine below_set ?_ (by first | exact Nat.le_refl _ | omega) _ _) | with_reducible exact Below.refl _ _ | with_reducible refine belowA ?_ _ | with_reducible refine below_own' ?_ hb3 | with_reducible refine below_own' ?_ hb2 | with_reducible refine below_own' ?_ hb1 | with_reducible refine belowD ?_ | with_reducible refine belowN ?_ _))⟩
    · rw [if_pos rfl, if_pos (by assumption)]; rfl
    · rw [if_pos rfl, if_neg (by assumption)]; rfl
end Go.Proofs.YtmepjbjmjbpchaaGreatDoor
end
section
/- attrs.guess at the strings that the examples use. -/
namespace Go.Proofs.YtmepjbjmjbpchaaGreatDoor
open Go Go.RowKit
set_option linter.unusedVariables false
set_option linter.unusedSimpArgs false

theorem not_empty {s : ByteArray} (h : 0 < s.size) : s.toList.isEmpty = false := by
  cases he : s.toList.isEmpty with
  | false => rfl
  | true =>
    have e := (toList_nil_iff s).1 (List.isEmpty_iff.1 he)
    have : s.size = 0 := by rw [ByteArray.size, ← Array.length_toList, e]; rfl
    omega
theorem mixed_in : Tryz.prog.follows .mixedOrders = true := by kernel_rfl
set_option maxRecDepth 100000 in
set_option maxHeartbeats 4000000 in
theorem guess_nil (nm : ByteArray) (w : World) :
    Calls Tryz.prog 43 #[.string nm, .string ⟨#[]⟩] w fun e w' => e = .returned (av nm 0 0 ⟨#[]⟩ none 0 0 none 0 0) ∧ Below w.heap.size w w' := by
  go_enter Tryz.func43, Tryz.ntmps43
  go_wp2_with fail
  refine bodyPost_ret (v := av nm 0 0 ⟨#[]⟩ none 0 0 none 0 0) (by simp [results, Tryz.results43, go_sem]) rfl ?_
  exact ⟨rfl, by (repeat (first | (with_reducible refine below_set ?_ (by first | exact Nat.le_refl _ | omega) _ _) | with_reducible exact Below.refl _ _ | with_reducible refine belowA ?_ _ | with_reducible refine belowD ?_ | with_reducible refine belowN ?_ _))⟩
set_option maxRecDepth 100000 in
set_option maxHeartbeats 4000000 in
theorem guess_sym (nm s : ByteArray) (w : World) (h0 : 0 < s.size) (hc : (s[0]'h0).toNat = 64) (hs : s.size ≤ 140737488355328) :
    Calls Tryz.prog 43 #[.string nm, .string s] w fun e w' => e = .returned (av nm 2 0 (s.extract 1 s.size) none 0 0 none 0 0) ∧ Below w.heap.size w w' := by
  have hne := not_empty h0
  have h1 : (1 : Int) ≤ (s.size : Int) := by omega
  have h00 : (0 : Int) < (s.size : Int) := by omega
  have hm1 : (1 : Int) ≤ max 1 ((s.size : Int) - 1) := by omega
  have hm2 : max 1 ((s.size : Int) - 1) ≤ (s.size : Int) := by omega
  have mixed := mixed_in
  go_enter Tryz.func43, Tryz.ntmps43
  go_wp2_with fail
  go_region_o
  go_wp2_with fail
  refine bodyPost_ret (v := av nm 2 0 (s.extract 1 s.size) none 0 0 none 0 0) (by simp [results, Tryz.results43, go_sem]) rfl ?_
  exact ⟨rfl, by (repeat (first | (with_reducible refine below_set ?_ (by first | exact Nat.le_refl _ | omega) _ _) | with_reducible exact Below.refl _ _ | with_reducible refine belowA ?_ _ | with_reducible refine belowD ?_ | with_reducible refine belowN ?_ _))⟩
set_option maxRecDepth 100000 in
set_option maxHeartbeats 4000000 in
theorem guess_num (nm s : ByteArray) (w : World) (h0 : 0 < s.size) (hc : (s[0]'h0).toNat = 45 ∨ (48 ≤ (s[0]'h0).toNat ∧ (s[0]'h0).toNat ≤ 57)) (hs : s.size ≤ 140737488355328) (v : Int)
    (hv : ∀ W, Below w.heap.size w W → Calls Tryz.prog 71 #[.string s, .int .i64 10, .int .i64 64] W fun e w' => ∃ er, e = .returned (.tuple #[.int .i64 v, er]) ∧ Below W.heap.size W w') :
    Calls Tryz.prog 43 #[.string nm, .string s] w fun e w' => e = .returned (av nm 0 v ⟨#[]⟩ none 0 0 none 0 0) ∧ Below w.heap.size w w' := by
  have hne := not_empty h0
  have h1 : (1 : Int) ≤ (s.size : Int) := by omega
  have h00 : (0 : Int) < (s.size : Int) := by omega
  have hm1 : (1 : Int) ≤ max 1 ((s.size : Int) - 1) := by omega
  have hm2 : max 1 ((s.size : Int) - 1) ≤ (s.size : Int) := by omega
  have mixed := mixed_in
  have HV := Lib.hid hv
  clear hv
  obtain ⟨c, hcd⟩ : ∃ c, c = (s[0]'h0).toNat := ⟨_, rfl⟩
  rw [← hcd] at hc
  have hcx : (s[0]'h0).toNat = c := hcd.symm
  clear hcd
  have hcs : c = 45 ∨ (c ≠ 45 ∧ 48 ≤ c ∧ c ≤ 57) := by omega
  clear hc
  rcases hcs with rfl | ⟨c1, c2, c3⟩
  · go_enter Tryz.func43, Tryz.ntmps43
    go_wp2_with (go_at_call 71; refine (HV.out _ ?_).mono ?_; (focus ((repeat (first | (with_reducible refine below_set ?_ (by first | exact Nat.le_refl _ | omega) _ _) | with_reducible exact Below.refl _ _ | with_reducible refine belowA ?_ _ | with_reducible refine belowD ?_ | with_reducible refine belowN ?_ _)); done)); rintro e w1 ⟨er, rfl, hb1⟩; have c0 := rdCell hb1 w.heap.size (by first | (simp; done) | (simp; omega)); have f0 := rdFree hb1 w.heap.size (by first | (simp; done) | (simp; omega)); have e0 := rdCell hb1 (w.heap.size + 1) (by first | (simp; done) | (simp; omega)); have g0 := rdFree hb1 (w.heap.size + 1) (by first | (simp; done) | (simp; omega)); have hzw1 : w.heap.size + 1 < w1.heap.size := (by have := Below.size hb1; simp at this; omega))
    refine bodyPost_ret (v := av nm 0 v ⟨#[]⟩ none 0 0 none 0 0) (by simp [results, Tryz.results43, go_sem, c0, f0, e0, g0, hzw1, show w.heap.size < w1.heap.size by omega]) rfl ?_
    exact ⟨rfl, by (repeat (first | (with_reducible refine below_set ?_ (by first | exact Nat.le_refl _ | omega) _ _) | with_reducible exact Below.refl _ _ | with_reducible refine belowA ?_ _ | with_reducible refine below_own' ?_ hb1 | with_reducible refine belowD ?_ | with_reducible refine belowN ?_ _))⟩
  · have b5 : ((c : Int) == 45) = false := by simp; omega
    have b6 : (48 : Int) ≤ (c : Int) := by omega
    have b7 : (c : Int) ≤ 57 := by omega
    go_enter Tryz.func43, Tryz.ntmps43
    go_wp2_with (go_at_call 71; refine (HV.out _ ?_).mono ?_; (focus ((repeat (first | (with_reducible refine below_set ?_ (by first | exact Nat.le_refl _ | omega) _ _) | with_reducible exact Below.refl _ _ | with_reducible refine belowA ?_ _ | with_reducible refine belowD ?_ | with_reducible refine belowN ?_ _)); done)); rintro e w1 ⟨er, rfl, hb1⟩; have c0 := rdCell hb1 w.heap.size (by first | (simp; done) | (simp; omega)); have f0 := rdFree hb1 w.heap.size (by first | (simp; done) | (simp; omega)); have e0 := rdCell hb1 (w.heap.size + 1) (by first | (simp; done) | (simp; omega)); have g0 := rdFree hb1 (w.heap.size + 1) (by first | (simp; done) | (simp; omega)); have hzw1 : w.heap.size + 1 < w1.heap.size := (by have := Below.size hb1; simp at this; omega))
    refine bodyPost_ret (v := av nm 0 v ⟨#[]⟩ none 0 0 none 0 0) (by simp [results, Tryz.results43, go_sem, c0, f0, e0, g0, hzw1, show w.heap.size < w1.heap.size by omega]) rfl ?_
    exact ⟨rfl, by (repeat (first | (with_reducible refine below_set ?_ (by first | exact Nat.le_refl _ | omega) _ _) | with_reducible exact Below.refl _ _ | with_reducible refine belowA ?_ _ | with_reducible refine below_own' ?_ hb1 | with_reducible refine belowD ?_ | with_reducible refine belowN ?_ _))⟩
set_option maxRecDepth 100000 in
set_option maxHeartbeats 4000000 in
theorem guess_ints0 (nm : ByteArray) (w : World) :
    Calls Tryz.prog 43 #[.string nm, .string ⟨#[91, 93]⟩] w fun e w' => e = .returned (av nm 4 0 ⟨#[]⟩ none 0 0 none 0 0) ∧ Below w.heap.size w w' := by
  go_enter Tryz.func43, Tryz.ntmps43
  go_wp2_with fail
  refine bodyPost_ret (v := av nm 4 0 ⟨#[]⟩ none 0 0 none 0 0) (by simp [results, Tryz.results43, go_sem]) rfl ?_
  exact ⟨rfl, by (repeat (first | (with_reducible refine below_set ?_ (by first | exact Nat.le_refl _ | omega) _ _) | with_reducible exact Below.refl _ _ | with_reducible refine belowA ?_ _ | with_reducible refine belowD ?_ | with_reducible refine belowN ?_ _))⟩
end Go.Proofs.YtmepjbjmjbpchaaGreatDoor
end
section
/- slices.Delete of one attribute out of a row of the call's own. -/
namespace Go.Proofs.YtmepjbjmjbpchaaGreatDoor
open Go Go.RowKit Go.Sort
set_option linter.unusedVariables false
set_option linter.unusedSimpArgs false

end Go.Proofs.YtmepjbjmjbpchaaGreatDoor
end
section
/- attrs.Drop. -/
namespace Go.Proofs.YtmepjbjmjbpchaaGreatDoor
open Go Go.RowKit Go.Sort
set_option linter.unusedVariables false
set_option linter.unusedSimpArgs false

end Go.Proofs.YtmepjbjmjbpchaaGreatDoor
end
section
/- Package types: Element, Cells, Range, Wrap, Unsigned. -/
namespace Go.Proofs.YtmepjbjmjbpchaaGreatDoor
open Go Go.RowKit
set_option linter.unusedVariables false
set_option linter.unusedSimpArgs false

section
variable (s : ByteArray) (w : World) (hs : s.size ≤ 140737488355328)
include hs
end
end Go.Proofs.YtmepjbjmjbpchaaGreatDoor
end
section
/- Package types: Wrap, Unsigned. -/
namespace Go.Proofs.YtmepjbjmjbpchaaGreatDoor
open Go Go.RowKit
set_option linter.unusedVariables false
set_option linter.unusedSimpArgs false
section
variable (s : ByteArray) (w : World) (hs : s.size ≤ 140737488355328)
include hs
end
end Go.Proofs.YtmepjbjmjbpchaaGreatDoor
end
section
/- Package types: the text of a type that was read; Turned. -/
namespace Go.Proofs.YtmepjbjmjbpchaaGreatDoor
open Go Go.RowKit Go.Sort
set_option linter.unusedVariables false
set_option linter.unusedSimpArgs false

/-- A row of ints. -/
def IntRow (W : World) (g : Nat) (zs : List Int) : Prop := g < W.heap.size ∧ ∀ j, j < zs.length → W.cell? ⟨g, 0 + j, none⟩ = some (.int .i64 (zs.getD j 0))
theorem IntRow.below {W W1 : World} {g : Nat} {zs : List Int} (h : IntRow W g zs) (hb : Below W.heap.size W W1) : IntRow W1 g zs :=
  ⟨Nat.lt_of_lt_of_le h.1 hb.size, fun j hj => (rdCell hb g h.1 (0 + j)).trans (h.2 j hj)⟩
section
variable (k : Nat) (b n : Nat) (zs : List Int) (x y z : Int) (w : World)
end
end Go.Proofs.YtmepjbjmjbpchaaGreatDoor
end
section
/- Package types: Turned, Shape. -/
namespace Go.Proofs.YtmepjbjmjbpchaaGreatDoor
open Go Go.RowKit Go.Sort
set_option linter.unusedVariables false
set_option linter.unusedSimpArgs false

section
end
section
variable (s : ByteArray) (w : World) (hs : s.size ≤ 140737488355328)
include hs
end
end Go.Proofs.YtmepjbjmjbpchaaGreatDoor
end
section
/- Package types: Shape, Make. -/
namespace Go.Proofs.YtmepjbjmjbpchaaGreatDoor
open Go Go.RowKit Go.Sort
set_option linter.unusedVariables false
set_option linter.unusedSimpArgs false

section
variable (s : ByteArray) (w : World) (hs : s.size ≤ 140737488355328)
include hs
end
end Go.Proofs.YtmepjbjmjbpchaaGreatDoor
end
section
/- Package types: Make. -/
namespace Go.Proofs.YtmepjbjmjbpchaaGreatDoor
open Go Go.RowKit Go.Sort
set_option linter.unusedVariables false
set_option linter.unusedSimpArgs false

section
end
end Go.Proofs.YtmepjbjmjbpchaaGreatDoor
end
section
/- The reference of types: digits, Cells, Make. -/
namespace Go.Proofs.YtmepjbjmjbpchaaGreatDoor
open Go Go.RowKit Go.Sort
set_option linter.unusedVariables false
set_option linter.unusedSimpArgs false

theorem enc_dig : ∀ d : Fin 10, (Utf8.encode (48 + (d.val : Int))).data = #[UInt8.ofNat (48 + d.val)] := by decide +kernel
theorem enc_digit {n : Nat} (h : n < 10) : Utf8.encode (48 + (n : Int)) = ⟨[UInt8.ofNat (48 + n)].toArray⟩ := ByteArray.ext (enc_dig ⟨n, h⟩)
theorem dig_len {m : Nat} (h : m < 18446744073709551616) : (Lib.decDigits m).length ≤ 20 := by
  rw [Lib.decDigits_length]; exact digs_le 19 m (by omega)
set_option maxRecDepth 100000 in
theorem natural_small (n : Nat) (h : n < 10) (w : World) : Calls Tryz.prog 82 #[.int .u64 n] w fun e w' => e = .returned (.string ⟨(Lib.decDigits n).toArray⟩) ∧ w = w' := by
  have h10 : (n : Int) < 10 := by omega
  go_enter Tryz.func82, Tryz.ntmps82
  go_wp2_with fail
  go_ret
  refine ⟨?_, rfl⟩
  rw [Lib.decDigits_one h, ← enc_digit h]
  rfl
set_option maxRecDepth 100000 in
theorem natural_any : ∀ (m n : Nat), n ≤ m → n < 18446744073709551616 → ∀ (w : World), Calls Tryz.prog 82 #[.int .u64 n] w fun e w' => e = .returned (.string ⟨(Lib.decDigits n).toArray⟩) ∧ w = w' := by
  intro m
  induction m with
  | zero => intro n hn hb w; exact natural_small n (by omega) w
  | succ m ih =>
    intro n hn hb w
    by_cases h : n < 10
    · exact natural_small n h w
    · have h10 : ((n : Int) < 10) = False := by simp; omega
      have hih : Calls Tryz.prog 82 #[.int .u64 ((n : Int) / 10)] w fun e w' => ∃ t : ByteArray, e = .returned (.string t) ∧ Hid (t.data.toList = Lib.decDigits (n / 10)) ∧ t.size ≤ 20 ∧ w = w' := by
        have := ih (n / 10) (by omega) (by omega) w
        rw [show ((n / 10 : Nat) : Int) = (n : Int) / 10 by simp] at this
        refine this.mono fun e w' ⟨he, hw⟩ => ⟨_, he, rfl, ?_, hw⟩
        simpa [ByteArray.size] using dig_len (m := n / 10) (by omega)
      obtain ⟨d, hd⟩ : ∃ d, d = n % 10 := ⟨_, rfl⟩
      have hd10 : d < 10 := by omega
      have hmod : (n : Int) % 10 = (d : Int) := by omega
      have hdd : Lib.decDigits n = Lib.decDigits (n / 10) ++ [UInt8.ofNat (48 + d)] := by rw [Lib.decDigits, dif_neg h, hd]
      have hen := enc_digit hd10
      have hensz : (Utf8.encode (48 + (d : Int))).size = 1 := by rw [hen]; rfl
      have HIH := Lib.hid hih
      have HEN := Lib.hid hen
      have HDD := Lib.hid hdd
      have hbi : (n : Int) < 18446744073709551616 := by omega
      clear hih ih hen hb hn h hd hdd
      go_enter Tryz.func82, Tryz.ntmps82
      go_wp2_with (go_at_call 82; refine HIH.out.mono ?_; rintro e w' ⟨t, rfl, ht, htl, rfl⟩)
      go_ret
      refine ⟨?_, rfl⟩
      have e1 : t ++ Utf8.encode (48 + (d : Int)) = ⟨(Lib.decDigits n).toArray⟩ := by
        rw [HDD.out, ← ht.out, HEN.out]
        apply ByteArray.ext
        apply Array.ext'
        simp
      exact congrArg (fun t => Ending.returned (.string t)) e1
theorem natural_str (n : Int) (h0 : 0 ≤ n) (h1 : n ≤ 9223372036854775807) (w : World) : Calls Tryz.prog 82 #[.int .u64 n] w fun e w' => e = .returned (.string ⟨(Lib.itoa n).toArray⟩) ∧ w = w' := by
  obtain ⟨k, rfl⟩ := Int.eq_ofNat_of_zero_le h0
  have : Lib.itoa (k : Int) = Lib.decDigits k := by unfold Lib.itoa; rw [if_neg (by omega)]; rfl
  rw [this]
  exact natural_any k k (Nat.le_refl _) (by omega) w
set_option maxRecDepth 100000 in
theorem digits_any (n : Int) (h0 : 0 ≤ n) (h1 : n ≤ 9223372036854775807) (w : World) : Calls Tryz.prog 60 #[.int .i64 n] w fun e w' => e = .returned (.string ⟨(Lib.itoa n).toArray⟩) ∧ w = w' := by
  have HN := Lib.hid (natural_str n h0 h1 w)
  have hw : IntKind.u64.wrap n = n := by rw [IntKind.wrap_u64]; omega
  go_enter Tryz.func60, Tryz.ntmps60
  go_wp2_with (go_at_call 82; refine HN.out.mono ?_; rintro e w' ⟨rfl, rfl⟩)
  go_ret
  exact ⟨rfl, rfl⟩
end Go.Proofs.YtmepjbjmjbpchaaGreatDoor
end
section
/- The reference of types: Make. -/
namespace Go.Proofs.YtmepjbjmjbpchaaGreatDoor
open Go Go.RowKit Go.Sort
set_option linter.unusedVariables false
set_option linter.unusedSimpArgs false

end Go.Proofs.YtmepjbjmjbpchaaGreatDoor
end
section
/- What the constants of `awake` are. -/
namespace Go.Proofs.YtmepjbjmjbpchaaGreatDoor
open Go Go.RowKit Go.Sort
set_option linter.unusedVariables false
set_option linter.unusedSimpArgs false

end Go.Proofs.YtmepjbjmjbpchaaGreatDoor
end
section
/- A long statement in one frame: the operations that only reckon are run by the kernel; a call, or a read of the heap, is met by hand. -/
namespace Go.Proofs.YtmepjbjmjbpchaaGreatDoor
open Go
set_option linter.unusedVariables false
set_option linter.unusedSimpArgs false
section
variable {P : Program} {ops : Array Oper} {Q : Exit → Act → World → Prop}
end
end Go.Proofs.YtmepjbjmjbpchaaGreatDoor
end
section
/- What every statement asks of a program whatever the input is: it is so. -/
namespace Go.Proofs.YtmepjbjmjbpchaaGreatDoor
open Go Go.RowKit Go.Sort
set_option linter.unusedVariables false
set_option linter.unusedSimpArgs false

/-- The library's variables that are read. -/
structure Glob (w : World) : Prop where
  pow : Pow w
  len : ∃ m : Int, w.cell? ⟨0, 0, none⟩ = some (.int .i64 m)
  pos : 0 < w.heap.size
theorem Glob.below {w w1 : World} (h : Glob w) (hb : Below w.heap.size w w1) : Glob w1 :=
  ⟨pow_below h.pow hb, by obtain ⟨m, hm⟩ := h.len; exact ⟨m, (rdCell hb 0 h.pos 0).trans hm⟩, Nat.lt_of_lt_of_le h.pos hb.size⟩

section
variable (w : World) (hg : Glob w)
end
end Go.Proofs.YtmepjbjmjbpchaaGreatDoor
end
section
/- Make, in the program and in the reference, at whatever arguments. -/
namespace Go.Proofs.YtmepjbjmjbpchaaGreatDoor
open Go Go.RowKit Go.Sort
set_option linter.unusedVariables false
set_option linter.unusedSimpArgs false

end Go.Proofs.YtmepjbjmjbpchaaGreatDoor
end
section
/- What the laws use of types: the program's answers where a string is a number type, another type, or none. -/
namespace Go.Proofs.YtmepjbjmjbpchaaGreatDoor
open Go Go.RowKit Go.Sort
set_option linter.unusedVariables false
set_option linter.unusedSimpArgs false

theorem askOf_no {P : Nat → Bool} {l : List UInt8} (hr : readOf l = none) : askOf P l = (⟨0, 0, []⟩, 10) := by
  unfold askOf; rw [hr]
section
variable (s : ByteArray) (w : World) (hs : s.size ≤ 140737488355328) (n : Int) (hn0 : -9223372036854775808 ≤ n) (hn1 : n ≤ 9223372036854775807)
include hs
end
end Go.Proofs.YtmepjbjmjbpchaaGreatDoor
end
section
/- The walk of the statement TypesLists. -/
namespace Go.Proofs.YtmepjbjmjbpchaaGreatDoor
open Go Go.RowKit Go.Sort
set_option linter.unusedVariables false
set_option linter.unusedSimpArgs false

theorem split_all (s : ByteArray) (w : World) (hs : s.size < 4294967281) (hg : Glob w) : Calls Tryz.prog 74 #[.string s] w (SplitPost s w) := by
  cases hb : bodyOf s.data.toList with
  | none => exact splitT_no s w (by omega) hb
  | some l =>
    by_cases hl : l = []
    · subst hl; exact splitT_empty s w (by omega) hb
    · obtain ⟨m, hm⟩ := hg.len
      exact splitT_some s w hs m hm hg.pos ⟨l.toArray⟩ hb hl
theorem badTy_isTy (s : ByteArray) : badTy s = !isTy s.data.toList := by
  unfold badTy isTy
  cases h : readOf s.data.toList with
  | none => rw [show askAny s.data.toList = (⟨0, 0, []⟩, 10) from askOf_no h]; rfl
  | some q => rw [show askAny s.data.toList = (q, 0) by unfold askAny askOf; rw [h]; rfl]; rfl
theorem okPieces_eq (b : ByteArray) : okPieces b = (decide ((piecesL b.data.toList).length ≤ 100) && (piecesL b.data.toList).all isTy) := by
  unfold okPieces
  rw [← pieces_data, List.length_map, List.all_map]
  congr 1
  rw [List.any_eq_not_all_not, Bool.not_not]
  congr 1
  funext x
  simp [badTy_isTy]
theorem data_inj : ∀ {a b : List ByteArray}, a.map (·.data.toList) = b.map (·.data.toList) → a = b
  | [], [], _ => rfl
  | [], _ :: _, h => by simp at h
  | _ :: _, [], h => by simp at h
  | x :: a, y :: b, h => by
    simp only [List.map_cons, List.cons.injEq] at h
    obtain ⟨h1, h2⟩ := h
    rw [data_inj h2, ByteArray.ext (Array.ext' h1)]
end Go.Proofs.YtmepjbjmjbpchaaGreatDoor
end
section
/- The reference's Join; Split of a joined list. -/
namespace Go.Proofs.YtmepjbjmjbpchaaGreatDoor
open Go Go.RowKit Go.Sort
set_option linter.unusedVariables false
set_option linter.unusedSimpArgs false

def joinS (ls : List ByteArray) : List UInt8 := Lib.join (ls.map (·.data.toList)) [44, 32]
theorem pieces_join : ∀ (ls : List (List UInt8)), ls ≠ [] → (∀ x ∈ ls, (44 : UInt8) ∉ x) → piecesL (Lib.join ls [44, 32]) = ls
  | [], h, _ => absurd rfl h
  | [x], _, h => by
    rw [Lib.join_one]
    refine piecesL_miss (Lib.index_none fun j hj => ?_)
    rw [Bool.eq_false_iff]
    intro ho
    exact h x (by simp) (List.mem_of_getElem? (occ_at ho).1)
  | x :: y :: r, _, h => by
    have hj : Lib.join (x :: y :: r) [44, 32] = x ++ 44 :: 32 :: Lib.join (y :: r) [44, 32] := by
      rw [Lib.join_cons, Lib.join_cons]
      simp [Lib.joinTail]
    rw [hj, piecesL_hit (index_cut (h x (by simp)))]
    congr 1
    · simp
    · rw [show (x ++ 44 :: 32 :: Lib.join (y :: r) [44, 32]).drop (x.length + 2) = Lib.join (y :: r) [44, 32] by simp [List.drop_append]]
      exact pieces_join (y :: r) (by simp) (fun z hz => h z (by simp [hz]))
theorem isTy_nil : isTy [] = false := by rfl
theorem bodyOf_join (l : List UInt8) : bodyOf (40 :: l ++ [41]) = some l := by
  unfold bodyOf
  have h1 : Lib.hasPrefix ((40 : UInt8) :: l ++ [41]) [40] = true := by simp [Lib.hasPrefix, List.isPrefixOf]
  have h2 : Lib.hasSuffix ((40 : UInt8) :: l ++ [41]).tail [41] = true := by
    rw [List.cons_append, List.tail_cons, suffix_iff (by simp)]
    simp
  rw [h1, h2]
  simp
theorem goodTy {s : ByteArray} : badTy s = false ↔ isTy s.data.toList = true := by rw [badTy_isTy]; simp
theorem isTy_len {l : List UInt8} (h : isTy l = true) : l.length ≤ 60 := by
  unfold isTy at h
  obtain ⟨q, hq⟩ := Option.isSome_iff_exists.1 h
  exact readOf_len hq
theorem joinS_ne {ls : List ByteArray} (h : ls ≠ []) (hg : ls.any badTy = false) : joinS ls ≠ [] := by
  match ls, h with
  | x :: r, _ =>
    intro he
    unfold joinS at he
    rw [List.map_cons, Lib.join_cons, List.append_eq_nil_iff] at he
    rw [List.any_eq_false] at hg
    have := goodTy.1 (by simpa using hg x (by simp))
    rw [he.1, isTy_nil] at this
    cases this
theorem joinS_pieces {ls : List ByteArray} (h : ls ≠ []) (hg : ls.any badTy = false) : piecesL (joinS ls) = ls.map (·.data.toList) := by
  refine pieces_join _ (by simpa using h) ?_
  intro x hx
  rw [List.mem_map] at hx
  obtain ⟨s, hs, rfl⟩ := hx
  rw [List.any_eq_false] at hg
  exact isTy_no44 (goodTy.1 (by simpa using hg s hs))
end Go.Proofs.YtmepjbjmjbpchaaGreatDoor
end
