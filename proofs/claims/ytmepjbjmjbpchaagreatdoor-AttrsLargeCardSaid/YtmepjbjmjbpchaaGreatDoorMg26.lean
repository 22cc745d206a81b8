/- Texts of this claim, laid together: Rs1, Lwa0, Ay2, Ay3, Post, Roa0, Roa1. -/
import Derived.Test.YtmepjbjmjbpchaaGreatDoorProg
import Derived.ProofKit
import Derived.OpenShut
import Derived.Carry
import Derived.WalkKit
import Derived.SizedLaws
import Derived.SliceStrings
import Derived.ChangeSlices
import Derived.Deep.Slices
import Derived.Deep.Fields
import Derived.Deep.DeepHandedRow
import Derived.Test.YtmepjbjmjbpchaaGreatDoorCards
import Derived.Test.YtmepjbjmjbpchaaGreatDoorTie
import Derived.Deep.DeepWitnessRowRef
import Derived.Lib.LaidTab
import Derived.Test.YtmepjbjmjbpchaaGreatDoorMg5
import Derived.Test.YtmepjbjmjbpchaaGreatDoorMg14
import Derived.Test.YtmepjbjmjbpchaaGreatDoorMg16
import Derived.Test.YtmepjbjmjbpchaaGreatDoorMg19
import Derived.Test.YtmepjbjmjbpchaaGreatDoorMg20
import Derived.Test.YtmepjbjmjbpchaaGreatDoorMg24
import Derived.Test.YtmepjbjmjbpchaaGreatDoorMg25
section
/- The reference: Merge. -/
namespace Go.Proofs.YtmepjbjmjbpchaaGreatDoor
open Go Go.RowKit Go.Sort
set_option linter.unusedVariables false
set_option linter.unusedSimpArgs false

set_option maxRecDepth 100000 in
set_option maxHeartbeats 4000000 in
theorem rmerge_any (p q : Option Addr) (c d : Nat) (l m : List Atr) (w : World) (hs : AtrSl w p l) (hs2 : AtrSl w q m) (hl : l.length ≤ 1000) (hm : m.length ≤ 1000) (hr : RisesD (l.map Atr.dat)) :
    Calls Tryz.prog 21 #[.slice p l.length c, .slice q m.length d] w fun e w' => ∃ sa sc l', e = .returned (.slice sa l'.length sc) ∧ AtrSl w' sa l' ∧ l'.map Atr.dat = mergeD (l.map Atr.dat) (m.map Atr.dat) ∧ Below w.heap.size w w' := by
  have HS := Lib.hid hs
  have HS2 := Lib.hid hs2
  have HR := Lib.hid hr
  clear hs hs2 hr
  go_enter Tryz.func21, Tryz.ntmps21
  go_wp2_with fail
  go_loopw [5, 6] (fun v i wr => ∃ (j n : Nat) (sa : Option Addr) (sc : Nat) (out : List Atr), v = .slice sa n sc ∧ i = .int .i64 j ∧ j ≤ m.length ∧ n = out.length ∧ n ≤ 1000 + j ∧ AtrSl wr sa out ∧ out.map Atr.dat = mergeD (l.map Atr.dat) ((m.take j).map Atr.dat) ∧ Below w.heap.size w wr) (fun _ i _ => m.length - (intOf i).toNat)
  case atStart => exact ⟨0, l.length, p, c, l, rfl, rfl, Nat.zero_le _, rfl, by omega, HS.out, rfl, Below.refl _ _⟩
  case round =>
    obtain ⟨j, n, sa, sc, out, rfl, rfl, hj, hn, hnj, hso, he, hb⟩ := hrel
    have HN := Lib.hid hn
    have HSO := Lib.hid hso
    have HE := Lib.hid he
    have HB := Lib.hid hb
    clear hn hso he hb
    rcases Nat.lt_or_ge j m.length with hlt | hge
    · have hsw := HS2.out.below HB.out
      obtain ⟨g, off, rfl, hzg, hrow⟩ := hsw.row hlt
      obtain ⟨a0, ha0⟩ : ∃ a0, a0 = m[j] := ⟨_, rfl⟩
      have hcj := hrow _ hlt
      rw [← ha0] at hcj
      have HLI := Lib.hid (hsw.lies a0 (by rw [ha0]; exact List.getElem_mem _))
      have HFI := Lib.hid (hsw.fits a0 (by rw [ha0]; exact List.getElem_mem _))
      have HRI : Hid (RisesD (out.map Atr.dat)) := Lib.hid (by rw [HE.out]; exact mergeD_rises _ _ HR.out)
      have HST : Hid (mergeD (l.map Atr.dat) ((m.take (j + 1)).map Atr.dat) = setD (out.map Atr.dat) a0.dat) := Lib.hid (by
        rw [List.take_succ_eq_append_getElem hlt, List.map_append, ha0]
        show mergeD _ (_ ++ [m[j].dat]) = _
        rw [mergeD_snoc, ← HE.out])
      have hc := rset_any sa sc out a0 wr HSO.out (by have := HN.out; omega) HLI.out HFI.out
      rw [← HN.out] at hc
      have HC := Lib.hid hc
      have hj0 : (0 : Int) ≤ (j : Int) := by omega
      have hjl : (j : Int) < (m.length : Int) := by omega
      clear ha0 hrow hsw hc
      obtain ⟨k0, k1, k2, k3, k4, k5⟩ := hcj
      go_wp2_with (go_at_call 16; refine HC.out.mono ?_; rintro e w2 ⟨sa2, sc2, l2, rfl, hs2, hl2, hd2, hb2⟩; have HS3 := Lib.hid hs2; have HD3 := Lib.hid hd2; have HB3 := Lib.hid hb2; clear hs2 hd2 hb2 hl2)
      have hset : Hid (l2.map Atr.dat = setD (out.map Atr.dat) a0.dat) := Lib.hid (by rw [HD3.out, rsetAll_eq HRI.out])
      have hl3 : l2.length ≤ n + 1 := by
        have h1 := congrArg List.length hset.out
        have h2 := setD_len (out.map Atr.dat) a0.dat
        have h3 := HN.out
        simp at h1 h2; omega
      go_roundw
      case rel => exact ⟨j + 1, l2.length, sa2, sc2, l2, rfl, by go_num, by omega, rfl, by omega, HS3.out, by rw [hset.out, HST.out], below_own' HB.out HB3.out⟩
      case measure => simp [intOf]; omega
    · obtain rfl : j = m.length := by omega
      go_wp2_with fail
      go_ret
      exact ⟨sa, sc, out, by rw [← HN.out]; rfl, HSO.out, by rw [HE.out, List.take_length], HB.out⟩
end Go.Proofs.YtmepjbjmjbpchaaGreatDoor
end
section
/- What the laws of the chapter use: lists with the same data are the same. -/
namespace Go.Proofs.YtmepjbjmjbpchaaGreatDoor
open Go Go.RowKit Go.Sort
set_option linter.unusedVariables false
set_option linter.unusedSimpArgs false

theorem sameA_dat (a b : Atr) : sameA a b = decide (a.dat = b.dat) := by
  unfold sameA
  rw [decide_eq_decide]
  constructor
  · rintro ⟨h1, h2, h3, h4, h5, h6⟩
    show (⟨a.name, a.kind, a.num, a.text, a.ints, a.texts⟩ : Dat) = ⟨b.name, b.kind, b.num, b.text, b.ints, b.texts⟩
    rw [h1, h2, h3, h4, h5, h6]
  · intro h
    exact ⟨congrArg Dat.name h, congrArg Dat.kind h, congrArg Dat.num h, congrArg Dat.text h, congrArg Dat.ints h, congrArg Dat.texts h⟩
theorem sameL_dat {l m : List Atr} (h : l.map Atr.dat = m.map Atr.dat) : sameL l m = true := by
  have hl : l.length = m.length := by simpa using congrArg List.length h
  rw [sameL_eq l m hl, List.all_eq_true]
  intro j hj
  have hj1 : j < l.length := List.mem_range.1 hj
  unfold sameAt
  rw [List.getElem?_eq_getElem hj1, List.getElem?_eq_getElem (by omega : j < m.length)]
  have := congrArg (fun k => k[j]?) h
  simp only [List.getElem?_map, List.getElem?_eq_getElem hj1, List.getElem?_eq_getElem (by omega : j < m.length), Option.map_some, Option.some.injEq] at this
  show sameA l[j] m[j] = true
  rw [sameA_dat, this]
  simp
theorem requalL_same (p q : Option Addr) (c d n k : Nat) (l m : List Atr) (w : World) (hs : AtrSl w p l) (hs2 : AtrSl w q m) (h : l.map Atr.dat = m.map Atr.dat) (hn : n = l.length) (hk : k = m.length) (hl : l.length ≤ 100000000000000) :
    Calls Tryz.prog 17 #[.slice p n c, .slice q k d] w fun e w' => e = .returned (.bool true) ∧ Below w.heap.size w w' := by
  have hlm : l.length = m.length := by simpa using congrArg List.length h
  rw [hn, hk]
  have := requalL_any p q c d l m w hs hs2 hl (by omega)
  rw [sameL_dat h] at this
  exact this
theorem requalL_nil (w : World) : Calls Tryz.prog 17 #[.slice none 0 0, .slice none 0 0] w fun e w' => e = .returned (.bool true) ∧ Below w.heap.size w w' :=
  requalL_same none none 0 0 0 0 [] [] w ⟨.inl rfl, by simp, by simp⟩ ⟨.inl rfl, by simp, by simp⟩ rfl rfl rfl (by simp)
theorem rises_dat {l : List Atr} (h : rightL l = true) : RisesD (l.map Atr.dat) := (risesD_iff l).1 (rises_of_right h)
end Go.Proofs.YtmepjbjmjbpchaaGreatDoor
end
section
/- attrs.Equal, the reference's Cmp. -/
namespace Go.Proofs.YtmepjbjmjbpchaaGreatDoor
open Go Go.RowKit
set_option linter.unusedVariables false
set_option linter.unusedSimpArgs false
attribute [local go_sem] Oper.semAt_some

def EqPost (x y : Atr) (w : World) (e : Ending) (w' : World) : Prop :=
  e = .returned (.tuple #[.bool ((rightA x && rightA y) && decide (cmpA x y = 0)), .int .i64 (if rightA x && rightA y then 0 else 20)]) ∧ Below w.heap.size w w'
set_option maxRecDepth 100000 in
set_option maxHeartbeats 4000000 in
theorem equalA_any (x y : Atr) (w : World) (hx : x.Lies w) (hy : y.Lies w) (fx : x.Fits) (fy : y.Fits) (hp : Pow w) :
    Calls Tryz.prog 27 #[x.val, y.val] w (EqPost x y w) := by
  have HC := Lib.hid (fun (W : World) (h : Below w.heap.size w W) => cmpA_any x y W (hx.below h) (hy.below h) fx fy (pow_below hp h))
  clear hx hy fx fy hp
  unfold EqPost
  have hcs : (rightA x && rightA y) = false ∨ ((rightA x && rightA y) = true ∧ cmpA x y = 0) ∨ ((rightA x && rightA y) = true ∧ cmpA x y ≠ 0) := by
    cases (rightA x && rightA y)
    · exact .inl rfl
    · by_cases h : cmpA x y = 0
      · exact .inr (.inl ⟨rfl, h⟩)
      · exact .inr (.inr ⟨rfl, h⟩)
  rcases hcs with hr | ⟨hr, hc⟩ | ⟨hr, hc⟩
  · have HR := Lib.hid hr
    have hp1 : ((rightA x && rightA y) && decide (cmpA x y = 0)) = false := by rw [hr]; rfl
    have hp2 : (if (rightA x && rightA y) = true then (0 : Int) else 20) = 20 := by rw [hr]; rfl
    rw [hp1, hp2]
    clear hp1 hp2
    clear hr
    go_enter Tryz.func27, Tryz.ntmps27
    go_wp2_with (go_at_call 28; refine (HC.out _ (by (repeat (first | (with_reducible refine below_set ?_ (by first | exact Nat.le_refl _ | omega) _ _) | with_reducible exact Below.refl _ _ | with_reducible refine belowA ?_ _ | with_reducible refine belowD ?_ | with_reducible refine belowN ?_ _)))).mono ?_; rintro e w1 ⟨he, hb1⟩; rw [HR.out] at he; simp only [Bool.false_eq_true, if_false] at he; subst he)
    go_ret2
    exact ⟨rfl, by (repeat (first | (with_reducible refine below_set ?_ (by first | exact Nat.le_refl _ | omega) _ _) | with_reducible exact Below.refl _ _ | with_reducible refine belowA ?_ _ | with_reducible refine below_own' ?_ hb1 | with_reducible refine belowD ?_ | with_reducible refine belowN ?_ _))⟩
  · have HR := Lib.hid hr
    have HX := Lib.hid hc
    have hp1 : ((rightA x && rightA y) && decide (cmpA x y = 0)) = true := by rw [hr]; simp [hc]
    have hp2 : (if (rightA x && rightA y) = true then (0 : Int) else 20) = 0 := by rw [hr]; rfl
    rw [hp1, hp2]
    clear hp1 hp2
    clear hr hc
    go_enter Tryz.func27, Tryz.ntmps27
    go_wp2_with (go_at_call 28; refine (HC.out _ (by (repeat (first | (with_reducible refine below_set ?_ (by first | exact Nat.le_refl _ | omega) _ _) | with_reducible exact Below.refl _ _ | with_reducible refine belowA ?_ _ | with_reducible refine belowD ?_ | with_reducible refine belowN ?_ _)))).mono ?_; rintro e w1 ⟨he, hb1⟩; rw [HR.out] at he; simp only [if_true, HX.out] at he; subst he)
    go_ret2
    exact ⟨rfl, by (repeat (first | (with_reducible refine below_set ?_ (by first | exact Nat.le_refl _ | omega) _ _) | with_reducible exact Below.refl _ _ | with_reducible refine belowA ?_ _ | with_reducible refine below_own' ?_ hb1 | with_reducible refine belowD ?_ | with_reducible refine belowN ?_ _))⟩
  · have HR := Lib.hid hr
    have HX := Lib.hid hc
    have hp1 : ((rightA x && rightA y) && decide (cmpA x y = 0)) = false := by rw [hr]; simp [hc]
    have hp2 : (if (rightA x && rightA y) = true then (0 : Int) else 20) = 0 := by rw [hr]; rfl
    rw [hp1, hp2]
    clear hp1 hp2
    obtain ⟨z, hz⟩ : ∃ z, z = cmpA x y := ⟨_, rfl⟩
    have HZ := Lib.hid hz
    have hb0 : (z == 0) = false := by rw [hz]; simpa using hc
    clear hr hc hz
    go_enter Tryz.func27, Tryz.ntmps27
    go_wp2_with (go_at_call 28; refine (HC.out _ (by (repeat (first | (with_reducible refine below_set ?_ (by first | exact Nat.le_refl _ | omega) _ _) | with_reducible exact Below.refl _ _ | with_reducible refine belowA ?_ _ | with_reducible refine belowD ?_ | with_reducible refine belowN ?_ _)))).mono ?_; rintro e w1 ⟨he, hb1⟩; rw [HR.out] at he; simp only [if_true, ← HZ.out] at he; subst he)
    go_ret2
    exact ⟨rfl, by (repeat (first | (with_reducible refine below_set ?_ (by first | exact Nat.le_refl _ | omega) _ _) | with_reducible exact Below.refl _ _ | with_reducible refine belowA ?_ _ | with_reducible refine below_own' ?_ hb1 | with_reducible refine belowD ?_ | with_reducible refine belowN ?_ _))⟩
end Go.Proofs.YtmepjbjmjbpchaaGreatDoor
end
section
/- The reference's Cmp. -/
namespace Go.Proofs.YtmepjbjmjbpchaaGreatDoor
open Go Go.RowKit
set_option linter.unusedVariables false
set_option linter.unusedSimpArgs false
attribute [local go_sem] Oper.semAt_some

theorem nmCmp_ne {s t : ByteArray} (h : s ≠ t) : nmCmp s t ≠ 0 := by
  unfold nmCmp
  cases h1 : nmLt s t
  · cases h2 : nmLt t s
    · exact absurd (nm_total h1 h2) h
    · simp
  · simp
theorem nmCmp_self (s : ByteArray) : nmCmp s s = 0 := by unfold nmCmp; rw [nm_irrefl]; simp
theorem cmpA_name {x y : Atr} (h : x.name ≠ y.name) : cmpA x y = nmCmp x.name y.name := by
  unfold cmpA orI; rw [if_pos (nmCmp_ne h)]
theorem cmpA_kind {x y : Atr} (h : x.name = y.name) (hk : x.kind ≠ y.kind) : cmpA x y = kCmp x.kind y.kind := by
  have h2 : kCmp x.kind y.kind ≠ 0 := by unfold kCmp; split; simp; split; simp; omega
  unfold cmpA orI; rw [h, nmCmp_self, if_neg (by simp), if_pos h2]
theorem cmpA_value {x y : Atr} (h : x.name = y.name) (hk : x.kind = y.kind) : cmpA x y = nmCmp (valB x) (valB y) := by
  unfold cmpA orI kCmp; rw [h, nmCmp_self, hk]; simp
set_option maxRecDepth 100000 in
set_option maxHeartbeats 8000000 in
theorem rcmpA_any (x y : Atr) (w : World) (hx : x.Lies w) (hy : y.Lies w) (fx : x.Fits) (fy : y.Fits) (rx : rightA x = true) (ry : rightA y = true) :
    Calls Tryz.prog 29 #[x.val, y.val] w fun e w' => e = .returned (.int .i64 (cmpA x y)) ∧ Below w.heap.size w w' := by
  have HA := Lib.hid (fun (W : World) (h : Below w.heap.size w W) => hx.below h)
  have HB := Lib.hid (fun (W : World) (h : Below w.heap.size w W) => hy.below h)
  have hcs : x.name ≠ y.name ∨ (x.name = y.name ∧ x.kind < y.kind) ∨ (x.name = y.name ∧ y.kind < x.kind) ∨ (x.name = y.name ∧ x.kind = y.kind) := by
    by_cases h : x.name = y.name
    · have : x.kind < y.kind ∨ y.kind < x.kind ∨ x.kind = y.kind := by omega
      rcases this with h2 | h2 | h2
      · exact .inr (.inl ⟨h, h2⟩)
      · exact .inr (.inr (.inl ⟨h, h2⟩))
      · exact .inr (.inr (.inr ⟨h, h2⟩))
    · exact .inl h
  clear hx hy
  rcases hcs with h | ⟨h, hk⟩ | ⟨h, hk⟩ | ⟨h, hk⟩
  · have HE := Lib.hid (cmpA_name h)
    have hb : (x.name.toList == y.name.toList) = false := by rw [toList_beq]; simpa using h
    have hb2 : (x.name.toList != y.name.toList) = true := by rw [bne, hb]; rfl
    clear h
    go_enter Tryz.func29, Tryz.ntmps29
    go_wp2_with (go_at_call 58; refine (rcmp_any _ _ _).mono ?_; rintro e w1 ⟨rfl, rfl⟩)
    go_ret
    exact ⟨by rw [HE.out]; rfl, by (repeat (first | (with_reducible refine below_set ?_ (by first | exact Nat.le_refl _ | omega) _ _) | with_reducible exact Below.refl _ _ | with_reducible refine belowA ?_ _ | with_reducible refine belowD ?_ | with_reducible refine belowN ?_ _))⟩
  · have HE : Hid (cmpA x y = -1) := Lib.hid (by rw [cmpA_kind h (by omega)]; unfold kCmp; rw [if_pos hk])
    have hb : (x.name.toList == y.name.toList) = true := by rw [toList_beq]; simpa using h
    have hb2 : (x.name.toList != y.name.toList) = false := by rw [bne, hb]; rfl
    clear h
    go_enter Tryz.func29, Tryz.ntmps29
    go_wp2_with fail
    go_ret
    exact ⟨by rw [HE.out]; rfl, by (repeat (first | (with_reducible refine below_set ?_ (by first | exact Nat.le_refl _ | omega) _ _) | with_reducible exact Below.refl _ _ | with_reducible refine belowA ?_ _ | with_reducible refine belowD ?_ | with_reducible refine belowN ?_ _))⟩
  · have HE : Hid (cmpA x y = 1) := Lib.hid (by rw [cmpA_kind h (by omega)]; unfold kCmp; rw [if_neg (by omega), if_pos hk])
    have hb : (x.name.toList == y.name.toList) = true := by rw [toList_beq]; simpa using h
    have hb2 : (x.name.toList != y.name.toList) = false := by rw [bne, hb]; rfl
    have hk2 : ¬ x.kind < y.kind := by omega
    clear h
    go_enter Tryz.func29, Tryz.ntmps29
    go_wp2_with fail
    go_ret
    exact ⟨by rw [HE.out]; rfl, by (repeat (first | (with_reducible refine below_set ?_ (by first | exact Nat.le_refl _ | omega) _ _) | with_reducible exact Below.refl _ _ | with_reducible refine belowA ?_ _ | with_reducible refine belowD ?_ | with_reducible refine belowN ?_ _))⟩
  · obtain ⟨vs, hvs⟩ : ∃ vs, vs = valB x := ⟨_, rfl⟩
    obtain ⟨vt, hvt⟩ : ∃ vt, vt = valB y := ⟨_, rfl⟩
    have VS := Lib.hid hvs
    have VT := Lib.hid hvt
    have HE : Hid (cmpA x y = nmCmp vs vt) := Lib.hid (by rw [cmpA_value h hk, hvs, hvt])
    have hb : (x.name.toList == y.name.toList) = true := by rw [toList_beq]; simpa using h
    have hb2 : (x.name.toList != y.name.toList) = false := by rw [bne, hb]; rfl
    have hk2 : ¬ x.kind < y.kind := by omega
    have hk3 : ¬ y.kind < x.kind := by omega
    clear h hk hvs hvt
    refine (callsIn_wide (n := 6)).1 ?_
    refine callsIn_of_wp Tryz.func29 rfl trivial ?_ rfl
    simp only [Tryz.ntmps29, List.size_toArray, List.length_cons, List.length_nil, Nat.reduceAdd, Nat.reduceSub, Array.replicate_succ, Array.replicate_zero, List.push_toArray, List.append_toArray, List.nil_append, List.cons_append]
    gi_wp2_with fail
    obtain ⟨w2, hw2⟩ : ∃ w2, w2 = ((w.alloc (.cells #[.string x.name, .int .i64 x.kind, .int .i64 x.num, .string x.text, .slice x.ia x.ints.length x.ic, .slice x.ta x.texts.length x.tc] 27)).alloc (.cells #[.string y.name, .int .i64 y.kind, .int .i64 y.num, .string y.text, .slice y.ia y.ints.length y.ic, .slice y.ta y.texts.length y.tc] 27)) := ⟨_, rfl⟩
    have HZZ : Hid (Below w.heap.size w w2) := Lib.hid (by rw [hw2]; (repeat (first | (with_reducible refine below_set ?_ (by first | exact Nat.le_refl _ | omega) _ _) | with_reducible exact Below.refl _ _ | with_reducible refine belowA ?_ _ | with_reducible refine belowD ?_ | with_reducible refine belowN ?_ _)))
    have hs2 : w.heap.size + 1 < w2.heap.size := by rw [hw2]; simp
    have hsa : w.heap.size < w2.heap.size := by omega
    have kk : w2.cell? ⟨w.heap.size, 0, none⟩ = some (.string x.name) ∧ w2.cell? ⟨w.heap.size, 0 + 1, none⟩ = some (.int .i64 x.kind) ∧ w2.cell? ⟨w.heap.size, 0 + 2, none⟩ = some (.int .i64 x.num) ∧ w2.cell? ⟨w.heap.size, 0 + 3, none⟩ = some (.string x.text) ∧ w2.cell? ⟨w.heap.size, 0 + 4, none⟩ = some (.slice x.ia x.ints.length x.ic) ∧ w2.cell? ⟨w.heap.size, 0 + 5, none⟩ = some (.slice x.ta x.texts.length x.tc) := by
      refine ⟨?_, ?_, ?_, ?_, ?_, ?_⟩ <;> (rw [hw2]; simp [go_sem])
    have qq : w2.cell? ⟨w.heap.size + 1, 0, none⟩ = some (.string y.name) ∧ w2.cell? ⟨w.heap.size + 1, 0 + 1, none⟩ = some (.int .i64 y.kind) ∧ w2.cell? ⟨w.heap.size + 1, 0 + 2, none⟩ = some (.int .i64 y.num) ∧ w2.cell? ⟨w.heap.size + 1, 0 + 3, none⟩ = some (.string y.text) ∧ w2.cell? ⟨w.heap.size + 1, 0 + 4, none⟩ = some (.slice y.ia y.ints.length y.ic) ∧ w2.cell? ⟨w.heap.size + 1, 0 + 5, none⟩ = some (.slice y.ta y.texts.length y.tc) := by
      refine ⟨?_, ?_, ?_, ?_, ?_, ?_⟩ <;> (rw [hw2]; simp [go_sem])
    rw [← hw2]
    obtain ⟨k0, k1, k2, k3, k4, k5⟩ := kk
    obtain ⟨q0, q1, q2, q3, q4, q5⟩ := qq
    clear hw2
    generalize hops : (#[_, _, _, _, _, _] : Array Oper) = ops
    refine wpIn_region_inv_tail 5 (fun i => match i with | 0 => x.val | 1 => .string vs | 2 => y.val | 3 => .string vt | 4 => .int .i64 (nmCmp vs vt) | _ => undef)
      (fun lst Wy => Below w2.heap.size w2 Wy) (by kernel_rfl) (by rw [← hops]; kernel_rfl) (by rw [← hops]; kernel_rfl) (by rw [← hops]; kernel_rfl) (by rw [← hops]; decide) (by rw [← hops]; kernel_rfl) ((Below.refl _ _).drew) ?step ?tail
    case step =>
      intro i o listed a Wy ho hs hu hall ha hi hy hlt
      have old2 : a.eval (.tmp 2) = .pointer (some ⟨w.heap.size, 0, none⟩) := by rw [ha.eval_old (noDst_spec (by rw [← hops]; kernel_rfl))]; rfl
      have old3 : a.eval (.tmp 3) = .pointer (some ⟨w.heap.size + 1, 0, none⟩) := by rw [ha.eval_old (noDst_spec (by rw [← hops]; kernel_rfl))]; rfl
      have hcase : i = 0 ∨ i = 1 ∨ i = 2 ∨ i = 3 ∨ i = 4 := by omega
      rcases hcase with rfl | rfl | rfl | rfl | rfl
      all_goals (have ho' := ho; rw [← hops] at ho'; simp only [List.getElem?_toArray, List.getElem?_cons_zero, List.getElem?_cons_succ, Option.some.injEq] at ho'; subst ho')
      · refine step_none rfl ?_
        refine opIn_value wideAt_plain (fun c h => by cases h) (v := x.val) (W' := Wy) ?_ ⟨rfl, hi⟩
        simp only [execOp, old2]
        simp [go_sem, rdCell hi w.heap.size hsa, k0, k1, k2, k3, k4, k5]
      · refine step_none rfl ?_
        have h28 : a.eval (.tmp 28) = x.val := ha.eval_got (j := 0) (by rw [← hops]; rfl) rfl (hall ⟨0, .data⟩ (by simp) rfl)
        refine opIn_call wideAt_plain (fun c h => by cases h) (f := 33) (args := #[x.val]) (W' := Wy) ?_ (rvalue_any x Wy (HA.out Wy (below_own' HZZ.out hi)) fx rx) ?_
        · simp only [execOp, h28]
          simp [go_sem]
          try (simpa [Act.eval] using h28)
        · rintro e W1 ⟨rfl, hb⟩
          exact ⟨_, rfl, by rw [VS.out]; rfl, below_own' hi hb⟩
      · refine step_none rfl ?_
        refine opIn_value wideAt_plain (fun c h => by cases h) (v := y.val) (W' := Wy) ?_ ⟨rfl, hi⟩
        simp only [execOp, old3]
        simp [go_sem, rdCell hi (w.heap.size + 1) hs2, q0, q1, q2, q3, q4, q5]
      · refine step_none rfl ?_
        have h30 : a.eval (.tmp 30) = y.val := ha.eval_got (j := 2) (by rw [← hops]; rfl) rfl (hall ⟨2, .data⟩ (by simp) rfl)
        refine opIn_call wideAt_plain (fun c h => by cases h) (f := 33) (args := #[y.val]) (W' := Wy) ?_ (rvalue_any y Wy (HB.out Wy (below_own' HZZ.out hi)) fy ry) ?_
        · simp only [execOp, h30]
          simp [go_sem]
          try (simpa [Act.eval] using h30)
        · rintro e W1 ⟨rfl, hb⟩
          exact ⟨_, rfl, by rw [VT.out]; rfl, below_own' hi hb⟩
      · refine step_none rfl ?_
        have h29 : a.eval (.tmp 29) = .string vs := ha.eval_got (j := 1) (by rw [← hops]; rfl) rfl (hall ⟨1, .data⟩ (by simp) rfl)
        have h31 : a.eval (.tmp 31) = .string vt := ha.eval_got (j := 3) (by rw [← hops]; rfl) rfl (hall ⟨3, .data⟩ (by simp) rfl)
        refine opIn_call wideAt_plain (fun c h => by cases h) (f := 58) (args := #[.string vs, .string vt]) (W' := Wy) ?_ (rcmp_any vs vt Wy) ?_
        · simp only [execOp, h29, h31]
          simp [go_sem]
          try (simpa [Act.eval] using (⟨h29, h31⟩ : _ ∧ _))
        · rintro e W1 ⟨rfl, rfl⟩
          exact ⟨_, rfl, rfl, hi⟩
    case tail =>
      intro Wz hz
      subst hops
      simp only [frameOf, Act.put, Option.bind_some, List.getElem?_toArray, List.getElem?_cons_zero, List.getElem?_cons_succ, List.setIfInBounds_toArray, List.set_cons_zero, List.set_cons_succ, List.drop_succ_cons, List.drop_zero]
      have HZ := Lib.hid hz
      clear hz
      gi_wp2_with fail
      go_ret
      exact ⟨by rw [HE.out]; rfl, below_own' HZZ.out HZ.out⟩
end Go.Proofs.YtmepjbjmjbpchaaGreatDoor
end
section
/- A law's answer where the call leaves new blocks, frozen ones among them: of what was there nothing has turned. -/
namespace Go.Proofs.YtmepjbjmjbpchaaGreatDoor
open Go.ChangeShapes Go.WideShapes Go.ChangeAt Go.RowKit
set_option linter.unusedVariables false

section
variable {H : Type} {enc : TypeId × Value → H} {P : Program}
theorem trodAll_stays {enc : TypeId × Value → H} (hl : laidOutB P = true) {W W' : World} {sp' : Nat → Bool} : ∀ (ts : List TypeId) (vs : List Value) (ds : List (DataW H)) (ps : List MemPlace), (∀ t ∈ ts, P.readableRec t = true ∧ t < P.types.size) →
    DataW.TrodAll enc P W 0 (fun _ => true) true ts vs ds ps → (∀ p ∈ ps, W.sameAt W' p) → (∀ p ∈ ps, sp' p.block = true) → DataW.TrodAll enc P W' 0 sp' true ts vs ds ps := by
  intro ts
  induction ts with
  | nil => intro vs ds ps _ h _ _; obtain ⟨rfl, rfl, rfl⟩ := trodAll_nil h; exact trodAll_mk0
  | cons t ts ih =>
    intro vs ds ps hr h hs hp
    obtain ⟨v, vs', d, ds', p, q, rfl, rfl, rfl, h0, r⟩ := trodAll_cons h
    exact trodAll_cons_mk (WideElems.Trod_stays hl (hr t (by simp)).1 (hr t (by simp)).2 h0 (fun x hx => hs x (by simp [hx])) (fun x hx => hp x (by simp [hx])))
      (ih vs' ds' q (fun u hu => hr u (by simp [hu])) r (fun x hx => hs x (by simp [hx])) (fun x hx => hp x (by simp [hx])))
theorem post_below {f : Func} {s : ChangeSpec} {W W' : World} {args : Array Value} {v : Value} {ds : List (DataW H)} {before : List MemPlace}
    (hl : laidOutB P = true) (hr : ∀ t ∈ f.params.toList, P.readableRec t = true ∧ t < P.types.size) (hvs : s.vars = [])
    (hW : DataW.Whole enc P f.params.toList s.vars false W args.toList ds [] before)
    (hfn : s.fn H (ds ++ []) = { results := [.lit (.bool true)], args := ds })
    (hb : Below W.heap.size W W') (t : TypeId) (ht : P.underlying t = some .bool) (hrt : f.resultTypes = #[t]) (hv : v = .bool true) :
    s.post enc P f false true false false W args v W' := by
  have hlt : ∀ p ∈ before, p.block < W.heap.size := fun p hp => hW.lt p hp
  have hW0 := hW
  obtain ⟨p, q, hA, hV, hpq, -, -⟩ := hW0
  rw [hvs] at hV
  obtain ⟨-, hq⟩ := trodVars_none hV
  subst hq
  rw [List.append_nil] at hpq
  subst hpq
  refine ⟨ds, [], before, [], before, [], hW, ?_, ?_, ?_, hb.frame _, fun h => by cases h⟩
  · rw [hfn, hrt, hv]
    exact trodAll_cons_mk (shut_bool ht _) trodAll_mk0
  · rw [hfn]
    exact trodAll_stays hl _ _ _ _ hr hA (fun x hx => hb.same (hlt x hx)) (fun x hx => by simpa using hlt x hx)
  · rw [hfn, hvs]
    rfl
end
end Go.Proofs.YtmepjbjmjbpchaaGreatDoor
end
section
/- An attribute, and a list of attributes, as a row's argument: what the memory holds of them. -/
namespace Go.Proofs.YtmepjbjmjbpchaaGreatDoor
open Go.ChangeShapes Go.WideShapes Go.ChangeAt Go.RowKit
set_option linter.unusedVariables false
set_option linter.unusedSimpArgs false

section
variable {H : Type} {enc : TypeId × Value → H} {W : World}
theorem addr_plain {a : Addr} {n : Nat} {f : Nat → Value} (hcell : ∀ i, i < n → W.cell? (a.add i) = some (f i)) (hn : 0 < n) : ∃ g off, a = ⟨g, off, none⟩ ∧ g < W.heap.size ∧ ∀ j, j < n → W.cell? ⟨g, off + j, none⟩ = some (f j) := by
  obtain ⟨g, off, vw⟩ := a
  have h0 := hcell 0 hn
  have hvw : vw = none ∧ g < W.heap.size := by
    cases hb : W.heap[g]? with
    | none => cases vw <;> simp [World.cell?, Addr.add, hb] at h0
    | some o =>
      refine ⟨?_, blkLt hb⟩
      cases vw with
      | none => rfl
      | some u => cases o <;> simp [World.cell?, Addr.add, hb] at h0
  obtain ⟨rfl, hg⟩ := hvw
  refine ⟨g, off, rfl, hg, fun j hj => ?_⟩
  have had : (Addr.mk g off none).add j = ⟨g, off + j, none⟩ := by
    unfold Addr.add; split
    · rename_i h; subst h; rfl
    · rfl
  rw [← had]; exact hcell j hj
theorem weightsAll_sub {P : Program} {e : TypeId} : ∀ {l : List (DataW H)} {d : DataW H}, d ∈ l → ∀ n ∈ d.weights P e, n ∈ DataW.weightsAll P e l
  | x :: l, d, h, n, hn => by
    simp only [DataW.weightsAll]
    rcases List.mem_cons.1 h with rfl | h
    · exact List.mem_append_left _ hn
    · exact List.mem_append_right _ (weightsAll_sub h n hn)
theorem reach_eq : reachBytes = 140737488351232 := rfl
/-- A slice of numbers as the row reads it. -/
theorem intsF {n : Nat} {v : Value} {x : DataW H × List MemPlace} (hx : DataW.trod enc Tryz.prog W 0 (fun _ => true) true n 24 [v] = some x) (hw : ∀ k ∈ x.1.weights Tryz.prog 24, k ≤ reachBytes) :
    ∃ (a : Option Addr) (zs : List Int) (c : Nat), v = .slice a zs.length c ∧ IntSl W a zs ∧ (∀ z ∈ zs, -9223372036854775808 ≤ z ∧ z ≤ 9223372036854775807) ∧ zs.length ≤ c ∧ zs.length * 8 ≤ 140737488351232 := by
  rcases open_ints Tryz.underlying24 Tryz.underlying2 (by kernel_rfl) hx with ⟨hcs, hx⟩ | ⟨a1, len, cap, zs, hcs, -, hl, hm, hz, hxe, hcell, hwz⟩
  · simp at hcs
    subst hcs
    exact ⟨none, [], 0, rfl, .inl rfl, by simp, by simp, by simp⟩
  · simp only [List.cons.injEq, and_true] at hcs
    subst hcs
    have hz' : zs.length = cap := by simpa using hz
    have hr64 : ∀ z ∈ zs, -9223372036854775808 ≤ z ∧ z ≤ 9223372036854775807 := fun z h => bounds_i64 (hwz z h)
    have hlen : (zs.take len).length = len := by simp; omega
    have hbytes : len * 8 ≤ 140737488351232 := by
      have hb : Tryz.prog.bytesOf 2 = 8 := by kernel_rfl
      have := hw ((len + (zs.length - len)) * 8) (by rw [hxe]; simp only [DataW.weights, Tryz.underlying24]; rw [hb]; refine List.mem_cons.2 (.inl ?_); simp [lits]; omega)
      rw [reach_eq] at this
      omega
    refine ⟨some a1, zs.take len, cap, by rw [hlen], ?_, fun z h => hr64 z (List.mem_of_mem_take h), by omega, by omega⟩
    rcases Nat.eq_zero_or_pos len with rfl | hpos
    · exact .inl rfl
    · obtain ⟨g, off, rfl, hg, hcl⟩ := addr_plain hcell (by omega)
      refine .inr ⟨g, off, rfl, hg, fun j hj => ?_⟩
      have hj' : j < len := by omega
      rw [hcl j (by omega)]
      simp [hj']
/-- A slice of strings as the row reads it. -/
theorem strsF {n : Nat} {v : Value} {x : DataW H × List MemPlace} (hx : DataW.trod enc Tryz.prog W 0 (fun _ => true) true n 25 [v] = some x) (hw : ∀ k ∈ x.1.weights Tryz.prog 25, k ≤ reachBytes) :
    ∃ (a : Option Addr) (zs : List ByteArray) (c : Nat), v = .slice a zs.length c ∧ StrSl W a zs ∧ (∀ z ∈ zs, z.size ≤ 140737488351232) ∧ zs.length ≤ c ∧ zs.length * 16 ≤ 140737488351232 := by
  rcases open_strings Tryz.underlying25 Tryz.underlying9 (by kernel_rfl) hx with ⟨hcs, hx⟩ | ⟨a1, len, cap, zs, hcs, -, hl, hm, hz, hxe, hcell, hwz⟩
  · simp at hcs
    subst hcs
    exact ⟨none, [], 0, rfl, .inl rfl, by simp, by simp, by simp⟩
  · simp only [List.cons.injEq, and_true] at hcs
    subst hcs
    have hz' : zs.length = cap := by simpa using hz
    have hlen : (zs.take len).length = len := by simp; omega
    have hbytes : len * 16 ≤ 140737488351232 := by
      have hb : Tryz.prog.bytesOf 9 = 16 := by kernel_rfl
      have := hw ((len + (zs.length - len)) * 16) (by rw [hxe]; simp only [DataW.weights, Tryz.underlying25]; rw [hb]; refine List.mem_cons.2 (.inl ?_); simp [strs]; omega)
      rw [reach_eq] at this
      omega
    refine ⟨some a1, zs.take len, cap, by rw [hlen], ?_, fun s h => ?_, by omega, by omega⟩
    · rcases Nat.eq_zero_or_pos len with rfl | hpos
      · exact .inl rfl
      · obtain ⟨g, off, rfl, hg, hcl⟩ := addr_plain hcell (by omega)
        refine .inr ⟨g, off, rfl, hg, fun j hj => ?_⟩
        have hj' : j < len := by omega
        rw [hcl j (by omega)]
        rw [List.getElem_take, List.getD_eq_getElem?_getD, List.getElem?_eq_getElem (by omega), Option.getD_some]
    · have := hw s.data.toList.length (by
        rw [hxe]
        simp only [DataW.weights, Tryz.underlying25]
        refine List.mem_cons_of_mem _ (List.mem_append_left _ (weightsAll_sub (d := .lit (.string s.data.toList)) ?_ _ (by simp [DataW.weights])))
        exact List.mem_map.2 ⟨s, h, rfl⟩)
      rw [reach_eq] at this
      simpa using this
theorem strF {n : Nat} {v : Value} {x : DataW H × List MemPlace} (hx : DataW.trod enc Tryz.prog W 0 (fun _ => true) true n 9 [v] = some x) (hw : ∀ k ∈ x.1.weights Tryz.prog 9, k ≤ reachBytes) : ∃ s : ByteArray, v = .string s ∧ s.size ≤ 140737488351232 := by
  obtain ⟨s, hs, hx1, _⟩ := DataW.trod_string Tryz.underlying9 hx
  simp only [List.cons.injEq, and_true] at hs
  refine ⟨s, hs, ?_⟩
  have := hw s.data.toList.length (by rw [hx1]; simp [DataW.weights])
  rw [reach_eq] at this
  simpa using this
theorem intF {n : Nat} {t : TypeId} {v : Value} {x : DataW H × List MemPlace} (ht : Tryz.prog.underlying t = some (.int .i64)) (hx : DataW.trod enc Tryz.prog W 0 (fun _ => true) true n t [v] = some x) : ∃ z : Int, v = .int .i64 z ∧ -9223372036854775808 ≤ z ∧ z ≤ 9223372036854775807 := by
  obtain ⟨z, hz, hx1, hw⟩ := DataW.trod_int ht hx
  simp only [List.cons.injEq, and_true] at hz
  exact ⟨z, hz, bounds_i64 hw⟩
theorem plain_add (g off j : Nat) : (Addr.mk g off none).add j = ⟨g, off + j, none⟩ := by
  unfold Addr.add; split
  · rename_i h; subst h; rfl
  · rfl
set_option maxRecDepth 100000 in
/-- An attribute as the row reads it. -/
theorem attrF {n : Nat} {cs : List Value} {x : DataW H × List MemPlace} (hx : DataW.trod enc Tryz.prog W 0 (fun _ => true) true n 27 cs = some x) (hw : ∀ k ∈ x.1.weights Tryz.prog 27, k ≤ reachBytes) :
    ∃ a : Atr, cs = a.cells ∧ a.Lies W ∧ a.Fits := by
  obtain ⟨xs, m, rfl, hxe, hl, hlen, hf⟩ := DataW.trod_struct Tryz.underlying27 hx
  have hc6 : Tryz.prog.cellsOf 27 = 6 := by kernel_rfl
  rw [hc6] at hl
  have q0 : Tryz.prog.cellsOf 9 = 1 := by kernel_rfl
  have q1 : Tryz.prog.cellsOf 23 = 1 := by kernel_rfl
  have q2 : Tryz.prog.cellsOf 2 = 1 := by kernel_rfl
  have q4 : Tryz.prog.cellsOf 24 = 1 := by kernel_rfl
  have q5 : Tryz.prog.cellsOf 25 = 1 := by kernel_rfl
  match cs, hl with
  | [c0, c1, c2, c3, c4, c5], _ =>
    match xs, hlen with
    | [y0, y1, y2, y3, y4, y5], _ =>
      have f0 : DataW.trod enc Tryz.prog W 0 (fun _ => true) true m 9 [c0] = some y0 := by have := hf 0 _ rfl; simpa [q0] using this
      have f1 : DataW.trod enc Tryz.prog W 0 (fun _ => true) true m 23 [c1] = some y1 := by have := hf 1 _ rfl; simpa [q1] using this
      have f2 : DataW.trod enc Tryz.prog W 0 (fun _ => true) true m 2 [c2] = some y2 := by have := hf 2 _ rfl; simpa [q2] using this
      have f3 : DataW.trod enc Tryz.prog W 0 (fun _ => true) true m 9 [c3] = some y3 := by have := hf 3 _ rfl; simpa [q0] using this
      have f4 : DataW.trod enc Tryz.prog W 0 (fun _ => true) true m 24 [c4] = some y4 := by have := hf 4 _ rfl; simpa [q4] using this
      have f5 : DataW.trod enc Tryz.prog W 0 (fun _ => true) true m 25 [c5] = some y5 := by have := hf 5 _ rfl; simpa [q5] using this
      have hwe : ∀ k ∈ DataW.weightsEach Tryz.prog [9, 23, 2, 9, 24, 25] [y0.1, y1.1, y2.1, y3.1, y4.1, y5.1], k ≤ reachBytes := by
        intro k hk
        refine hw k ?_
        rw [hxe]
        simp only [DataW.weights, Tryz.underlying27]
        exact hk
      obtain ⟨s0, rfl, b0⟩ := strF f0 fun k hk => hwe k (DataW.weights_mem_each (j := 0) rfl rfl k hk)
      obtain ⟨z1, rfl, b1⟩ := intF Tryz.underlying23 f1
      obtain ⟨z2, rfl, b2⟩ := intF Tryz.underlying2 f2
      obtain ⟨s3, rfl, b3⟩ := strF f3 fun k hk => hwe k (DataW.weights_mem_each (j := 3) rfl rfl k hk)
      obtain ⟨a4, l4, k4, rfl, h4, r4, m4, n4⟩ := intsF f4 fun k hk => hwe k (DataW.weights_mem_each (j := 4) rfl rfl k hk)
      obtain ⟨a5, l5, k5, rfl, h5, r5, m5, n5⟩ := strsF f5 fun k hk => hwe k (DataW.weights_mem_each (j := 5) rfl rfl k hk)
      exact ⟨⟨s0, z1, z2, s3, a4, l4, k4, a5, l5, k5⟩, rfl, ⟨h4, h5⟩, ⟨b0, b3, b2, b1, m4, r4, n4, m5, r5, n5⟩⟩
/-- A list of attributes as the row reads it. -/
theorem attrsF {n : Nat} {v : Value} {x : DataW H × List MemPlace} (hx : DataW.trod enc Tryz.prog W 0 (fun _ => true) true n 22 [v] = some x) (hw : ∀ k ∈ x.1.weights Tryz.prog 22, k ≤ reachBytes) :
    ∃ (p : Option Addr) (l : List Atr) (c : Nat), v = .slice p l.length c ∧ AtrSl W p l ∧ l.length ≤ c ∧ l.length ≤ 100000000000000 := by
  rcases Go.Deep.open_slice Tryz.underlying22 hx with ⟨hcs, hx⟩ | ⟨a, len, cap, m, k, D, Pl, hcs, -, hl, hm, hmm, hxe, hi⟩
  · simp at hcs
    subst hcs
    exact ⟨none, [], 0, rfl, ⟨.inl rfl, by simp, by simp⟩, by simp, by simp⟩
  · simp only [List.cons.injEq, and_true] at hcs
    subst hcs
    have hm' : m = cap := by simpa using hmm
    subst hm'
    have hc6 : Tryz.prog.cellsOf 27 = 6 := by kernel_rfl
    have hwe : ∀ z ∈ (len + (m - len)) * 96 :: (DataW.weightsAll Tryz.prog 27 ((List.range len).map D) ++ DataW.weightsAll Tryz.prog 27 ((List.range (m - len)).map fun j => D (len + j))), z ≤ reachBytes := by
      intro z hz
      refine hw z ?_
      rw [hxe]
      have hb : Tryz.prog.bytesOf 27 = 96 := by kernel_rfl
      simp only [DataW.weights, Tryz.underlying22, hb, List.length_map, List.length_range]
      exact hz
    have hbig := hwe _ (List.mem_cons_self ..)
    rw [reach_eq] at hbig
    have key : ∀ i, i < len → ∃ b : Atr, (∀ j, j < 6 → W.cell? ((a.add (i * 6)).add j) = b.cells[j]?) ∧ b.Lies W ∧ b.Fits := by
      intro i h
      obtain ⟨cs', hc, ht⟩ := hi i (by omega)
      rw [hc6] at hc
      obtain ⟨b, rfl, h1, h2⟩ := attrF ht fun z hz => hwe z (List.mem_cons_of_mem _ (List.mem_append_left _ (weightsAll_sub (List.mem_map.2 ⟨i, List.mem_range.2 h, rfl⟩) z hz)))
      exact ⟨b, (World.cells?_some hc).2.2, h1, h2⟩
    have : ∃ V : Nat → Atr, ∀ i, i < len → (∀ j, j < 6 → W.cell? ((a.add (i * 6)).add j) = (V i).cells[j]?) ∧ (V i).Lies W ∧ (V i).Fits := by
      refine ⟨fun i => if h : i < len then Classical.choose (key i h) else ⟨.empty, 0, 0, .empty, none, [], 0, none, [], 0⟩, fun i h => ?_⟩
      have e := Classical.choose_spec (key i h)
      simp only [dif_pos h]
      exact e
    obtain ⟨V, hV⟩ := this
    have hlen : ((List.range len).map V).length = len := by simp
    refine ⟨some a, (List.range len).map V, m, by rw [hlen], ⟨?_, ?_, ?_⟩, by omega, by omega⟩
    · rcases Nat.eq_zero_or_pos len with rfl | hpos
      · exact .inl rfl
      · have h0 := (hV 0 hpos).1 0 (by omega)
        have had : (a.add (0 * 6)).add 0 = a.add 0 := by unfold Addr.add; simp
        rw [had] at h0
        obtain ⟨g, off, rfl, hg, hcl⟩ := addr_plain (W := W) (n := 1) (a := a) (f := fun _ => .string (V 0).name) (by intro i hi; obtain rfl : i = 0 := (by omega); exact h0) (by omega)
        refine .inr ⟨g, off, rfl, hg, fun j hj i hi => ?_⟩
        have := (hV j (by omega)).1 i hi
        rw [plain_add, plain_add] at this
        rw [this]
        simp
    · intro b hb
      obtain ⟨i, hi, rfl⟩ := List.mem_map.1 hb
      exact (hV i (List.mem_range.1 hi)).2.1
    · intro b hb
      obtain ⟨i, hi, rfl⟩ := List.mem_map.1 hb
      exact (hV i (List.mem_range.1 hi)).2.2
end
end Go.Proofs.YtmepjbjmjbpchaaGreatDoor
end
section
/- What every row of the chapter uses: the library's variables as the row lays them, the world of the witness. -/
namespace Go.Proofs.YtmepjbjmjbpchaaGreatDoor
open Go.ChangeShapes Go.WideShapes Go.ChangeAt Go.RowKit
set_option linter.unusedVariables false
set_option linter.unusedSimpArgs false

theorem own : ownKnob Tryz.prog.godebug = none := by kernel_rfl
theorem laid_tail {P : Program} {W : World} {x : String × DataW Unit} {rest : List (String × DataW Unit)} (h : laidMet P (x :: rest) W) : laidMet P rest W := by
  obtain ⟨ps, ⟨g', t', cs, fuel, p, q, hg', ht', hvar, hd, hq, hrest⟩, h2⟩ := h
  subst hrest
  exact ⟨q, hq, (List.nodup_append.1 h2.1).2.1, fun b off hm => h2.2 b off (List.mem_append_right _ hm)⟩
abbrev laidList : List (String × DataW Unit) := Rows.attrsSetsRow.laid
theorem pow_of {W : World} (h : laidMetH Tryz.prog laidList W) : Pow W :=
  Lib.tabIs_of_head (g := 5) (t := 201) (e := 125) (n := 20) (rest := [("unicode/utf8.acceptRanges", Rows.laid_unicode_utf8_acceptRanges), ("strconv.ErrRange", Rows.laid_strconv_ErrRange), ("strconv.ErrSyntax", Rows.laid_strconv_ErrSyntax), ("unicode/utf8.first", Rows.laid_unicode_utf8_first)]) (by kernel_rfl) (by kernel_rfl) (by kernel_rfl) (by kernel_rfl) (by kernel_rfl) (by kernel_rfl) (laid_tail (laid_tail (show laidMet Tryz.prog laidList W from h)))
theorem glob_of {W : World} (h : laidMetH Tryz.prog laidList W) (hsh : W.ShapedOpen Tryz.prog) : Glob W := by
  obtain ⟨m, hm⟩ := Tryz.laysM138.s1_3 W hsh
  refine ⟨pow_of h, ⟨m, hm⟩, ?_⟩
  rcases Nat.eq_zero_or_pos W.heap.size with h0 | h0
  · exfalso
    have : W.heap[0]? = none := Array.getElem?_eq_none (by omega)
    have hm' : W.cell? ⟨0, 0, none⟩ = some (.int .i64 m) := hm
    simp [World.cell?, this] at hm'
  · exact h0
/-- A datum's cells. -/
def flat : DataW Unit → List Value
  | .lit (.int k n) => [.int k n]
  | .agg l => flats l
  | _ => []
where flats : List (DataW Unit) → List Value
  | [] => []
  | x :: l => flat x ++ flats l
noncomputable def layOne (w : World) (x : String × DataW Unit) : World :=
  match Tryz.prog.globalNamed x.1 with
  | some g => { w with heap := w.heap.modify g fun
      | .cells _ t frozen => .cells (flat x.2).toArray t frozen
      | o => o }
  | none => w
/-- A variable that holds an error of a text. -/
noncomputable def layErr (w : World) (g : Nat) (s : ByteArray) : World :=
  { w with heap := (w.heap.modify g fun
      | .cells _ t frozen => .cells #[.iface 182 (.pointer (some ⟨w.heap.size, 0, none⟩))] t frozen
      | o => o).push (.cells #[.string s] 184 (0, 0)) }
abbrev plainList : List (String × DataW Unit) := [("math/bits.deBruijn32tab", Rows.laid_math_bits_deBruijn32tab), ("math/bits.deBruijn64tab", Rows.laid_math_bits_deBruijn64tab), ("internal/strconv.uint64pow10", Rows.laid_internal_strconv_uint64pow10), ("unicode/utf8.acceptRanges", Rows.laid_unicode_utf8_acceptRanges), ("unicode/utf8.first", Rows.laid_unicode_utf8_first)]
/-- A WORLD FOR THE WITNESS: the settled one, the tables holding what their initialisers lay. -/
noncomputable def laidWorld (os : Os) : World :=
  layErr (layErr (plainList.foldl layOne (World.holding Tryz.prog os ⟨#[], #[], []⟩)) 2 ⟨#[118, 97, 108, 117, 101, 32, 111, 117, 116, 32, 111, 102, 32, 114, 97, 110, 103, 101]⟩) 1 ⟨#[105, 110, 118, 97, 108, 105, 100, 32, 115, 121, 110, 116, 97, 120]⟩
theorem wt_of {H : Type} {ts : List TypeId} {ds : List (DataW H)} {j : Nat} {t : TypeId} {d : DataW H} (hsz : (DataW.weightsEach Tryz.prog ts ds).all (· ≤ reachBytes) = true) (ht : ts[j]? = some t) (hd : ds[j]? = some d) : ∀ k ∈ d.weights Tryz.prog t, k ≤ reachBytes :=
  fun k hk => of_decide_eq_true (List.all_eq_true.1 hsz k (DataW.weights_mem_each ht hd k hk))
end Go.Proofs.YtmepjbjmjbpchaaGreatDoor
end
