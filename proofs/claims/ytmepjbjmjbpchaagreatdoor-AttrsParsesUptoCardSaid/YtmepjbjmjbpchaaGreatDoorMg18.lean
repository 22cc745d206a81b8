/- Texts of this claim, laid together: Az1, Ae0, Ae1, TyB, TyC, TyE, TyF, TyG, TyH, Rf2, Rf3, Aw0, Run, Aw1, Lw0, Lw1, LwL, Jn0, Ap0. -/
import Derived.Deep.RegionLaw
import Derived.Laws.IdiomCopy
import Derived.Lib.LazyBuf
import Derived.WalkMore
import Derived.Deep.Cut
import Derived.Test.YtmepjbjmjbpchaaGreatDoorMg1
import Derived.Test.YtmepjbjmjbpchaaGreatDoorMg4
import Derived.Test.YtmepjbjmjbpchaaGreatDoorMg5
import Derived.Test.YtmepjbjmjbpchaaGreatDoorMg7
import Derived.Test.YtmepjbjmjbpchaaGreatDoorMg13
import Derived.Test.YtmepjbjmjbpchaaGreatDoorMg14
import Derived.Test.YtmepjbjmjbpchaaGreatDoorMg15
import Derived.Test.YtmepjbjmjbpchaaGreatDoorMg16
import Derived.Test.YtmepjbjmjbpchaaGreatDoorMg17
section
/- attrs.guess at the strings that the examples use. -/
namespace Go.Proofs.YtmepjbjmjbpchaaGreatDoor
open Go Go.RowKit
set_option linter.unusedVariables false
set_option linter.unusedSimpArgs false

theorem not_empty {s : ByteArray} (h : 0 < s.size) : s.toList.isEmpty = false := by
  cases he : s.toList.isEmpty with
  | false => rfl
  | true =>
    have e := (toList_nil_iff s).1 (List.isEmpty_iff.1 he)
    have : s.size = 0 := by rw [ByteArray.size, ← Array.length_toList, e]; rfl
    omega
theorem mixed_in : Tryz.prog.follows .mixedOrders = true := by kernel_rfl
set_option maxRecDepth 100000 in
set_option maxHeartbeats 4000000 in
theorem guess_nil (nm : ByteArray) (w : World) :
    Calls Tryz.prog 43 #[.string nm, .string ⟨#[]⟩] w fun e w' => e = .returned (av nm 0 0 ⟨#[]⟩ none 0 0 none 0 0) ∧ Below w.heap.size w w' := by
  go_enter Tryz.func43, Tryz.ntmps43
  go_wp2_with fail
  refine bodyPost_ret (v := av nm 0 0 ⟨#[]⟩ none 0 0 none 0 0) (by simp [results, Tryz.results43, go_sem]) rfl ?_
  exact ⟨rfl, by (repeat (first | (with_reducible refine below_set ?_ (by first | exact Nat.le_refl _ | omega) _ _) | with_reducible exact Below.refl _ _ | with_reducible refine belowA ?_ _ | with_reducible refine belowD ?_ | with_reducible refine belowN ?_ _))⟩
set_option maxRecDepth 100000 in
set_option maxHeartbeats 4000000 in
theorem guess_sym (nm s : ByteArray) (w : World) (h0 : 0 < s.size) (hc : (s[0]'h0).toNat = 64) (hs : s.size ≤ 140737488355328) :
    Calls Tryz.prog 43 #[.string nm, .string s] w fun e w' => e = .returned (av nm 2 0 (s.extract 1 s.size) none 0 0 none 0 0) ∧ Below w.heap.size w w' := by
  have hne := not_empty h0
  have h1 : (1 : Int) ≤ (s.size : Int) := by omega
  have h00 : (0 : Int) < (s.size : Int) := by omega
  have hm1 : (1 : Int) ≤ max 1 ((s.size : Int) - 1) := by omega
  have hm2 : max 1 ((s.size : Int) - 1) ≤ (s.size : Int) := by omega
  have mixed := mixed_in
  go_enter Tryz.func43, Tryz.ntmps43
  go_wp2_with fail
  go_region_o
  go_wp2_with fail
  refine bodyPost_ret (v := av nm 2 0 (s.extract 1 s.size) none 0 0 none 0 0) (by simp [results, Tryz.results43, go_sem]) rfl ?_
  exact ⟨rfl, by (repeat (first | (with_reducible refine below_set ?_ (by first | exact Nat.le_refl _ | omega) _ _) | with_reducible exact Below.refl _ _ | with_reducible refine belowA ?_ _ | with_reducible refine belowD ?_ | with_reducible refine belowN ?_ _))⟩
set_option maxRecDepth 100000 in
set_option maxHeartbeats 4000000 in
theorem guess_num (nm s : ByteArray) (w : World) (h0 : 0 < s.size) (hc : (s[0]'h0).toNat = 45 ∨ (48 ≤ (s[0]'h0).toNat ∧ (s[0]'h0).toNat ≤ 57)) (hs : s.size ≤ 140737488355328) (v : Int)
    (hv : ∀ W, Below w.heap.size w W → Calls Tryz.prog 71 #[.string s, .int .i64 10, .int .i64 64] W fun e w' => ∃ er, e = .returned (.tuple #[.int .i64 v, er]) ∧ Below W.heap.size W w') :
    Calls Tryz.prog 43 #[.string nm, .string s] w fun e w' => e = .returned (av nm 0 v ⟨#[]⟩ none 0 0 none 0 0) ∧ Below w.heap.size w w' := by
  have hne := not_empty h0
  have h1 : (1 : Int) ≤ (s.size : Int) := by omega
  have h00 : (0 : Int) < (s.size : Int) := by omega
  have hm1 : (1 : Int) ≤ max 1 ((s.size : Int) - 1) := by omega
  have hm2 : max 1 ((s.size : Int) - 1) ≤ (s.size : Int) := by omega
  have mixed := mixed_in
  have HV := Lib.hid hv
  clear hv
  obtain ⟨c, hcd⟩ : ∃ c, c = (s[0]'h0).toNat := ⟨_, rfl⟩
  rw [← hcd] at hc
  have hcx : (s[0]'h0).toNat = c := hcd.symm
  clear hcd
  have hcs : c = 45 ∨ (c ≠ 45 ∧ 48 ≤ c ∧ c ≤ 57) := by omega
  clear hc
  rcases hcs with rfl | ⟨c1, c2, c3⟩
  · go_enter Tryz.func43, Tryz.ntmps43
    go_wp2_with (go_at_call 71; refine (HV.out _ ?_).mono ?_; (focus ((repeat (first | (with_reducible refine below_set ?_ (by first | exact Nat.le_refl _ | omega) _ _) | with_reducible exact Below.refl _ _ | with_reducible refine belowA ?_ _ | with_reducible refine belowD ?_ | with_reducible refine belowN ?_ _)); done)); rintro e w1 ⟨er, rfl, hb1⟩; have c0 := rdCell hb1 w.heap.size (by first | (simp; done) | (simp; omega)); have f0 := rdFree hb1 w.heap.size (by first | (simp; done) | (simp; omega)); have e0 := rdCell hb1 (w.heap.size + 1) (by first | (simp; done) | (simp; omega)); have g0 := rdFree hb1 (w.heap.size + 1) (by first | (simp; done) | (simp; omega)); have hzw1 : w.heap.size + 1 < w1.heap.size := (by have := Below.size hb1; simp at this; omega))
    refine bodyPost_ret (v := av nm 0 v ⟨#[]⟩ none 0 0 none 0 0) (by simp [results, Tryz.results43, go_sem, c0, f0, e0, g0, hzw1, show w.heap.size < w1.heap.size by omega]) rfl ?_
    exact ⟨rfl, by (repeat (first | (with_reducible refine below_set ?_ (by first | exact Nat.le_refl _ | omega) _ _) | with_reducible exact Below.refl _ _ | with_reducible refine belowA ?_ _ | with_reducible refine below_own' ?_ hb1 | with_reducible refine belowD ?_ | with_reducible refine belowN ?_ _))⟩
  · have b5 : ((c : Int) == 45) = false := by simp; omega
    have b6 : (48 : Int) ≤ (c : Int) := by omega
    have b7 : (c : Int) ≤ 57 := by omega
    go_enter Tryz.func43, Tryz.ntmps43
    go_wp2_with (go_at_call 71; refine (HV.out _ ?_).mono ?_; (focus ((repeat (first | (with_reducible refine below_set ?_ (by first | exact Nat.le_refl _ | omega) _ _) | with_reducible exact Below.refl _ _ | with_reducible refine belowA ?_ _ | with_reducible refine belowD ?_ | with_reducible refine belowN ?_ _)); done)); rintro e w1 ⟨er, rfl, hb1⟩; have c0 := rdCell hb1 w.heap.size (by first | (simp; done) | (simp; omega)); have f0 := rdFree hb1 w.heap.size (by first | (simp; done) | (simp; omega)); have e0 := rdCell hb1 (w.heap.size + 1) (by first | (simp; done) | (simp; omega)); have g0 := rdFree hb1 (w.heap.size + 1) (by first | (simp; done) | (simp; omega)); have hzw1 : w.heap.size + 1 < w1.heap.size := (by have := Below.size hb1; simp at this; omega))
    refine bodyPost_ret (v := av nm 0 v ⟨#[]⟩ none 0 0 none 0 0) (by simp [results, Tryz.results43, go_sem, c0, f0, e0, g0, hzw1, show w.heap.size < w1.heap.size by omega]) rfl ?_
    exact ⟨rfl, by (repeat (first | (with_reducible refine below_set ?_ (by first | exact Nat.le_refl _ | omega) _ _) | with_reducible exact Below.refl _ _ | with_reducible refine belowA ?_ _ | with_reducible refine below_own' ?_ hb1 | with_reducible refine belowD ?_ | with_reducible refine belowN ?_ _))⟩
set_option maxRecDepth 100000 in
set_option maxHeartbeats 4000000 in
theorem guess_ints0 (nm : ByteArray) (w : World) :
    Calls Tryz.prog 43 #[.string nm, .string ⟨#[91, 93]⟩] w fun e w' => e = .returned (av nm 4 0 ⟨#[]⟩ none 0 0 none 0 0) ∧ Below w.heap.size w w' := by
  go_enter Tryz.func43, Tryz.ntmps43
  go_wp2_with fail
  refine bodyPost_ret (v := av nm 4 0 ⟨#[]⟩ none 0 0 none 0 0) (by simp [results, Tryz.results43, go_sem]) rfl ?_
  exact ⟨rfl, by (repeat (first | (with_reducible refine below_set ?_ (by first | exact Nat.le_refl _ | omega) _ _) | with_reducible exact Below.refl _ _ | with_reducible refine belowA ?_ _ | with_reducible refine belowD ?_ | with_reducible refine belowN ?_ _))⟩
end Go.Proofs.YtmepjbjmjbpchaaGreatDoor
end
section
/- slices.Delete of one attribute out of a row of the call's own. -/
namespace Go.Proofs.YtmepjbjmjbpchaaGreatDoor
open Go Go.RowKit Go.Sort
set_option linter.unusedVariables false
set_option linter.unusedSimpArgs false

end Go.Proofs.YtmepjbjmjbpchaaGreatDoor
end
section
/- attrs.Drop. -/
namespace Go.Proofs.YtmepjbjmjbpchaaGreatDoor
open Go Go.RowKit Go.Sort
set_option linter.unusedVariables false
set_option linter.unusedSimpArgs false

end Go.Proofs.YtmepjbjmjbpchaaGreatDoor
end
section
/- Package types: Element, Cells, Range, Wrap, Unsigned. -/
namespace Go.Proofs.YtmepjbjmjbpchaaGreatDoor
open Go Go.RowKit
set_option linter.unusedVariables false
set_option linter.unusedSimpArgs false

section
variable (s : ByteArray) (w : World) (hs : s.size ≤ 140737488355328)
include hs
end
end Go.Proofs.YtmepjbjmjbpchaaGreatDoor
end
section
/- Package types: Wrap, Unsigned. -/
namespace Go.Proofs.YtmepjbjmjbpchaaGreatDoor
open Go Go.RowKit
set_option linter.unusedVariables false
set_option linter.unusedSimpArgs false
section
variable (s : ByteArray) (w : World) (hs : s.size ≤ 140737488355328)
include hs
end
end Go.Proofs.YtmepjbjmjbpchaaGreatDoor
end
section
/- Package types: the text of a type that was read; Turned. -/
namespace Go.Proofs.YtmepjbjmjbpchaaGreatDoor
open Go Go.RowKit Go.Sort
set_option linter.unusedVariables false
set_option linter.unusedSimpArgs false

/-- A row of ints. -/
def IntRow (W : World) (g : Nat) (zs : List Int) : Prop := g < W.heap.size ∧ ∀ j, j < zs.length → W.cell? ⟨g, 0 + j, none⟩ = some (.int .i64 (zs.getD j 0))
theorem IntRow.below {W W1 : World} {g : Nat} {zs : List Int} (h : IntRow W g zs) (hb : Below W.heap.size W W1) : IntRow W1 g zs :=
  ⟨Nat.lt_of_lt_of_le h.1 hb.size, fun j hj => (rdCell hb g h.1 (0 + j)).trans (h.2 j hj)⟩
section
variable (k : Nat) (b n : Nat) (zs : List Int) (x y z : Int) (w : World)
end
end Go.Proofs.YtmepjbjmjbpchaaGreatDoor
end
section
/- Package types: Turned, Shape. -/
namespace Go.Proofs.YtmepjbjmjbpchaaGreatDoor
open Go Go.RowKit Go.Sort
set_option linter.unusedVariables false
set_option linter.unusedSimpArgs false

section
end
section
variable (s : ByteArray) (w : World) (hs : s.size ≤ 140737488355328)
include hs
end
end Go.Proofs.YtmepjbjmjbpchaaGreatDoor
end
section
/- Package types: Shape, Make. -/
namespace Go.Proofs.YtmepjbjmjbpchaaGreatDoor
open Go Go.RowKit Go.Sort
set_option linter.unusedVariables false
set_option linter.unusedSimpArgs false

section
variable (s : ByteArray) (w : World) (hs : s.size ≤ 140737488355328)
include hs
end
end Go.Proofs.YtmepjbjmjbpchaaGreatDoor
end
section
/- Package types: Make. -/
namespace Go.Proofs.YtmepjbjmjbpchaaGreatDoor
open Go Go.RowKit Go.Sort
set_option linter.unusedVariables false
set_option linter.unusedSimpArgs false

section
end
end Go.Proofs.YtmepjbjmjbpchaaGreatDoor
end
section
/- The reference of types: digits, Cells, Make. -/
namespace Go.Proofs.YtmepjbjmjbpchaaGreatDoor
open Go Go.RowKit Go.Sort
set_option linter.unusedVariables false
set_option linter.unusedSimpArgs false

theorem enc_dig : ∀ d : Fin 10, (Utf8.encode (48 + (d.val : Int))).data = #[UInt8.ofNat (48 + d.val)] := by decide +kernel
theorem enc_digit {n : Nat} (h : n < 10) : Utf8.encode (48 + (n : Int)) = ⟨[UInt8.ofNat (48 + n)].toArray⟩ := ByteArray.ext (enc_dig ⟨n, h⟩)
theorem dig_len {m : Nat} (h : m < 18446744073709551616) : (Lib.decDigits m).length ≤ 20 := by
  rw [Lib.decDigits_length]; exact digs_le 19 m (by omega)
set_option maxRecDepth 100000 in
theorem natural_small (n : Nat) (h : n < 10) (w : World) : Calls Tryz.prog 82 #[.int .u64 n] w fun e w' => e = .returned (.string ⟨(Lib.decDigits n).toArray⟩) ∧ w = w' := by
  have h10 : (n : Int) < 10 := by omega
  go_enter Tryz.func82, Tryz.ntmps82
  go_wp2_with fail
  go_ret
  refine ⟨?_, rfl⟩
  rw [Lib.decDigits_one h, ← enc_digit h]
  rfl
set_option maxRecDepth 100000 in
theorem natural_any : ∀ (m n : Nat), n ≤ m → n < 18446744073709551616 → ∀ (w : World), Calls Tryz.prog 82 #[.int .u64 n] w fun e w' => e = .returned (.string ⟨(Lib.decDigits n).toArray⟩) ∧ w = w' := by
  intro m
  induction m with
  | zero => intro n hn hb w; exact natural_small n (by omega) w
  | succ m ih =>
    intro n hn hb w
    by_cases h : n < 10
    · exact natural_small n h w
    · have h10 : ((n : Int) < 10) = False := by simp; omega
      have hih : Calls Tryz.prog 82 #[.int .u64 ((n : Int) / 10)] w fun e w' => ∃ t : ByteArray, e = .returned (.string t) ∧ Hid (t.data.toList = Lib.decDigits (n / 10)) ∧ t.size ≤ 20 ∧ w = w' := by
        have := ih (n / 10) (by omega) (by omega) w
        rw [show ((n / 10 : Nat) : Int) = (n : Int) / 10 by simp] at this
        refine this.mono fun e w' ⟨he, hw⟩ => ⟨_, he, rfl, ?_, hw⟩
        simpa [ByteArray.size] using dig_len (m := n / 10) (by omega)
      obtain ⟨d, hd⟩ : ∃ d, d = n % 10 := ⟨_, rfl⟩
      have hd10 : d < 10 := by omega
      have hmod : (n : Int) % 10 = (d : Int) := by omega
      have hdd : Lib.decDigits n = Lib.decDigits (n / 10) ++ [UInt8.ofNat (48 + d)] := by rw [Lib.decDigits, dif_neg h, hd]
      have hen := enc_digit hd10
      have hensz : (Utf8.encode (48 + (d : Int))).size = 1 := by rw [hen]; rfl
      have HIH := Lib.hid hih
      have HEN := Lib.hid hen
      have HDD := Lib.hid hdd
      have hbi : (n : Int) < 18446744073709551616 := by omega
      clear hih ih hen hb hn h hd hdd
      go_enter Tryz.func82, Tryz.ntmps82
      go_wp2_with (go_at_call 82; refine HIH.out.mono ?_; rintro e w' ⟨t, rfl, ht, htl, rfl⟩)
      go_ret
      refine ⟨?_, rfl⟩
      have e1 : t ++ Utf8.encode (48 + (d : Int)) = ⟨(Lib.decDigits n).toArray⟩ := by
        rw [HDD.out, ← ht.out, HEN.out]
        apply ByteArray.ext
        apply Array.ext'
        simp
      exact congrArg (fun t => Ending.returned (.string t)) e1
theorem natural_str (n : Int) (h0 : 0 ≤ n) (h1 : n ≤ 9223372036854775807) (w : World) : Calls Tryz.prog 82 #[.int .u64 n] w fun e w' => e = .returned (.string ⟨(Lib.itoa n).toArray⟩) ∧ w = w' := by
  obtain ⟨k, rfl⟩ := Int.eq_ofNat_of_zero_le h0
  have : Lib.itoa (k : Int) = Lib.decDigits k := by unfold Lib.itoa; rw [if_neg (by omega)]; rfl
  rw [this]
  exact natural_any k k (Nat.le_refl _) (by omega) w
set_option maxRecDepth 100000 in
theorem digits_any (n : Int) (h0 : 0 ≤ n) (h1 : n ≤ 9223372036854775807) (w : World) : Calls Tryz.prog 60 #[.int .i64 n] w fun e w' => e = .returned (.string ⟨(Lib.itoa n).toArray⟩) ∧ w = w' := by
  have HN := Lib.hid (natural_str n h0 h1 w)
  have hw : IntKind.u64.wrap n = n := by rw [IntKind.wrap_u64]; omega
  go_enter Tryz.func60, Tryz.ntmps60
  go_wp2_with (go_at_call 82; refine HN.out.mono ?_; rintro e w' ⟨rfl, rfl⟩)
  go_ret
  exact ⟨rfl, rfl⟩
end Go.Proofs.YtmepjbjmjbpchaaGreatDoor
end
section
/- The reference of types: Make. -/
namespace Go.Proofs.YtmepjbjmjbpchaaGreatDoor
open Go Go.RowKit Go.Sort
set_option linter.unusedVariables false
set_option linter.unusedSimpArgs false

end Go.Proofs.YtmepjbjmjbpchaaGreatDoor
end
section
/- What the constants of `awake` are. -/
namespace Go.Proofs.YtmepjbjmjbpchaaGreatDoor
open Go Go.RowKit Go.Sort
set_option linter.unusedVariables false
set_option linter.unusedSimpArgs false

end Go.Proofs.YtmepjbjmjbpchaaGreatDoor
end
section
/- A long statement in one frame: the operations that only reckon are run by the kernel; a call, or a read of the heap, is met by hand. -/
namespace Go.Proofs.YtmepjbjmjbpchaaGreatDoor
open Go
set_option linter.unusedVariables false
set_option linter.unusedSimpArgs false
section
variable {P : Program} {ops : Array Oper} {Q : Exit → Act → World → Prop}
end
end Go.Proofs.YtmepjbjmjbpchaaGreatDoor
end
section
/- What every statement asks of a program whatever the input is: it is so. -/
namespace Go.Proofs.YtmepjbjmjbpchaaGreatDoor
open Go Go.RowKit Go.Sort
set_option linter.unusedVariables false
set_option linter.unusedSimpArgs false

/-- The library's variables that are read. -/
structure Glob (w : World) : Prop where
  pow : Pow w
  len : ∃ m : Int, w.cell? ⟨0, 0, none⟩ = some (.int .i64 m)
  pos : 0 < w.heap.size
theorem Glob.below {w w1 : World} (h : Glob w) (hb : Below w.heap.size w w1) : Glob w1 :=
  ⟨pow_below h.pow hb, by obtain ⟨m, hm⟩ := h.len; exact ⟨m, (rdCell hb 0 h.pos 0).trans hm⟩, Nat.lt_of_lt_of_le h.pos hb.size⟩

section
variable (w : World) (hg : Glob w)
end
end Go.Proofs.YtmepjbjmjbpchaaGreatDoor
end
section
/- Make, in the program and in the reference, at whatever arguments. -/
namespace Go.Proofs.YtmepjbjmjbpchaaGreatDoor
open Go Go.RowKit Go.Sort
set_option linter.unusedVariables false
set_option linter.unusedSimpArgs false

end Go.Proofs.YtmepjbjmjbpchaaGreatDoor
end
section
/- What the laws use of types: the program's answers where a string is a number type, another type, or none. -/
namespace Go.Proofs.YtmepjbjmjbpchaaGreatDoor
open Go Go.RowKit Go.Sort
set_option linter.unusedVariables false
set_option linter.unusedSimpArgs false

theorem askOf_no {P : Nat → Bool} {l : List UInt8} (hr : readOf l = none) : askOf P l = (⟨0, 0, []⟩, 10) := by
  unfold askOf; rw [hr]
section
variable (s : ByteArray) (w : World) (hs : s.size ≤ 140737488355328) (n : Int) (hn0 : -9223372036854775808 ≤ n) (hn1 : n ≤ 9223372036854775807)
include hs
end
end Go.Proofs.YtmepjbjmjbpchaaGreatDoor
end
section
/- The walk of the statement TypesLists. -/
namespace Go.Proofs.YtmepjbjmjbpchaaGreatDoor
open Go Go.RowKit Go.Sort
set_option linter.unusedVariables false
set_option linter.unusedSimpArgs false

theorem split_all (s : ByteArray) (w : World) (hs : s.size < 4294967281) (hg : Glob w) : Calls Tryz.prog 74 #[.string s] w (SplitPost s w) := by
  cases hb : bodyOf s.data.toList with
  | none => exact splitT_no s w (by omega) hb
  | some l =>
    by_cases hl : l = []
    · subst hl; exact splitT_empty s w (by omega) hb
    · obtain ⟨m, hm⟩ := hg.len
      exact splitT_some s w hs m hm hg.pos ⟨l.toArray⟩ hb hl
theorem badTy_isTy (s : ByteArray) : badTy s = !isTy s.data.toList := by
  unfold badTy isTy
  cases h : readOf s.data.toList with
  | none => rw [show askAny s.data.toList = (⟨0, 0, []⟩, 10) from askOf_no h]; rfl
  | some q => rw [show askAny s.data.toList = (q, 0) by unfold askAny askOf; rw [h]; rfl]; rfl
theorem okPieces_eq (b : ByteArray) : okPieces b = (decide ((piecesL b.data.toList).length ≤ 100) && (piecesL b.data.toList).all isTy) := by
  unfold okPieces
  rw [← pieces_data, List.length_map, List.all_map]
  congr 1
  rw [List.any_eq_not_all_not, Bool.not_not]
  congr 1
  funext x
  simp [badTy_isTy]
theorem data_inj : ∀ {a b : List ByteArray}, a.map (·.data.toList) = b.map (·.data.toList) → a = b
  | [], [], _ => rfl
  | [], _ :: _, h => by simp at h
  | _ :: _, [], h => by simp at h
  | x :: a, y :: b, h => by
    simp only [List.map_cons, List.cons.injEq] at h
    obtain ⟨h1, h2⟩ := h
    rw [data_inj h2, ByteArray.ext (Array.ext' h1)]
end Go.Proofs.YtmepjbjmjbpchaaGreatDoor
end
section
/- The reference's Join; Split of a joined list. -/
namespace Go.Proofs.YtmepjbjmjbpchaaGreatDoor
open Go Go.RowKit Go.Sort
set_option linter.unusedVariables false
set_option linter.unusedSimpArgs false

theorem jn_first {ls : List (List UInt8)} (h : 0 < ls.length) (sep : List UInt8) : Lib.join (ls.take 1) sep = ls[0] := by
  match ls, h with
  | x :: r, _ => simp [Lib.join_one]
theorem jn_snoc {ls : List (List UInt8)} {j : Nat} (h : j < ls.length) (h0 : 0 < j) (sep : List UInt8) : Lib.join (ls.take (j + 1)) sep = Lib.join (ls.take j) sep ++ sep ++ ls[j] := by
  match ls, h with
  | x :: r, h =>
    obtain ⟨i, rfl⟩ : ∃ i, j = i + 1 := ⟨j - 1, by omega⟩
    have hi : i < r.length := by simpa using h
    rw [List.take_succ_cons, List.take_succ_cons, Lib.join_cons, Lib.join_cons, Lib.joinTail_take_succ sep r i r[i] (List.getElem?_eq_getElem hi)]
    simp
def joinS (ls : List ByteArray) : List UInt8 := Lib.join (ls.map (·.data.toList)) [44, 32]
theorem joinS_first {ls : List ByteArray} (h : 0 < ls.length) : joinS (ls.take 1) = (ls[0]).data.toList := by
  unfold joinS
  rw [List.map_take, jn_first (by simpa using h)]
  simp
theorem joinS_snoc {ls : List ByteArray} {j : Nat} (h : j < ls.length) (h0 : 0 < j) : joinS (ls.take (j + 1)) = joinS (ls.take j) ++ [44, 32] ++ (ls[j]).data.toList := by
  unfold joinS
  rw [List.map_take, jn_snoc (by simpa using h) h0, List.map_take]
  simp
theorem joinS_len : ∀ (ls : List ByteArray), (∀ s ∈ ls, s.size ≤ 1000) → (joinS ls).length ≤ 1002 * ls.length
  | ls, h => by
    unfold joinS
    cases ls with
    | nil => simp [Lib.join_nil]
    | cons x r =>
      rw [List.map_cons, Lib.join_length]
      have := lens_le 1000 ((x :: r).map (·.data.toList)) (by
        intro y hy
        rw [List.mem_map] at hy
        obtain ⟨z, hz, rfl⟩ := hy
        have h1 := h z hz
        have h2 : z.data.toList.length = z.size := by simp
        omega)
      rw [List.map_cons] at this
      simp only [List.length_cons, List.length_nil, List.length_map] at this ⊢
      omega
set_option maxRecDepth 100000 in
set_option maxHeartbeats 2000000 in
theorem rjoin_any (a : Option Addr) (c : Nat) (ls : List ByteArray) (w : World) (hs : StrSl w a ls) (hl : ls.length ≤ 1000) (hsz : ∀ s ∈ ls, s.size ≤ 1000) :
    Calls Tryz.prog 62 #[.slice a ls.length c] w fun e w' => e = .returned (.string ⟨(40 :: joinS ls ++ [41]).toArray⟩) ∧ w = w' := by
  have HS := Lib.hid hs
  have HSZ := Lib.hid hsz
  clear hs hsz
  go_enter Tryz.func62, Tryz.ntmps62
  go_wp2_with fail
  go_loop [3, 4] (fun t i => ∃ (j : Nat) (st : ByteArray), j ≤ ls.length ∧ i = .int .i64 j ∧ t = .string st ∧ st.data.toList = 40 :: joinS (ls.take j)) (fun _ i => ls.length - (intOf i).toNat)
  case atStart => exact ⟨0, _, Nat.zero_le _, rfl, rfl, rfl⟩
  case round =>
    obtain ⟨j, st, hj, rfl, rfl, hst⟩ := hrel
    have hsts : st.size ≤ 1100000 := by
      have h1 := joinS_len (ls.take j) (fun s hs => HSZ.out s (List.mem_of_mem_take hs))
      have h2 : (ls.take j).length ≤ 1000 := by simp; omega
      have h3 := congrArg List.length hst
      have h4 : st.data.toList.length = st.size := by simp
      rw [h4, List.length_cons] at h3
      omega
    have HST := Lib.hid hst
    clear hst
    rcases Nat.lt_or_ge j ls.length with hlt | hge
    · obtain ⟨g, off, rfl, hcell⟩ := HS.out.at hlt
      have hxs := HSZ.out ls[j] (List.getElem_mem _)
      obtain ⟨x, hx⟩ : ∃ x, x = ls[j] := ⟨_, rfl⟩
      rw [← hx] at hcell hxs
      have hlt' : (j : Int) < (ls.length : Int) := by omega
      rcases Nat.eq_zero_or_pos j with h0 | h0
      · have hf := joinS_first (ls := ls) (by omega)
        have HX := Lib.hid hx
        have HF := Lib.hid hf
        clear hx hf
        subst h0
        rw [Nat.add_zero] at hcell
        go_wp2_with fail
        go_round
        case rel =>
          refine ⟨1, _, hlt, rfl, rfl, ?_⟩
          rw [HF.out, ← HX.out]
          simp [HST.out, joinS, Lib.join_nil]
        case measure => simp [intOf]; omega
      · have hf := joinS_snoc (ls := ls) hlt h0
        have HX := Lib.hid hx
        have HF := Lib.hid hf
        have h0i : (0 : Int) < (j : Int) := by omega
        clear hx hf
        go_wp2_with fail
        go_round
        case rel =>
          refine ⟨j + 1, _, hlt, by simp, rfl, ?_⟩
          rw [HF.out, ← HX.out]
          simp [HST.out]
        case measure => simp [intOf]; omega
    · have hje : j = ls.length := by omega
      subst hje
      go_wp2_with fail
      go_ret
      refine ⟨?_, rfl⟩
      have e1 : st ++ ⟨#[41]⟩ = ⟨(40 :: joinS ls ++ [41]).toArray⟩ := by
        apply ByteArray.ext
        apply Array.ext'
        have := HST.out
        rw [List.take_length] at this
        simp [this]
      exact congrArg (fun t => Ending.returned (.string t)) e1

theorem pieces_join : ∀ (ls : List (List UInt8)), ls ≠ [] → (∀ x ∈ ls, (44 : UInt8) ∉ x) → piecesL (Lib.join ls [44, 32]) = ls
  | [], h, _ => absurd rfl h
  | [x], _, h => by
    rw [Lib.join_one]
    refine piecesL_miss (Lib.index_none fun j hj => ?_)
    rw [Bool.eq_false_iff]
    intro ho
    exact h x (by simp) (List.mem_of_getElem? (occ_at ho).1)
  | x :: y :: r, _, h => by
    have hj : Lib.join (x :: y :: r) [44, 32] = x ++ 44 :: 32 :: Lib.join (y :: r) [44, 32] := by
      rw [Lib.join_cons, Lib.join_cons]
      simp [Lib.joinTail]
    rw [hj, piecesL_hit (index_cut (h x (by simp)))]
    congr 1
    · simp
    · rw [show (x ++ 44 :: 32 :: Lib.join (y :: r) [44, 32]).drop (x.length + 2) = Lib.join (y :: r) [44, 32] by simp [List.drop_append]]
      exact pieces_join (y :: r) (by simp) (fun z hz => h z (by simp [hz]))
theorem isTy_nil : isTy [] = false := by rfl
theorem bodyOf_join (l : List UInt8) : bodyOf (40 :: l ++ [41]) = some l := by
  unfold bodyOf
  have h1 : Lib.hasPrefix ((40 : UInt8) :: l ++ [41]) [40] = true := by simp [Lib.hasPrefix, List.isPrefixOf]
  have h2 : Lib.hasSuffix ((40 : UInt8) :: l ++ [41]).tail [41] = true := by
    rw [List.cons_append, List.tail_cons, suffix_iff (by simp)]
    simp
  rw [h1, h2]
  simp
theorem goodTy {s : ByteArray} : badTy s = false ↔ isTy s.data.toList = true := by rw [badTy_isTy]; simp
theorem isTy_len {l : List UInt8} (h : isTy l = true) : l.length ≤ 60 := by
  unfold isTy at h
  obtain ⟨q, hq⟩ := Option.isSome_iff_exists.1 h
  exact readOf_len hq
theorem joinS_ne {ls : List ByteArray} (h : ls ≠ []) (hg : ls.any badTy = false) : joinS ls ≠ [] := by
  match ls, h with
  | x :: r, _ =>
    intro he
    unfold joinS at he
    rw [List.map_cons, Lib.join_cons, List.append_eq_nil_iff] at he
    rw [List.any_eq_false] at hg
    have := goodTy.1 (by simpa using hg x (by simp))
    rw [he.1, isTy_nil] at this
    cases this
theorem joinS_pieces {ls : List ByteArray} (h : ls ≠ []) (hg : ls.any badTy = false) : piecesL (joinS ls) = ls.map (·.data.toList) := by
  refine pieces_join _ (by simpa using h) ?_
  intro x hx
  rw [List.mem_map] at hx
  obtain ⟨s, hs, rfl⟩ := hx
  rw [List.any_eq_false] at hg
  exact isTy_no44 (goodTy.1 (by simpa using hg s hs))
end Go.Proofs.YtmepjbjmjbpchaaGreatDoor
end
section
/- The strings of values: two right attributes of one name and kind with the same string are the same (plain law). -/
namespace Go.Proofs.YtmepjbjmjbpchaaGreatDoor
open Go Go.RowKit
set_option linter.unusedVariables false
set_option linter.unusedSimpArgs false

theorem dec_digit (u : Nat) : ∀ c ∈ Lib.decDigits u, 48 ≤ c.toNat ∧ c.toNat ≤ 57 := by
  induction u using Nat.strongRecOn with
  | ind u ih =>
    unfold Lib.decDigits
    split
    · intro c hc
      rw [List.mem_singleton.1 hc, UInt8.toNat_ofNat']
      omega
    · intro c hc
      rcases List.mem_append.1 hc with hc | hc
      · exact ih (u / 10) (by omega) c hc
      · rw [List.mem_singleton.1 hc, UInt8.toNat_ofNat']
        omega
/-- The number of a list of digits. -/
def numOfL (a : Nat) : List UInt8 → Nat
  | [] => a
  | c :: r => numOfL (10 * a + (c.toNat - 48)) r
theorem numOfL_append (l m : List UInt8) : ∀ a, numOfL a (l ++ m) = numOfL (numOfL a l) m := by
  induction l with
  | nil => intro a; rfl
  | cons c r ih => intro a; exact ih _
theorem dig_toNat {d : Nat} (h : d < 10) : (UInt8.ofNat (48 + d)).toNat - 48 = d := by
  rw [UInt8.toNat_ofNat', Nat.mod_eq_of_lt (by omega)]; omega
theorem numOfL_dec (u : Nat) : numOfL 0 (Lib.decDigits u) = u := by
  induction u using Nat.strongRecOn with
  | ind u ih =>
    rw [Lib.decDigits]
    split
    · show 10 * 0 + ((UInt8.ofNat (48 + u)).toNat - 48) = u
      rw [dig_toNat (by assumption)]; omega
    · rw [numOfL_append, ih (u / 10) (by omega)]
      show 10 * (u / 10) + ((UInt8.ofNat (48 + u % 10)).toNat - 48) = u
      rw [dig_toNat (by omega)]; omega
theorem dec_inj {u v : Nat} (h : Lib.decDigits u = Lib.decDigits v) : u = v := by rw [← numOfL_dec u, h, numOfL_dec]
theorem itoa_inj {m n : Int} (h : Lib.itoa m = Lib.itoa n) : m = n := by
  unfold Lib.itoa at h
  have hd : ∀ (u : Nat) (l : List UInt8), Lib.decDigits u ≠ 45 :: l := by
    intro u l e
    have := dec_digit u 45 (by rw [e]; exact List.mem_cons_self ..)
    simp at this
  split at h <;> split at h
  · have := dec_inj (List.cons.inj h).2
    omega
  · exact absurd h.symm (hd _ _)
  · exact absurd h (hd _ _)
  · have := dec_inj h
    omega
theorem itoa_no44 (n : Int) : (44 : UInt8) ∉ Lib.itoa n := by
  have hd : ∀ u : Nat, (44 : UInt8) ∉ Lib.decDigits u := fun u h => by have := dec_digit u 44 h; simp at this
  unfold Lib.itoa
  split
  · intro h
    rcases List.mem_cons.1 h with h | h
    · cases h
    · exact hd _ h
  · exact hd _
theorem itoa_ne (n : Int) : Lib.itoa n ≠ [] := by
  unfold Lib.itoa
  split
  · simp
  · unfold Lib.decDigits; split <;> simp
/-- The number of a hexadecimal digit. -/
def nibB (c : UInt8) : Nat := if 48 ≤ c.toNat ∧ c.toNat ≤ 57 then c.toNat - 48 else c.toNat - 87
/-- The first byte that is written, and the rest. -/
def unesc1 : List UInt8 → Option (UInt8 × List UInt8)
  | [] => none
  | c :: r => if c = 92 then (match r with | [] => none | e :: r => if e = 34 ∨ e = 92 then some (e, r) else if e = 110 then some (10, r) else match r with | a :: b :: r => some (UInt8.ofNat (16 * nibB a + nibB b), r) | _ => none) else some (c, r)
theorem nib_all : ∀ n < 256, UInt8.ofNat (16 * nibB (hexOf ((UInt8.ofNat n).toNat / 16)) + nibB (hexOf ((UInt8.ofNat n).toNat % 16))) = UInt8.ofNat n := by decide +kernel
theorem unesc1_esc (c : UInt8) (r : List UInt8) : unesc1 (escOf c ++ r) = some (c, r) := by
  have hn := nib_all c.toNat c.toNat_lt
  simp only [UInt8.ofNat_toNat] at hn
  unfold escOf
  by_cases h1 : c = 34
  · subst h1; rfl
  · rw [if_neg h1]
    by_cases h2 : c = 92
    · subst h2; rfl
    · rw [if_neg h2]
      by_cases h3 : c = 10
      · subst h3; rfl
      · rw [if_neg h3]
        split
        · simp only [List.cons_append, List.nil_append, unesc1, if_true]
          rw [if_neg (by decide), if_neg (by decide), hn]
        · simp [unesc1, h2]
theorem escL_inj : ∀ {l m : List UInt8}, escL l = escL m → l = m
  | [], [], _ => rfl
  | [], d :: m, h => by
    have := congrArg unesc1 h
    rw [show escL (d :: m) = escOf d ++ escL m from rfl, unesc1_esc] at this
    cases this
  | c :: l, [], h => by
    have := congrArg unesc1 h
    rw [show escL (c :: l) = escOf c ++ escL l from rfl, unesc1_esc] at this
    cases this
  | c :: l, d :: m, h => by
    have := congrArg unesc1 h
    rw [show escL (c :: l) = escOf c ++ escL l from rfl, unesc1_esc, show escL (d :: m) = escOf d ++ escL m from rfl, unesc1_esc] at this
    simp only [Option.some.injEq, Prod.mk.injEq] at this
    rw [this.1, escL_inj this.2]
theorem quoteL_inj {l m : List UInt8} (h : quoteL l = quoteL m) : l = m := by
  unfold quoteL at h
  exact escL_inj (List.append_cancel_right (List.cons.inj h).2)
theorem join_inj {l m : List (List UInt8)} (hl : ∀ x ∈ l, (44 : UInt8) ∉ x ∧ x ≠ []) (hm : ∀ x ∈ m, (44 : UInt8) ∉ x ∧ x ≠ []) (h : Lib.join l [44, 32] = Lib.join m [44, 32]) : l = m := by
  have key : ∀ {k : List (List UInt8)}, (∀ x ∈ k, (44 : UInt8) ∉ x ∧ x ≠ []) → Lib.join k [44, 32] = [] → k = [] := by
    intro k hk h
    match k, hk, h with
    | [], _, _ => rfl
    | [x], hk, h => exact absurd (by simpa [Lib.join] using h) (hk x (by simp)).2
    | x :: y :: k, hk, h => simp [Lib.join] at h
  by_cases h1 : l = []
  · subst h1
    exact (key hm h.symm).symm
  · by_cases h2 : m = []
    · subst h2
      exact key hl h
    · rw [← pieces_join l h1 fun x hx => (hl x hx).1, h, pieces_join m h2 fun x hx => (hm x hx).1]
theorem ints_inj {l m : List Int} (h : Lib.join ((l.map itoaB).map (·.data.toList)) [44, 32] = Lib.join ((m.map itoaB).map (·.data.toList)) [44, 32]) : l = m := by
  have e : ∀ k : List Int, (k.map itoaB).map (·.data.toList) = k.map Lib.itoa := fun k => by simp [itoaB, Function.comp_def]
  rw [e, e] at h
  have hk : ∀ k : List Int, ∀ x ∈ k.map Lib.itoa, (44 : UInt8) ∉ x ∧ x ≠ [] := by
    intro k x hx
    obtain ⟨n, _, rfl⟩ := List.mem_map.1 hx
    exact ⟨itoa_no44 n, itoa_ne n⟩
  have := join_inj (hk l) (hk m) h
  exact (List.map_inj_right (fun a b h => itoa_inj h)).1 this
theorem bytes_inj {s t : ByteArray} (h : s.data.toList = t.data.toList) : s = t := ByteArray.ext (Array.toList_inj.1 h)
theorem texts_inj {l m : List ByteArray} (hl : l.all isTyB = true) (hm : m.all isTyB = true) (h : Lib.join (l.map (·.data.toList)) [44, 32] = Lib.join (m.map (·.data.toList)) [44, 32]) : l = m := by
  have hk : ∀ k : List ByteArray, k.all isTyB = true → ∀ x ∈ k.map (·.data.toList), (44 : UInt8) ∉ x ∧ x ≠ [] := by
    intro k hk x hx
    obtain ⟨s, hs, rfl⟩ := List.mem_map.1 hx
    have h1 : isTy s.data.toList = true := List.all_eq_true.1 hk s hs
    refine ⟨isTy_no44 h1, fun e => ?_⟩
    rw [e, isTy_nil] at h1
    cases h1
  have := join_inj (hk l hl) (hk m hm) h
  exact (List.map_inj_right (fun a b h => bytes_inj h)).1 this
theorem joinOf_right {l : List ByteArray} (h : l.all isTyB = true) (hl : l.length ≤ 100) : joinOf l = (40 :: Lib.join (l.map (·.data.toList)) [44, 32] ++ [41], 0) := by
  unfold joinOf
  have h1 : l.any badTy = false := by
    rw [List.any_eq_false]
    intro s hs
    have := List.all_eq_true.1 h s hs
    rw [badTy_isTy]
    have h2 : isTy s.data.toList = true := this
    simp [h2]
  rw [h1]
  simp
  omega
/-- What is right of an attribute's data. -/
def rightD (d : Dat) : Bool := rightA ⟨d.name, d.kind, d.num, d.text, none, d.ints, 0, none, d.texts, 0⟩
theorem rightA_D (a : Atr) : rightA a = rightD a.dat := rfl
theorem valD_inj {d e : Dat} (hd : rightD d = true) (he : rightD e = true) (hn : d.name = e.name) (hk : d.kind = e.kind) (hv : valD d = valD e) : d = e := by
  obtain ⟨dn, dk, dm, dt, di, ds⟩ := d
  obtain ⟨en, ek, em, et, ei, es⟩ := e
  dsimp only at hn hk
  subst hn hk
  simp only [rightD, rightA, Bool.and_eq_true, decide_eq_true_eq] at hd he
  obtain ⟨⟨⟨hkr, -⟩, hd1⟩, hd2⟩ := hd
  obtain ⟨⟨-, he1⟩, he2⟩ := he
  have hem : ∀ {x y : ByteArray}, x.toList.isEmpty = true → y.toList.isEmpty = true → x = y := by
    intro x y hx hy
    rw [List.isEmpty_iff] at hx hy
    exact toList_inj.1 (hx.trans hy.symm)
  have hln : ∀ {α : Type} {x y : List α}, ((x.length : Int) == 0) = true → ((y.length : Int) == 0) = true → x = y := by
    intro α x y hx hy
    simp at hx hy
    rw [hx, hy]
  have hln2 : ∀ {α : Type} {x y : List α}, (x.length == 0) = true → (y.length == 0) = true → x = y := by
    intro α x y hx hy
    simp at hx hy
    rw [hx, hy]
  have h6 : dk = 0 ∨ dk = 1 ∨ dk = 2 ∨ dk = 3 ∨ dk = 4 ∨ dk = 5 := by omega
  rcases h6 with rfl | rfl | rfl | rfl | rfl | rfl
  all_goals simp only [ownB, aloneB, noTextB, noNumB, noneOfB, noListsB, valD, Bool.and_eq_true, beq_iff_eq, decide_eq_true_eq, if_true, true_or, or_true, reduceIte, Int.reduceEq, false_or, or_false, or_self] at hd1 hd2 he1 he2 hv
  · obtain ⟨a1, a2, a3⟩ := hd2
    obtain ⟨b1, b2, b3⟩ := he2
    obtain rfl := itoa_inj hv
    obtain rfl := hem a1 b1
    obtain rfl : di = ei := hln (by simpa using a2) (by simpa using b2)
    obtain rfl : ds = es := hln (by simpa using a3) (by simpa using b3)
    rfl
  · obtain ⟨a1, a2, a3⟩ := hd2
    obtain ⟨b1, b2, b3⟩ := he2
    obtain rfl : dt = et := bytes_inj (quoteL_inj hv)
    subst a1 b1
    obtain rfl : di = ei := hln (by simpa using a2) (by simpa using b2)
    obtain rfl : ds = es := hln (by simpa using a3) (by simpa using b3)
    rfl
  · obtain ⟨a1, a2, a3⟩ := hd2
    obtain ⟨b1, b2, b3⟩ := he2
    obtain rfl : dt = et := bytes_inj (List.cons.inj hv).2
    subst a1 b1
    obtain rfl : di = ei := hln (by simpa using a2) (by simpa using b2)
    obtain rfl : ds = es := hln (by simpa using a3) (by simpa using b3)
    rfl
  · obtain ⟨a1, a2, a3⟩ := hd2
    obtain ⟨b1, b2, b3⟩ := he2
    obtain rfl : dt = et := bytes_inj hv
    subst a1 b1
    obtain rfl : di = ei := hln (by simpa using a2) (by simpa using b2)
    obtain rfl : ds = es := hln (by simpa using a3) (by simpa using b3)
    rfl
  · obtain ⟨a1, a2⟩ := hd2
    obtain ⟨b1, b2⟩ := he2
    obtain rfl := hem a2 b2
    subst a1 b1
    obtain rfl : di = ei := ints_inj (List.append_cancel_right (List.cons.inj hv).2)
    obtain rfl : ds = es := hln2 (by simpa using hd1.2) (by simpa using he1.2)
    rfl
  · obtain ⟨a1, a2⟩ := hd2
    obtain ⟨b1, b2⟩ := he2
    obtain rfl := hem a2 b2
    subst a1 b1
    obtain ⟨⟨c1, c2⟩, c3⟩ := hd1
    obtain ⟨⟨f1, f2⟩, f3⟩ := he1
    rw [joinOf_right c2 c1, joinOf_right f2 f1] at hv
    obtain rfl : ds = es := texts_inj c2 f2 (by simpa using hv)
    obtain rfl : di = ei := hln2 (by simpa using c3) (by simpa using f3)
    rfl
end Go.Proofs.YtmepjbjmjbpchaaGreatDoor
end
