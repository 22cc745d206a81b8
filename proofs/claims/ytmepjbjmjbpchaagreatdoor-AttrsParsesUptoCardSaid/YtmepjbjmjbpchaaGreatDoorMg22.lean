/- Texts of this claim, laid together: Ay1, AwA, AwB. -/
import Derived.Lib.AtoiErrMem
import Derived.Deep.RegionHeld3
import Derived.Deep.Cut
import Derived.Test.YtmepjbjmjbpchaaGreatDoorMg13
import Derived.Test.YtmepjbjmjbpchaaGreatDoorMg18
import Derived.Test.YtmepjbjmjbpchaaGreatDoorMg19
import Derived.Test.YtmepjbjmjbpchaaGreatDoorMg21
section
/- attrs.Cmp, attrs.Equal. -/
namespace Go.Proofs.YtmepjbjmjbpchaaGreatDoor
open Go Go.RowKit
set_option linter.unusedVariables false
set_option linter.unusedSimpArgs false
attribute [local go_sem] Oper.semAt_some

def valB (a : Atr) : ByteArray := ⟨(valD a.dat).toArray⟩
/-- The order of attributes. -/
def cmpA (a b : Atr) : Int := orI (nmCmp a.name b.name) (kCmp a.kind b.kind) (nmCmp (valB a) (valB b))
def CmpPost (a b : Atr) (w : World) (e : Ending) (w' : World) : Prop :=
  e = .returned (.tuple #[.int .i64 (if rightA a && rightA b then cmpA a b else 0), .int .i64 (if rightA a && rightA b then 0 else 20)]) ∧ Below w.heap.size w w'
set_option maxRecDepth 100000 in
set_option maxHeartbeats 8000000 in
theorem cmpA_any (x y : Atr) (w : World) (ha : x.Lies w) (hb : y.Lies w) (fa : x.Fits) (fb : y.Fits) (hp : Pow w) :
    Calls Tryz.prog 28 #[x.val, y.val] w (CmpPost x y w) := by
  have HA := Lib.hid (fun (W : World) (h : Below w.heap.size w W) => ha.below h)
  have HB := Lib.hid (fun (W : World) (h : Below w.heap.size w W) => hb.below h)
  have HP := Lib.hid hp
  have FA := Lib.hid fa
  have FB := Lib.hid fb
  unfold CmpPost
  obtain ⟨ra, hra⟩ : ∃ ra, ra = rightA x := ⟨_, rfl⟩
  obtain ⟨rb, hrb⟩ : ∃ rb, rb = rightA y := ⟨_, rfl⟩
  rw [← hra, ← hrb]
  have RA := Lib.hid hra
  have RB := Lib.hid hrb
  clear ha hb hp fa fb hra hrb
  cases ra with
  | false =>
    go_enter Tryz.func28, Tryz.ntmps28
    go_wp2_with (go_at_call 44; refine (isRight_any x _ (HA.out _ ?_) FA.out).mono ?_; (focus ((repeat (first | (with_reducible refine below_set ?_ (by first | exact Nat.le_refl _ | omega) _ _) | with_reducible exact Below.refl _ _ | with_reducible refine belowA ?_ _ | with_reducible refine belowD ?_ | with_reducible refine belowN ?_ _)); done)); rintro e w1 ⟨rfl, hb1⟩; rw [← RA.out])
    go_ret2
    exact ⟨rfl, by (repeat (first | (with_reducible refine below_set ?_ (by first | exact Nat.le_refl _ | omega) _ _) | with_reducible exact Below.refl _ _ | with_reducible refine belowA ?_ _ | with_reducible refine below_own' ?_ hb1 | with_reducible refine belowD ?_ | with_reducible refine belowN ?_ _))⟩
  | true =>
    cases rb with
    | false =>
      go_enter Tryz.func28, Tryz.ntmps28
      go_wp2_with (first
        | (have tok := tok1; clear tok tok1; go_at_call 44; refine (isRight_any y _ (HB.out _ ?_) FB.out).mono ?_; (focus ((repeat (first | (with_reducible refine below_set ?_ (by first | exact Nat.le_refl _ | omega) _ _) | with_reducible exact Below.refl _ _ | with_reducible refine belowA ?_ _ | with_reducible refine below_own' ?_ hb1 | with_reducible refine belowD ?_ | with_reducible refine belowN ?_ _)); done)); rintro e w2 ⟨rfl, hb2⟩; rw [← RB.out])
        | (go_at_call 44; refine (isRight_any x _ (HA.out _ ?_) FA.out).mono ?_; (focus ((repeat (first | (with_reducible refine below_set ?_ (by first | exact Nat.le_refl _ | omega) _ _) | with_reducible exact Below.refl _ _ | with_reducible refine belowA ?_ _ | with_reducible refine belowD ?_ | with_reducible refine belowN ?_ _)); done)); rintro e w1 ⟨rfl, hb1⟩; rw [← RA.out]; have tok1 : True := trivial; have c1 := rdCell hb1 (w.heap.size + 1) (by first | (simp; done) | (simp; omega))))
      go_ret2
      exact ⟨rfl, by (repeat (first | (with_reducible refine below_set ?_ (by first | exact Nat.le_refl _ | omega) _ _) | with_reducible exact Below.refl _ _ | with_reducible refine belowA ?_ _ | with_reducible refine below_own' ?_ hb2 | with_reducible refine below_own' ?_ hb1 | with_reducible refine belowD ?_ | with_reducible refine belowN ?_ _))⟩
    | true =>
      obtain ⟨vs, hvs⟩ : ∃ vs, vs = valB x := ⟨_, rfl⟩
      obtain ⟨vt, hvt⟩ : ∃ vt, vt = valB y := ⟨_, rfl⟩
      have VS := Lib.hid hvs
      have VT := Lib.hid hvt
      have hcm : Hid (cmpA x y = orI (nmCmp x.name y.name) (kCmp x.kind y.kind) (nmCmp vs vt)) := Lib.hid (by rw [cmpA, hvs, hvt])
      clear hvs hvt
      refine (callsIn_wide (n := 6)).1 ?_
      refine callsIn_of_wp Tryz.func28 rfl trivial ?_ rfl
      simp only [Tryz.ntmps28, List.size_toArray, List.length_cons, List.length_nil, Nat.reduceAdd, Nat.reduceSub, Array.replicate_succ, Array.replicate_zero, List.push_toArray, List.append_toArray, List.nil_append, List.cons_append]
      gi_wp2_with (first
        | (have tok := tok1; clear tok tok1; refine ⟨trivial, ?_⟩; gi_at_call 44; refine (callsIn_wide.2 (isRight_any y _ (HB.out _ ?_) FB.out)).mono ?_; (focus ((repeat (first | (with_reducible refine below_set ?_ (by first | exact Nat.le_refl _ | omega) _ _) | with_reducible exact Below.refl _ _ | with_reducible refine belowA ?_ _ | with_reducible refine below_own' ?_ hb1 | with_reducible refine belowD ?_ | with_reducible refine belowN ?_ _)); done)); rintro e w2 ⟨rfl, hb2⟩; rw [← RB.out])
        | (refine ⟨trivial, ?_⟩; gi_at_call 44; refine (callsIn_wide.2 (isRight_any x _ (HA.out _ ?_) FA.out)).mono ?_; (focus ((repeat (first | (with_reducible refine below_set ?_ (by first | exact Nat.le_refl _ | omega) _ _) | with_reducible exact Below.refl _ _ | with_reducible refine belowA ?_ _ | with_reducible refine belowD ?_ | with_reducible refine belowN ?_ _)); done)); rintro e w1 ⟨rfl, hb1⟩; rw [← RA.out]; have tok1 : True := trivial; have c1 := rdCell hb1 (w.heap.size + 1) (by first | (simp; done) | (simp; omega))))
      have HZZ : Hid (Below w.heap.size w w2) := Lib.hid (by (repeat (first | (with_reducible refine below_set ?_ (by first | exact Nat.le_refl _ | omega) _ _) | with_reducible exact Below.refl _ _ | with_reducible refine belowA ?_ _ | with_reducible refine below_own' ?_ hb2 | with_reducible refine below_own' ?_ hb1 | with_reducible refine belowD ?_ | with_reducible refine belowN ?_ _)))
      have hs1 : w.heap.size + 1 < w1.heap.size := (by have := Below.size hb1; simp at this; omega)
      have hs2 : w.heap.size + 1 < w2.heap.size := by have := hb2.size; omega
      have hsa : w.heap.size < w2.heap.size := by omega
      have kk : w2.cell? ⟨w.heap.size, 0, none⟩ = some (.string x.name) ∧ w2.cell? ⟨w.heap.size, 0 + 1, none⟩ = some (.int .i64 x.kind) ∧ w2.cell? ⟨w.heap.size, 0 + 2, none⟩ = some (.int .i64 x.num) ∧ w2.cell? ⟨w.heap.size, 0 + 3, none⟩ = some (.string x.text) ∧ w2.cell? ⟨w.heap.size, 0 + 4, none⟩ = some (.slice x.ia x.ints.length x.ic) ∧ w2.cell? ⟨w.heap.size, 0 + 5, none⟩ = some (.slice x.ta x.texts.length x.tc) := by
        refine ⟨?_, ?_, ?_, ?_, ?_, ?_⟩ <;> (rw [rdCell hb2 w.heap.size (by omega), rdCell hb1 w.heap.size (by simp; omega)]; simp [go_sem])
      have qq : w2.cell? ⟨w.heap.size + 1, 0, none⟩ = some (.string y.name) ∧ w2.cell? ⟨w.heap.size + 1, 0 + 1, none⟩ = some (.int .i64 y.kind) ∧ w2.cell? ⟨w.heap.size + 1, 0 + 2, none⟩ = some (.int .i64 y.num) ∧ w2.cell? ⟨w.heap.size + 1, 0 + 3, none⟩ = some (.string y.text) ∧ w2.cell? ⟨w.heap.size + 1, 0 + 4, none⟩ = some (.slice y.ia y.ints.length y.ic) ∧ w2.cell? ⟨w.heap.size + 1, 0 + 5, none⟩ = some (.slice y.ta y.texts.length y.tc) := by
        refine ⟨?_, ?_, ?_, ?_, ?_, ?_⟩ <;> (rw [rdCell hb2 (w.heap.size + 1) (by omega), rdCell hb1 (w.heap.size + 1) (by simp)]; simp [go_sem])
      obtain ⟨k0, k1, k2, k3, k4, k5⟩ := kk
      obtain ⟨q0, q1, q2, q3, q4, q5⟩ := qq
      clear hb1 hb2
      generalize hops : (#[_, _, _, _, _, _, _, _, _, _, _, _, _, _, _, _, _, _, _] : Array Oper) = ops
      refine wpIn_region_inv_tail 15 (fun i => match i with | 0 => .pointer (some ⟨w.heap.size, 0, none⟩) | 1 => .string x.name | 2 => .pointer (some ⟨w.heap.size + 1, 0, none⟩) | 3 => .string y.name | 4 => .int .i64 (nmCmp x.name y.name) | 5 => .pointer (some ⟨w.heap.size, 1, none⟩) | 6 => .int .i64 x.kind | 7 => .pointer (some ⟨w.heap.size + 1, 1, none⟩) | 8 => .int .i64 y.kind | 9 => .int .i64 (kCmp x.kind y.kind) | 10 => x.val | 11 => .string vs | 12 => y.val | 13 => .string vt | 14 => .int .i64 (nmCmp vs vt) | _ => undef)
        (fun lst Wy => Below w2.heap.size w2 Wy) (by kernel_rfl) (by rw [← hops]; kernel_rfl) (by rw [← hops]; kernel_rfl) (by rw [← hops]; kernel_rfl) (by rw [← hops]; decide) (by rw [← hops]; kernel_rfl) ((Below.refl _ _).drew) ?step ?tail
      case step =>
        intro i o listed a Wy ho hs hu hall ha hi hy hlt
        have old2 : a.eval (.tmp 2) = .pointer (some ⟨w.heap.size, 0, none⟩) := by rw [ha.eval_old (noDst_spec (by rw [← hops]; kernel_rfl))]; rfl
        have old3 : a.eval (.tmp 3) = .pointer (some ⟨w.heap.size + 1, 0, none⟩) := by rw [ha.eval_old (noDst_spec (by rw [← hops]; kernel_rfl))]; rfl
        have hcase : i = 0 ∨ i = 1 ∨ i = 2 ∨ i = 3 ∨ i = 4 ∨ i = 5 ∨ i = 6 ∨ i = 7 ∨ i = 8 ∨ i = 9 ∨ i = 10 ∨ i = 11 ∨ i = 12 ∨ i = 13 ∨ i = 14 := by omega
        rcases hcase with rfl | rfl | rfl | rfl | rfl | rfl | rfl | rfl | rfl | rfl | rfl | rfl | rfl | rfl | rfl
        all_goals (have ho' := ho; rw [← hops] at ho'; simp only [List.getElem?_toArray, List.getElem?_cons_zero, List.getElem?_cons_succ, Option.some.injEq] at ho'; subst ho')
        · refine step_none rfl ?_
          refine opIn_value wideAt_plain (fun c h => by cases h) (v := .pointer (some ⟨w.heap.size, 0, none⟩)) (W' := Wy) ?_ ⟨rfl, hi⟩
          simp only [execOp, old2]
          simp [go_sem]
        · refine step_none rfl ?_
          have h14 : a.eval (.tmp 14) = .pointer (some ⟨w.heap.size, 0, none⟩) := ha.eval_got (j := 0) (by rw [← hops]; rfl) rfl (hall ⟨0, .data⟩ (by simp) rfl)
          refine opIn_value wideAt_plain (fun c h => by cases h) (v := .string x.name) (W' := Wy) ?_ ⟨rfl, hi⟩
          simp only [execOp, h14]
          simp [go_sem, rdCell hi w.heap.size hsa, k0, k1, k2, k3, k4, k5]
        · refine step_none rfl ?_
          refine opIn_value wideAt_plain (fun c h => by cases h) (v := .pointer (some ⟨w.heap.size + 1, 0, none⟩)) (W' := Wy) ?_ ⟨rfl, hi⟩
          simp only [execOp, old3]
          simp [go_sem]
        · refine step_none rfl ?_
          have h16 : a.eval (.tmp 16) = .pointer (some ⟨w.heap.size + 1, 0, none⟩) := ha.eval_got (j := 2) (by rw [← hops]; rfl) rfl (hall ⟨2, .data⟩ (by simp) rfl)
          refine opIn_value wideAt_plain (fun c h => by cases h) (v := .string y.name) (W' := Wy) ?_ ⟨rfl, hi⟩
          simp only [execOp, h16]
          simp [go_sem, rdCell hi (w.heap.size + 1) hs2, q0, q1, q2, q3, q4, q5]
        · refine step_none rfl ?_
          have h15 : a.eval (.tmp 15) = .string x.name := ha.eval_got (j := 1) (by rw [← hops]; rfl) rfl (hall ⟨1, .data⟩ (by simp) rfl)
          have h17 : a.eval (.tmp 17) = .string y.name := ha.eval_got (j := 3) (by rw [← hops]; rfl) rfl (hall ⟨3, .data⟩ (by simp) rfl)
          refine opIn_call wideAt_plain (fun c h => by cases h) (f := 56) (args := #[.string x.name, .string y.name]) (W' := Wy) ?_ (compare_any x.name y.name Wy) ?_
          · simp only [execOp, h15, h17]
            simp [go_sem]
            try (simpa [Act.eval] using (⟨h15, h17⟩ : _ ∧ _))
          · rintro e W1 ⟨rfl, rfl⟩
            exact ⟨_, rfl, rfl, hi⟩
        · refine step_none rfl ?_
          refine opIn_value wideAt_plain (fun c h => by cases h) (v := .pointer (some ⟨w.heap.size, 1, none⟩)) (W' := Wy) ?_ ⟨rfl, hi⟩
          simp only [execOp, old2]
          simp [go_sem]
        · refine step_none rfl ?_
          have h19 : a.eval (.tmp 19) = .pointer (some ⟨w.heap.size, 1, none⟩) := ha.eval_got (j := 5) (by rw [← hops]; rfl) rfl (hall ⟨5, .data⟩ (by simp) rfl)
          refine opIn_value wideAt_plain (fun c h => by cases h) (v := .int .i64 x.kind) (W' := Wy) ?_ ⟨rfl, hi⟩
          simp only [execOp, h19]
          simp [go_sem, rdCell hi w.heap.size hsa, k0, k1, k2, k3, k4, k5]
        · refine step_none rfl ?_
          refine opIn_value wideAt_plain (fun c h => by cases h) (v := .pointer (some ⟨w.heap.size + 1, 1, none⟩)) (W' := Wy) ?_ ⟨rfl, hi⟩
          simp only [execOp, old3]
          simp [go_sem]
        · refine step_none rfl ?_
          have h21 : a.eval (.tmp 21) = .pointer (some ⟨w.heap.size + 1, 1, none⟩) := ha.eval_got (j := 7) (by rw [← hops]; rfl) rfl (hall ⟨7, .data⟩ (by simp) rfl)
          refine opIn_value wideAt_plain (fun c h => by cases h) (v := .int .i64 y.kind) (W' := Wy) ?_ ⟨rfl, hi⟩
          simp only [execOp, h21]
          simp [go_sem, rdCell hi (w.heap.size + 1) hs2, q0, q1, q2, q3, q4, q5]
        · refine step_none rfl ?_
          have h20 : a.eval (.tmp 20) = .int .i64 x.kind := ha.eval_got (j := 6) (by rw [← hops]; rfl) rfl (hall ⟨6, .data⟩ (by simp) rfl)
          have h22 : a.eval (.tmp 22) = .int .i64 y.kind := ha.eval_got (j := 8) (by rw [← hops]; rfl) rfl (hall ⟨8, .data⟩ (by simp) rfl)
          refine opIn_call wideAt_plain (fun c h => by cases h) (f := 57) (args := #[.int .i64 x.kind, .int .i64 y.kind]) (W' := Wy) ?_ (compareK_any x.kind y.kind Wy) ?_
          · simp only [execOp, h20, h22]
            simp [go_sem]
            try (simpa [Act.eval] using (⟨h20, h22⟩ : _ ∧ _))
          · rintro e W1 ⟨rfl, rfl⟩
            exact ⟨_, rfl, rfl, hi⟩
        · refine step_none rfl ?_
          refine opIn_value wideAt_plain (fun c h => by cases h) (v := x.val) (W' := Wy) ?_ ⟨rfl, hi⟩
          simp only [execOp, old2]
          simp [go_sem, rdCell hi w.heap.size hsa, k0, k1, k2, k3, k4, k5]
        · refine step_none rfl ?_
          have h24 : a.eval (.tmp 24) = x.val := ha.eval_got (j := 10) (by rw [← hops]; rfl) rfl (hall ⟨10, .data⟩ (by simp) rfl)
          refine opIn_call wideAt_plain (fun c h => by cases h) (f := 45) (args := #[x.val]) (W' := Wy) ?_ (textA_any x Wy (HA.out Wy (below_own' HZZ.out hi)) FA.out RA.out.symm (pow_below HP.out (below_own' HZZ.out hi))) ?_
          · simp only [execOp, h24]
            simp [go_sem]
            try (simpa [Act.eval] using h24)
          · rintro e W1 ⟨rfl, hb⟩
            exact ⟨_, rfl, by rw [VS.out]; rfl, below_own' hi hb⟩
        · refine step_none rfl ?_
          refine opIn_value wideAt_plain (fun c h => by cases h) (v := y.val) (W' := Wy) ?_ ⟨rfl, hi⟩
          simp only [execOp, old3]
          simp [go_sem, rdCell hi (w.heap.size + 1) hs2, q0, q1, q2, q3, q4, q5]
        · refine step_none rfl ?_
          have h26 : a.eval (.tmp 26) = y.val := ha.eval_got (j := 12) (by rw [← hops]; rfl) rfl (hall ⟨12, .data⟩ (by simp) rfl)
          refine opIn_call wideAt_plain (fun c h => by cases h) (f := 45) (args := #[y.val]) (W' := Wy) ?_ (textA_any y Wy (HB.out Wy (below_own' HZZ.out hi)) FB.out RB.out.symm (pow_below HP.out (below_own' HZZ.out hi))) ?_
          · simp only [execOp, h26]
            simp [go_sem]
            try (simpa [Act.eval] using h26)
          · rintro e W1 ⟨rfl, hb⟩
            exact ⟨_, rfl, by rw [VT.out]; rfl, below_own' hi hb⟩
        · refine step_none rfl ?_
          have h25 : a.eval (.tmp 25) = .string vs := ha.eval_got (j := 11) (by rw [← hops]; rfl) rfl (hall ⟨11, .data⟩ (by simp) rfl)
          have h27 : a.eval (.tmp 27) = .string vt := ha.eval_got (j := 13) (by rw [← hops]; rfl) rfl (hall ⟨13, .data⟩ (by simp) rfl)
          refine opIn_call wideAt_plain (fun c h => by cases h) (f := 56) (args := #[.string vs, .string vt]) (W' := Wy) ?_ (compare_any vs vt Wy) ?_
          · simp only [execOp, h25, h27]
            simp [go_sem]
            try (simpa [Act.eval] using (⟨h25, h27⟩ : _ ∧ _))
          · rintro e W1 ⟨rfl, rfl⟩
            exact ⟨_, rfl, rfl, hi⟩
      case tail =>
        intro Wz hz
        subst hops
        simp only [frameOf, Act.put, Option.bind_some, List.getElem?_toArray, List.getElem?_cons_zero, List.getElem?_cons_succ, List.setIfInBounds_toArray, List.set_cons_zero, List.set_cons_succ, List.drop_succ_cons, List.drop_zero]
        have HZ := Lib.hid hz
        clear hz
        gi_wp2_with (refine ⟨trivial, ?_⟩; gi_at_call 55; refine (callsIn_wide.2 (or_any Wz.heap.size (nmCmp x.name y.name) (kCmp x.kind y.kind) (nmCmp vs vt) _ (by simp [go_sem]) (by simp [go_sem]) (by simp [go_sem]))).mono ?_; rintro e w3 ⟨rfl, rfl⟩)
        go_ret2
        exact ⟨by rw [hcm.out]; rfl, belowA (below_own' HZZ.out HZ.out) _⟩
end Go.Proofs.YtmepjbjmjbpchaaGreatDoor
end
section
/- What the constants of `awake` are. -/
namespace Go.Proofs.YtmepjbjmjbpchaaGreatDoor
open Go Go.RowKit Go.Sort
set_option linter.unusedVariables false
set_option linter.unusedSectionVars false
set_option linter.unusedSimpArgs false

def aD1 : Dat := ⟨⟨#[97]⟩, 0, 5, ⟨#[]⟩, [], []⟩
def aD2 : Dat := ⟨⟨#[98]⟩, 1, 0, ⟨#[120, 34, 121, 10, 128]⟩, [], []⟩
def aD3 : Dat := ⟨⟨#[99]⟩, 2, 0, ⟨#[102]⟩, [], []⟩
def aD4 : Dat := ⟨⟨#[100]⟩, 3, 0, ⟨#[105, 51, 50]⟩, [], []⟩
def aD5 : Dat := ⟨⟨#[101]⟩, 4, 0, ⟨#[]⟩, [1, -2], []⟩
def aD6 : Dat := ⟨⟨#[102]⟩, 5, 0, ⟨#[]⟩, [], [⟨#[105, 49]⟩, ⟨#[105, 110, 100, 101, 120]⟩]⟩
def aDs : List Dat := [aD1, aD2, aD3, aD4, aD5, aD6]
abbrev awL (H : Nat) : List Atr :=
  [⟨⟨#[97]⟩, 0, 5, ⟨#[]⟩, none, [], 0, none, [], 0⟩, ⟨⟨#[98]⟩, 1, 0, ⟨#[120, 34, 121, 10, 128]⟩, none, [], 0, none, [], 0⟩, ⟨⟨#[99]⟩, 2, 0, ⟨#[102]⟩, none, [], 0, none, [], 0⟩,
   ⟨⟨#[100]⟩, 3, 0, ⟨#[105, 51, 50]⟩, none, [], 0, none, [], 0⟩, ⟨⟨#[101]⟩, 4, 0, ⟨#[]⟩, some ⟨H, 0, none⟩, [1, -2], 2, none, [], 0⟩, ⟨⟨#[102]⟩, 5, 0, ⟨#[]⟩, none, [], 0, some ⟨H + 1, 0, none⟩, [⟨#[105, 49]⟩, ⟨#[105, 110, 100, 101, 120]⟩], 2⟩]
theorem awL_dat (H : Nat) : (awL H).map Atr.dat = aDs := rfl
abbrev awT : ByteArray := ⟨#[123, 97, 32, 61, 32, 53, 44, 32, 98, 32, 61, 32, 34, 120, 92, 34, 121, 92, 110, 92, 120, 56, 48, 34, 44, 32, 99, 32, 61, 32, 64, 102, 44, 32, 100, 32, 61, 32, 105, 51, 50, 44, 32, 101, 32, 61, 32, 91, 49, 44, 32, 45, 50, 93, 44, 32, 102, 32, 61, 32, 40, 105, 49, 44, 32, 105, 110, 100, 101, 120, 41, 125]⟩
abbrev awS : ByteArray := ⟨#[123, 97, 32, 61, 32, 53, 44, 32, 99, 32, 61, 32, 64, 102, 125]⟩
theorem awR (H : Nat) : rightL (awL H) = true := by kernel_rfl
theorem awP : (⟨(listD aDs).toArray⟩ : ByteArray) = awT := by kernel_rfl
theorem awPl : (listD aDs).length ≤ 262144 := by
  have : (listD aDs).length = awT.size := by rw [← awP]; rfl
  rw [this]; decide
/-- The list of the examples in memory. -/
structure AwAt (W : World) (H : Nat) : Prop where
  ints : W.heap[H]? = some (.cells #[.int .i64 1, .int .i64 (-2)] 2 (0, 0))
  texts : W.heap[H + 1]? = some (.cells #[.string ⟨#[105, 49]⟩, .string ⟨#[105, 110, 100, 101, 120]⟩] 9 (0, 0))
  row : W.heap[H + 2]? = some (.cells ((awL H).flatMap Atr.cells).toArray 27 (0, 0))
theorem AwAt.below {W W1 : World} {H : Nat} (h : AwAt W H) (hb : Below W.heap.size W W1) : AwAt W1 H := ⟨blkBelow h.ints hb, blkBelow h.texts hb, blkBelow h.row hb⟩
theorem AwAt.sl {W : World} {H : Nat} (h : AwAt W H) : AtrSl W (some ⟨H + 2, 0, none⟩) (awL H) := by
  refine ⟨.inr ⟨H + 2, 0, rfl, blkLt h.row, fun j hj i hi => ?_⟩, fun a ha => ?_, fun a ha => ?_⟩
  · rw [blkCell h.row, Nat.zero_add, ← flat_at hj hi]
    simp
  · simp only [List.mem_cons, List.not_mem_nil, or_false] at ha
    have hi : IntSl W (some ⟨H, 0, none⟩) [1, -2] := .inr ⟨H, 0, rfl, blkLt h.ints, fun j hj => by
      rw [blkCell h.ints]
      match j, hj with
      | 0, _ => rfl
      | 1, _ => rfl⟩
    have ht : StrSl W (some ⟨H + 1, 0, none⟩) [⟨#[105, 49]⟩, ⟨#[105, 110, 100, 101, 120]⟩] := .inr ⟨H + 1, 0, rfl, blkLt h.texts, fun j hj => by
      rw [blkCell h.texts]
      match j, hj with
      | 0, _ => rfl
      | 1, _ => rfl⟩
    rcases ha with rfl | rfl | rfl | rfl | rfl | rfl
    · exact ⟨.inl rfl, .inl rfl⟩
    · exact ⟨.inl rfl, .inl rfl⟩
    · exact ⟨.inl rfl, .inl rfl⟩
    · exact ⟨.inl rfl, .inl rfl⟩
    · exact ⟨hi, .inl rfl⟩
    · exact ⟨.inl rfl, ht⟩
  · simp only [List.mem_cons, List.not_mem_nil, or_false] at ha
    rcases ha with rfl | rfl | rfl | rfl | rfl | rfl
    all_goals (constructor <;> dsimp only <;> decide)
section
variable (W : World) (H : Nat) (hat : AwAt W H) (hg : Glob W)
include hat hg
theorem aw_print : Calls Tryz.prog 30 #[.slice (some ⟨H + 2, 0, none⟩) 6 6] W fun e w' => e = .returned (.tuple #[.string awT, .int .i64 0]) ∧ Below W.heap.size W w' :=
  (print_any _ 6 (awL H) W hat.sl (by simp) hg.pow).mono fun e w' h => by
    have h2 := h.1
    rw [awR, awL_dat, if_pos rfl, if_pos awPl, awP] at h2
    exact ⟨h2, h.2⟩
theorem aw_get : Calls Tryz.prog 34 #[.slice (some ⟨H + 2, 0, none⟩) 6 6, .string ⟨#[101]⟩] W fun e w' => ∃ nm k n tx ia ic ta tl tc, e = .returned (.tuple #[.agg #[.string nm, .int .i64 k, .int .i64 n, .string tx, .slice ia 2 ic, .slice ta tl tc], .int .i64 0]) ∧ Below W.heap.size W w' :=
  (get_any _ 6 (awL H) ⟨#[101]⟩ W hat.sl (by simp) (by simp)).mono fun e w' h => by
    obtain ⟨hb, h2⟩ := h
    rw [awR, if_pos rfl, if_pos (show foundB (awL H) ⟨#[101]⟩ = true by kernel_rfl)] at h2
    obtain ⟨b, he, -, -, hd⟩ := h2
    rw [awL_dat, show lowerB (awL H) ⟨#[101]⟩ = 4 by kernel_rfl] at hd
    have hd2 : aD5 = b.dat := Option.some.inj hd
    have hl : b.ints.length = 2 := by
      have : b.dat.ints = [1, -2] := by rw [← hd2]; rfl
      show b.dat.ints.length = 2
      rw [this]; rfl
    exact ⟨b.name, b.kind, b.num, b.text, b.ia, b.ic, b.ta, b.texts.length, b.tc, by rw [he, ← hl], hb⟩
theorem aw_cmp : Calls Tryz.prog 28 #[av ⟨#[97]⟩ 0 5 ⟨#[]⟩ none 0 0 none 0 0, av ⟨#[98]⟩ 1 0 ⟨#[120, 34, 121, 10, 128]⟩ none 0 0 none 0 0] W fun e w' => e = .returned (.tuple #[.int .i64 (-1), .int .i64 0]) ∧ Below W.heap.size W w' := by
  have hs := hat.sl
  refine (cmpA_any ⟨⟨#[97]⟩, 0, 5, ⟨#[]⟩, none, [], 0, none, [], 0⟩ ⟨⟨#[98]⟩, 1, 0, ⟨#[120, 34, 121, 10, 128]⟩, none, [], 0, none, [], 0⟩ W (hs.lies _ (by simp)) (hs.lies _ (by simp)) (hs.fits _ (by simp)) (hs.fits _ (by simp)) hg.pow).mono fun e w' h => ?_
  obtain ⟨he, hb⟩ := h
  refine ⟨?_, hb⟩
  rw [he]
  kernel_rfl
theorem aw_merge : Calls Tryz.prog 18 #[.slice (some ⟨H + 2, 0, none⟩) 6 6, .slice none 0 0] W fun e w' => ∃ sa c, e = .returned (.tuple #[.slice sa 6 c, .int .i64 0]) ∧ Below W.heap.size W w' :=
  (merge_any _ none 6 0 (awL H) [] W hat.sl ⟨.inl rfl, by simp, by simp⟩ (by simp) (by simp)).mono fun e w' h => by
    obtain ⟨hb, h2⟩ := h
    rw [awR, show rightL [] = true from rfl, if_pos (show (true && true) = true from rfl), awL_dat, show mergeD aDs (([] : List Atr).map Atr.dat) = aDs from rfl, if_neg (by decide)] at h2
    obtain ⟨v, l', he, ho, hd⟩ := h2
    obtain ⟨sa, c, rfl, -⟩ := own_form ho.own
    have : l'.length = 6 := by have := congrArg List.length hd; simpa [aDs] using this
    exact ⟨sa, c, by rw [he, this], hb⟩
end
section
variable (W : World) (hg : Glob W)
include hg
theorem aw_parse : Calls Tryz.prog 25 #[.string awS] W fun e w' => ∃ g c l, e = .returned (.tuple #[.slice (some ⟨g, 0, none⟩) 2 c, .int .i64 0]) ∧ AtrSl w' (some ⟨g, 0, none⟩) l ∧ l.map Atr.dat = [aD1, aD3] ∧ g < w'.heap.size ∧ w'.cell? ⟨g, 9, none⟩ = some (.string ⟨#[102]⟩) ∧ Below W.heap.size W w' := by
  have hpcs : piecesB (awS.extract 1 (awS.size - 1)) = [⟨#[97, 32, 61, 32, 53]⟩, ⟨#[32, 99, 32, 61, 32, 64, 102]⟩] := by kernel_rfl
  have hp := parse_of (fun p => if p = ⟨#[97, 32, 61, 32, 53]⟩ then some aD1 else some aD3) awS W (by decide) (by decide) (by kernel_rfl) (by kernel_rfl) hg (by
    rw [hpcs]
    intro p hp
    simp only [List.mem_cons, List.not_mem_nil, or_false] at hp
    rcases hp with rfl | rfl
    · refine ⟨by decide, fun W1 hb => ?_⟩
      rw [show nmOf ⟨#[97, 32, 61, 32, 53]⟩ = ⟨#[97]⟩ by kernel_rfl, show vlOf ⟨#[97, 32, 61, 32, 53]⟩ = ⟨#[53]⟩ by kernel_rfl, if_pos rfl]
      refine (read_of ⟨#[97]⟩ ⟨#[53]⟩ aD1 W1 (by kernel_rfl) (fun W2 hb2 => ?_) (hg.below hb).pow).mono fun e w' h => ⟨70, by decide, by rwa [if_pos (by kernel_rfl)] at h⟩
      refine (guess_num ⟨#[97]⟩ ⟨#[53]⟩ W2 (by decide) (.inr (by decide)) (by decide) 5 fun W3 hb3 => ?_).mono fun e w' h => ⟨⟨⟨#[97]⟩, 0, 5, ⟨#[]⟩, none, [], 0, none, [], 0⟩, h.1, rfl, ⟨.inl rfl, .inl rfl⟩, ⟨by decide, by decide, by decide, by decide, by decide, by decide, by decide, by decide, by decide, by decide⟩, by simp, h.2⟩
      exact (Tryz.strconv_ParseInt_10_at64_ok ⟨#[53]⟩ (by decide) 5 (by kernel_rfl) W3).mono fun e w' ⟨he, hw⟩ => ⟨_, he, by
        rcases hw with rfl | ⟨t, rfl⟩
        · exact Below.refl _ _
        · exact Lib.bytesWorld_below _ _ _⟩
    · refine ⟨by decide, fun W1 hb => ?_⟩
      rw [show nmOf ⟨#[32, 99, 32, 61, 32, 64, 102]⟩ = ⟨#[99]⟩ by kernel_rfl, show vlOf ⟨#[32, 99, 32, 61, 32, 64, 102]⟩ = ⟨#[64, 102]⟩ by kernel_rfl, if_neg (by decide)]
      refine (read_of ⟨#[99]⟩ ⟨#[64, 102]⟩ aD3 W1 (by kernel_rfl) (fun W2 hb2 => ?_) (hg.below hb).pow).mono fun e w' h => ⟨70, by decide, by rwa [if_pos (by kernel_rfl)] at h⟩
      refine (guess_sym ⟨#[99]⟩ ⟨#[64, 102]⟩ W2 (by decide) (by decide) (by decide)).mono fun e w' h => ⟨⟨⟨#[99]⟩, 2, 0, ⟨#[102]⟩, none, [], 0, none, [], 0⟩, h.1.trans (by kernel_rfl), rfl, ⟨.inl rfl, .inl rfl⟩, ⟨by decide, by decide, by decide, by decide, by decide, by decide, by decide, by decide, by decide, by decide⟩, by simp, h.2⟩)
  rw [hpcs, show parseOk (readAll (fun p => if p = ⟨#[97, 32, 61, 32, 53]⟩ then some aD1 else some aD3) [⟨#[97, 32, 61, 32, 53]⟩, ⟨#[32, 99, 32, 61, 32, 64, 102]⟩]) awS = some [aD1, aD3] by kernel_rfl] at hp
  refine hp.mono fun e w' h => ?_
  obtain ⟨hb, v, l, he, ho, hd⟩ := h
  have hl : l.length = 2 := by have := congrArg List.length hd; simpa using this
  obtain ⟨g, c, cur, rfl, -, hgc, -⟩ := ho.form (by omega)
  obtain ⟨g', off, h1, -, hrow⟩ := ho.sl.row (j := 1) (by omega)
  cases h1
  have h3 := (hrow 1 (by omega)).c3
  have h4 : l[1].text = ⟨#[102]⟩ := by
    have : (l.map Atr.dat)[1]? = some aD3 := by rw [hd]; rfl
    rw [List.getElem?_map, List.getElem?_eq_getElem (by omega)] at this
    have := Option.some.inj this
    show l[1].dat.text = _
    rw [this]; rfl
  rw [h4] at h3
  exact ⟨g, c, l, by rw [he, hl], ho.sl, hd, blkLt hgc, h3, hb⟩
theorem aw_read : Calls Tryz.prog 22 #[.string ⟨#[97]⟩, .string ⟨#[91, 93]⟩] W fun e w' => ∃ nm n tx ia il ic ta tl tc, e = .returned (.tuple #[.agg #[.string nm, .int .i64 4, .int .i64 n, .string tx, .slice ia il ic, .slice ta tl tc], .int .i64 0]) ∧ Below W.heap.size W w' := by
  refine (read_of ⟨#[97]⟩ ⟨#[91, 93]⟩ ⟨⟨#[97]⟩, 4, 0, ⟨#[]⟩, [], []⟩ W (by kernel_rfl) (fun W2 hb2 => ?_) hg.pow).mono fun e w' h => ?_
  · exact (guess_ints0 ⟨#[97]⟩ W2).mono fun e w' h => ⟨⟨⟨#[97]⟩, 4, 0, ⟨#[]⟩, none, [], 0, none, [], 0⟩, h.1, rfl, ⟨.inl rfl, .inl rfl⟩, ⟨by decide, by decide, by decide, by decide, by decide, by decide, by decide, by decide, by decide, by decide⟩, by simp, h.2⟩
  · rw [if_pos (by kernel_rfl)] at h
    obtain ⟨a, he, hd, -, -, -, hb⟩ := h
    have hk : a.kind = 4 := by show a.dat.kind = 4; rw [hd]
    exact ⟨a.name, a.num, a.text, a.ia, a.ints.length, a.ic, a.ta, a.texts.length, a.tc, by rw [he, ← hk], hb⟩
theorem aw_set (g c : Nat) (l : List Atr) (hs : AtrSl W (some ⟨g, 0, none⟩) l) (hd : l.map Atr.dat = [aD1, aD3]) : Calls Tryz.prog 13 #[.slice (some ⟨g, 0, none⟩) 2 c, av ⟨#[98]⟩ 0 7 ⟨#[]⟩ none 0 0 none 0 0] W fun e w' => ∃ g' c', e = .returned (.tuple #[.slice (some ⟨g', 0, none⟩) 3 c', .int .i64 0]) ∧ g' < w'.heap.size ∧ w'.cell? ⟨g', 8, none⟩ = some (.int .i64 7) ∧ Below W.heap.size W w' := by
  have hl : l.length = 2 := by have := congrArg List.length hd; simpa using this
  have h := set_any (some ⟨g, 0, none⟩) c l ⟨⟨#[98]⟩, 0, 7, ⟨#[]⟩, none, [], 0, none, [], 0⟩ W hs (by omega) ⟨.inl rfl, .inl rfl⟩ ⟨by decide, by decide, by decide, by decide, by decide, by decide, by decide, by decide, by decide, by decide⟩
  rw [hl] at h
  refine h.mono fun e w' h => ?_
  obtain ⟨hb, h2⟩ := h
  rw [rightL_D, hd, if_pos (by kernel_rfl), show mergeD [aD1, aD3] ([(⟨⟨#[98]⟩, 0, 7, ⟨#[]⟩, none, [], 0, none, [], 0⟩ : Atr)].map Atr.dat) = [aD1, ⟨⟨#[98]⟩, 0, 7, ⟨#[]⟩, [], []⟩, aD3] by kernel_rfl, if_neg (by decide)] at h2
  obtain ⟨v, l', he, ho, hd'⟩ := h2
  have hl' : l'.length = 3 := by have := congrArg List.length hd'; simpa using this
  obtain ⟨g', c', cur, rfl, -, hgc, -⟩ := ho.form (by omega)
  obtain ⟨g2, off, h1, -, hrow⟩ := ho.sl.row (j := 1) (by omega)
  cases h1
  have h3 := (hrow 1 (by omega)).c2
  have h4 : l'[1].num = 7 := by
    have : (l'.map Atr.dat)[1]? = some ⟨⟨#[98]⟩, 0, 7, ⟨#[]⟩, [], []⟩ := by rw [hd']; rfl
    rw [List.getElem?_map, List.getElem?_eq_getElem (by omega)] at this
    have := Option.some.inj this
    show l'[1].dat.num = _
    rw [this]
  rw [h4] at h3
  exact ⟨g', c', by rw [he, hl'], blkLt hgc, h3, hb⟩
theorem aw_chk (g : Nat) (h : W.heap[g]? = some (.cells #[.string ⟨#[98]⟩, .int .i64 0, .int .i64 0, .string ⟨#[]⟩, .slice none 0 0, .slice none 0 0, .string ⟨#[97]⟩, .int .i64 0, .int .i64 0, .string ⟨#[]⟩, .slice none 0 0, .slice none 0 0] 27 (0, 0))) :
    Calls Tryz.prog 19 #[.slice (some ⟨g, 0, none⟩) 2 2] W fun e w' => e = .returned (.int .i64 20) ∧ Below W.heap.size W w' := by
  let l : List Atr := [⟨⟨#[98]⟩, 0, 0, ⟨#[]⟩, none, [], 0, none, [], 0⟩, ⟨⟨#[97]⟩, 0, 0, ⟨#[]⟩, none, [], 0, none, [], 0⟩]
  have hs : AtrSl W (some ⟨g, 0, none⟩) l := by
    refine ⟨.inr ⟨g, 0, rfl, blkLt h, fun j hj i hi => ?_⟩, fun a ha => ?_, fun a ha => ?_⟩
    · rw [blkCell h, Nat.zero_add, ← flat_at hj hi]
      show (l.flatMap Atr.cells).toArray[j * 6 + i]? = _
      simp
    · simp only [l, List.mem_cons, List.not_mem_nil, or_false] at ha
      rcases ha with rfl | rfl <;> exact ⟨.inl rfl, .inl rfl⟩
    · simp only [l, List.mem_cons, List.not_mem_nil, or_false] at ha
      rcases ha with rfl | rfl <;> exact ⟨by decide, by decide, by decide, by decide, by decide, by decide, by decide, by decide, by decide, by decide⟩
  exact (check_any' (some ⟨g, 0, none⟩) 2 l W hs (by simp [l])).mono fun e w' h => ⟨by rw [h.1]; kernel_rfl, h.2⟩
end
end Go.Proofs.YtmepjbjmjbpchaaGreatDoor
end
section
/- What every statement asks of a program whatever the input is: it is so. -/
namespace Go.Proofs.YtmepjbjmjbpchaaGreatDoor
open Go Go.RowKit Go.Sort
set_option linter.unusedVariables false
set_option linter.unusedSimpArgs false

theorem aw_at (w : World) (C : Array Value) (hC : C = ((awL w.heap.size).flatMap Atr.cells).toArray) : AwAt (((w.alloc (.cells #[.int .i64 1, .int .i64 (-2)] 2)).alloc (.cells #[.string ⟨#[105, 49]⟩, .string ⟨#[105, 110, 100, 101, 120]⟩] 9)).alloc (.cells C 27)) w.heap.size := by
  refine ⟨heap_alloc_old (heap_alloc_old (heap_alloc_new _ _) _) _, heap_alloc_old (heap_alloc_new' _ _ (by simp)) _, ?_⟩
  rw [hC]
  exact heap_alloc_new' _ _ (by simp)
theorem AwAt.cells {W : World} {H : Nat} (h : AwAt W H) : ∀ j, W.cell? ⟨H + 1 + 1, j, none⟩ = ((awL H).flatMap Atr.cells).toArray[j]? := fun j => blkCell h.row j
set_option maxRecDepth 100000 in
set_option maxHeartbeats 16000000 in
theorem awake02 (w : World) (hg : Glob w) : Calls Tryz.prog 20 #[] w fun e w' => e = .returned (.bool true) ∧ Below w.heap.size w w' := by
  have HG := Lib.hid hg
  clear hg
  go_enter Tryz.func20, Tryz.ntmps20
  go_wp2_with (first
    | (go_at_call 34; refine Calls.mono (aw_get _ w.heap.size (HA6.out.below ?_) (HG.out.below ?_)) ?_; (focus ((repeat (first | (with_reducible refine below_set ?_ (by first | exact Nat.le_refl _ | omega) _ _) | with_reducible exact Below.refl _ _ | with_reducible refine belowA ?_ _ | with_reducible refine belowD ?_ | with_reducible refine belowN ?_ _)); done)); (focus ((repeat (first | (with_reducible refine below_set ?_ (by first | exact Nat.le_refl _ | omega) _ _) | with_reducible exact Below.refl _ _ | with_reducible refine belowA ?_ _ | with_reducible refine below_own' ?_ HB6.out | with_reducible refine belowD ?_ | with_reducible refine belowN ?_ _)); done)); rintro e w7 ⟨nm7, k7, n7, tx7, ia7, ic7, ta7, tl7, tc7, rfl, hb7⟩; have HX6 : Hid (w7.cell? ⟨w6.heap.size, 1, none⟩ = some (.int .i64 4)) := Lib.hid (by rw [rdCell hb7 w6.heap.size (by simp)]; simp [go_sem]); have HB67 : Hid (Below w6.heap.size w6 w7) := Lib.hid (by (repeat (first | (with_reducible refine below_set ?_ (by first | exact Nat.le_refl _ | omega) _ _) | with_reducible exact Below.refl _ _ | with_reducible refine belowA ?_ _ | with_reducible refine below_own' ?_ hb7 | with_reducible refine belowD ?_ | with_reducible refine belowN ?_ _))); have HA7 := Lib.hid (HA6.out.below HB67.out); have HB7 := Lib.hid (below_own' HB6.out HB67.out); have hz7 : w6.heap.size < w7.heap.size := (by have := Below.size hb7; simp at this; omega); clear hb7)
    | (go_at_call 22; refine Calls.mono (aw_read _ (HG.out.below HB5.out)) ?_; rintro e w6 ⟨nm6, n6, tx6, ia6, il6, ic6, ta6, tl6, tc6, rfl, hb6⟩; have HA6 := Lib.hid (HA5.out.below hb6); have HB6 := Lib.hid (below_own' HB5.out hb6); have HB56 := Lib.hid hb6; clear hb6)
    | (go_at_call 25; refine Calls.mono (aw_parse _ (HG.out.below HB4.out)) ?_; rintro e w5 ⟨g5, c5, l5, rfl, hs5, hd5, hz5, ht5, hb5⟩; have HA5 := Lib.hid (HA4.out.below hb5); have HB5 := Lib.hid (below_own' HB4.out hb5); have HS5 := Lib.hid hs5; have HD5 := Lib.hid hd5; have HT5 := Lib.hid ht5; clear hs5 hd5 ht5 hb5)
    | (go_at_call 30; refine Calls.mono (aw_print _ w.heap.size (aw_at w _ (by rfl)) (HG.out.below ?_)) ?_; (focus ((repeat (first | (with_reducible refine below_set ?_ (by first | exact Nat.le_refl _ | omega) _ _) | with_reducible exact Below.refl _ _ | with_reducible refine belowA ?_ _ | with_reducible refine belowD ?_ | with_reducible refine belowN ?_ _)); done)); rintro e w4 ⟨rfl, hb4⟩; have HB4 : Hid (Below w.heap.size w w4) := Lib.hid (by (repeat (first | (with_reducible refine below_set ?_ (by first | exact Nat.le_refl _ | omega) _ _) | with_reducible exact Below.refl _ _ | with_reducible refine belowA ?_ _ | with_reducible refine below_own' ?_ hb4 | with_reducible refine belowD ?_ | with_reducible refine belowN ?_ _))); have HA4 := Lib.hid ((aw_at w _ (by rfl)).below hb4); clear hb4))
  have k0 : w7.cell? ⟨w.heap.size + 1 + 1, 0, none⟩ = some (.string ⟨#[97]⟩) := HA7.out.cells 0
  have k1 : w7.cell? ⟨w.heap.size + 1 + 1, 1, none⟩ = some (.int .i64 0) := HA7.out.cells 1
  have k2 : w7.cell? ⟨w.heap.size + 1 + 1, 2, none⟩ = some (.int .i64 5) := HA7.out.cells 2
  have k3 : w7.cell? ⟨w.heap.size + 1 + 1, 3, none⟩ = some (.string ⟨#[]⟩) := HA7.out.cells 3
  have k4 : w7.cell? ⟨w.heap.size + 1 + 1, 4, none⟩ = some (.slice none 0 0) := HA7.out.cells 4
  have k5 : w7.cell? ⟨w.heap.size + 1 + 1, 5, none⟩ = some (.slice none 0 0) := HA7.out.cells 5
  have k6 : w7.cell? ⟨w.heap.size + 1 + 1, 6, none⟩ = some (.string ⟨#[98]⟩) := HA7.out.cells 6
  have k7 : w7.cell? ⟨w.heap.size + 1 + 1, 7, none⟩ = some (.int .i64 1) := HA7.out.cells 7
  have k8 : w7.cell? ⟨w.heap.size + 1 + 1, 8, none⟩ = some (.int .i64 0) := HA7.out.cells 8
  have k9 : w7.cell? ⟨w.heap.size + 1 + 1, 9, none⟩ = some (.string ⟨#[120, 34, 121, 10, 128]⟩) := HA7.out.cells 9
  have k10 : w7.cell? ⟨w.heap.size + 1 + 1, 10, none⟩ = some (.slice none 0 0) := HA7.out.cells 10
  have k11 : w7.cell? ⟨w.heap.size + 1 + 1, 11, none⟩ = some (.slice none 0 0) := HA7.out.cells 11
  have hzr : w.heap.size + 1 + 1 < w7.heap.size := blkLt HA7.out.row
  go_region_held3 (fun w' => w'.cell? ⟨w.heap.size + 1 + 1, 0, none⟩ = some (.string ⟨#[97]⟩) ∧ w'.cell? ⟨w.heap.size + 1 + 1, 1, none⟩ = some (.int .i64 0) ∧ w'.cell? ⟨w.heap.size + 1 + 1, 2, none⟩ = some (.int .i64 5) ∧ w'.cell? ⟨w.heap.size + 1 + 1, 3, none⟩ = some (.string ⟨#[]⟩) ∧ w'.cell? ⟨w.heap.size + 1 + 1, 4, none⟩ = some (.slice none 0 0) ∧ w'.cell? ⟨w.heap.size + 1 + 1, 5, none⟩ = some (.slice none 0 0) ∧ w'.cell? ⟨w.heap.size + 1 + 1, 6, none⟩ = some (.string ⟨#[98]⟩) ∧ w'.cell? ⟨w.heap.size + 1 + 1, 7, none⟩ = some (.int .i64 1) ∧ w'.cell? ⟨w.heap.size + 1 + 1, 8, none⟩ = some (.int .i64 0) ∧ w'.cell? ⟨w.heap.size + 1 + 1, 9, none⟩ = some (.string ⟨#[120, 34, 121, 10, 128]⟩) ∧ w'.cell? ⟨w.heap.size + 1 + 1, 10, none⟩ = some (.slice none 0 0) ∧ w'.cell? ⟨w.heap.size + 1 + 1, 11, none⟩ = some (.slice none 0 0)) (go_keep)
    ((go_at_call 28; refine Calls.mono (aw_cmp _ w.heap.size (HA7.out.below ?_) (HG.out.below ?_)) ?_; (focus ((repeat (first | (with_reducible refine below_set ?_ (by first | exact Nat.le_refl _ | omega) _ _) | with_reducible exact Below.refl _ _ | with_reducible refine belowA ?_ _ | with_reducible refine belowD ?_ | with_reducible refine belowN ?_ _)); done)); (focus ((repeat (first | (with_reducible refine below_set ?_ (by first | exact Nat.le_refl _ | omega) _ _) | with_reducible exact Below.refl _ _ | with_reducible refine belowA ?_ _ | with_reducible refine below_own' ?_ HB7.out | with_reducible refine belowD ?_ | with_reducible refine belowN ?_ _)); done)); rintro e w8 ⟨rfl, hb8⟩; have c8 := rdCell hb8 (w.heap.size + 1 + 1) (by first | (simp; done) | (simp; omega)); have HX8 : Hid (w8.cell? ⟨w6.heap.size, 1, none⟩ = some (.int .i64 4)) := Lib.hid (by rw [rdCell hb8 w6.heap.size (by simp; omega)]; simp [go_sem, hz7, HX6.out]); have HY8 : Hid (w8.cell? ⟨w7.heap.size, 4, none⟩ = some (.slice ia7 2 ic7)) := Lib.hid (by rw [rdCell hb8 w7.heap.size (by simp)]; simp [go_sem]); have HB78 : Hid (Below w7.heap.size w7 w8) := Lib.hid (by (repeat (first | (with_reducible refine below_set ?_ (by first | exact Nat.le_refl _ | omega) _ _) | with_reducible exact Below.refl _ _ | with_reducible refine belowA ?_ _ | with_reducible refine below_own' ?_ hb8 | with_reducible refine belowD ?_ | with_reducible refine belowN ?_ _))); have hzw8 : w7.heap.size < w8.heap.size := (by have := Below.size hb8; simp at this; omega)))
  have HB8 := Lib.hid (below_own' HB7.out HB78.out)
  have HA8 := Lib.hid (HA7.out.below HB78.out)
  have HB58 : Hid (Below w5.heap.size w5 w8) := Lib.hid (below_own' (below_own' HB56.out HB67.out) HB78.out)
  clear k0 k1 k2 k3 k4 k5 k6 k7 k8 k9 k10 k11 c8
  try clear hb8
  go_wp2_with (first
    | (go_at_call 19; refine Calls.mono (aw_chk _ (HG.out.below ?_) w10.heap.size ?_) ?_; (focus ((repeat (first | (with_reducible refine below_set ?_ (by first | exact Nat.le_refl _ | omega) _ _) | with_reducible exact Below.refl _ _ | with_reducible refine belowA ?_ _ | with_reducible refine below_own' ?_ HB10.out | with_reducible refine belowD ?_ | with_reducible refine belowN ?_ _)); done)); (focus (exact heap_alloc_new _ _)); rintro e w11 ⟨rfl, hb11⟩)
    | (go_at_call 18; refine Calls.mono (aw_merge _ w.heap.size (HA9.out) (HG.out.below HB9.out)) ?_; rintro e w10 ⟨sa10, c10, rfl, hb10⟩; have HB10 := Lib.hid (below_own' HB9.out hb10); have hb8x : Below w8.heap.size w8 w10 := below_own' HBX9.out hb10; have m5 : w10.cell? ⟨g5, 9, none⟩ = some (.string ⟨#[102]⟩) := (rdCell (below_own' HB58.out hb8x) g5 hz5 9).trans HT5.out; have x6 : w10.cell? ⟨w6.heap.size, 1, none⟩ = some (.int .i64 4) := (rdCell hb8x w6.heap.size (by omega) 1).trans HX8.out; have y7 : w10.cell? ⟨w7.heap.size, 4, none⟩ = some (.slice ia7 2 ic7) := (rdCell hb8x w7.heap.size (by omega) 4).trans HY8.out; have t9 : w10.cell? ⟨g9, 8, none⟩ = some (.int .i64 7) := (rdCell hb10 g9 hz9 8).trans HT9.out; clear hb10 hb8x)
    | (go_at_call 13; refine Calls.mono (aw_set _ (HG.out.below HB8.out) g5 c5 l5 (HS5.out.below HB58.out) HD5.out) ?_; rintro e w9 ⟨g9, c9, rfl, hz9, ht9, hb9⟩; have HA9 := Lib.hid (HA8.out.below hb9); have HB9 := Lib.hid (below_own' HB8.out hb9); have HT9 := Lib.hid ht9; have HBX9 := Lib.hid hb9; clear ht9 hb9))
  go_ret
  exact ⟨rfl, by (repeat (first | (with_reducible refine below_set ?_ (by first | exact Nat.le_refl _ | omega) _ _) | with_reducible exact Below.refl _ _ | with_reducible refine belowA ?_ _ | with_reducible refine below_own' ?_ hb11 | with_reducible refine below_own' ?_ HB10.out | with_reducible refine belowD ?_ | with_reducible refine belowN ?_ _))⟩
end Go.Proofs.YtmepjbjmjbpchaaGreatDoor
end
