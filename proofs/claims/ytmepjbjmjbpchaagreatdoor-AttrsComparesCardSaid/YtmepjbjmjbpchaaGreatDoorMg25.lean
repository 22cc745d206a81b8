/- Texts of this claim, laid together: Ay2, Ay3. -/
import Derived.Test.YtmepjbjmjbpchaaGreatDoorMg24
section
/- attrs.Equal, the reference's Cmp. -/
namespace Go.Proofs.YtmepjbjmjbpchaaGreatDoor
open Go Go.RowKit
set_option linter.unusedVariables false
set_option linter.unusedSimpArgs false
attribute [local go_sem] Oper.semAt_some

def EqPost (x y : Atr) (w : World) (e : Ending) (w' : World) : Prop :=
  e = .returned (.tuple #[.bool ((rightA x && rightA y) && decide (cmpA x y = 0)), .int .i64 (if rightA x && rightA y then 0 else 20)]) ∧ Below w.heap.size w w'
set_option maxRecDepth 100000 in
set_option maxHeartbeats 4000000 in
theorem equalA_any (x y : Atr) (w : World) (hx : x.Lies w) (hy : y.Lies w) (fx : x.Fits) (fy : y.Fits) (hp : Pow w) :
    Calls Tryz.prog 27 #[x.val, y.val] w (EqPost x y w) := by
  have HC := Lib.hid (fun (W : World) (h : Below w.heap.size w W) => cmpA_any x y W (hx.below h) (hy.below h) fx fy (pow_below hp h))
  clear hx hy fx fy hp
  unfold EqPost
  have hcs : (rightA x && rightA y) = false ∨ ((rightA x && rightA y) = true ∧ cmpA x y = 0) ∨ ((rightA x && rightA y) = true ∧ cmpA x y ≠ 0) := by
    cases (rightA x && rightA y)
    · exact .inl rfl
    · by_cases h : cmpA x y = 0
      · exact .inr (.inl ⟨rfl, h⟩)
      · exact .inr (.inr ⟨rfl, h⟩)
  rcases hcs with hr | ⟨hr, hc⟩ | ⟨hr, hc⟩
  · have HR := Lib.hid hr
    have hp1 : ((rightA x && rightA y) && decide (cmpA x y = 0)) = false := by rw [hr]; rfl
    have hp2 : (if (rightA x && rightA y) = true then (0 : Int) else 20) = 20 := by rw [hr]; rfl
    rw [hp1, hp2]
    clear hp1 hp2
    clear hr
    go_enter Tryz.func27, Tryz.ntmps27
    go_wp2_with (go_at_call 28; refine (HC.out _ (by (repeat (first | (with_reducible refine below_set ?_ (by first | exact Nat.le_refl _ | omega) _ _) | with_reducible exact Below.refl _ _ | with_reducible refine belowA ?_ _ | with_reducible refine belowD ?_ | with_reducible refine belowN ?_ _)))).mono ?_; rintro e w1 ⟨he, hb1⟩; rw [HR.out] at he; simp only [Bool.false_eq_true, if_false] at he; subst he)
    go_ret2
    exact ⟨rfl, by (repeat (first | (with_reducible refine below_set ?_ (by first | exact Nat.le_refl _ | omega) _ _) | with_reducible exact Below.refl _ _ | with_reducible refine belowA ?_ _ | with_reducible refine below_own' ?_ hb1 | with_reducible refine belowD ?_ | with_reducible refine belowN ?_ _))⟩
  · have HR := Lib.hid hr
    have HX := Lib.hid hc
    have hp1 : ((rightA x && rightA y) && decide (cmpA x y = 0)) = true := by rw [hr]; simp [hc]
    have hp2 : (if (rightA x && rightA y) = true then (0 : Int) else 20) = 0 := by rw [hr]; rfl
    rw [hp1, hp2]
    clear hp1 hp2
    clear hr hc
    go_enter Tryz.func27, Tryz.ntmps27
    go_wp2_with (go_at_call 28; refine (HC.out _ (by (repeat (first | (with_reducible refine below_set ?_ (by first | exact Nat.le_refl _ | omega) _ _) | with_reducible exact Below.refl _ _ | with_reducible refine belowA ?_ _ | with_reducible refine belowD ?_ | with_reducible refine belowN ?_ _)))).mono ?_; rintro e w1 ⟨he, hb1⟩; rw [HR.out] at he; simp only [if_true, HX.out] at he; subst he)
    go_ret2
    exact ⟨rfl, by (repeat (first | (with_reducible refine below_set ?_ (by first | exact Nat.le_refl _ | omega) _ _) | with_reducible exact Below.refl _ _ | with_reducible refine belowA ?_ _ | with_reducible refine below_own' ?_ hb1 | with_reducible refine belowD ?_ | with_reducible refine belowN ?_ _))⟩
  · have HR := Lib.hid hr
    have HX := Lib.hid hc
    have hp1 : ((rightA x && rightA y) && decide (cmpA x y = 0)) = false := by rw [hr]; simp [hc]
    have hp2 : (if (rightA x && rightA y) = true then (0 : Int) else 20) = 0 := by rw [hr]; rfl
    rw [hp1, hp2]
    clear hp1 hp2
    obtain ⟨z, hz⟩ : ∃ z, z = cmpA x y := ⟨_, rfl⟩
    have HZ := Lib.hid hz
    have hb0 : (z == 0) = false := by rw [hz]; simpa using hc
    clear hr hc hz
    go_enter Tryz.func27, Tryz.ntmps27
    go_wp2_with (go_at_call 28; refine (HC.out _ (by (repeat (first | (with_reducible refine below_set ?_ (by first | exact Nat.le_refl _ | omega) _ _) | with_reducible exact Below.refl _ _ | with_reducible refine belowA ?_ _ | with_reducible refine belowD ?_ | with_reducible refine belowN ?_ _)))).mono ?_; rintro e w1 ⟨he, hb1⟩; rw [HR.out] at he; simp only [if_true, ← HZ.out] at he; subst he)
    go_ret2
    exact ⟨rfl, by (repeat (first | (with_reducible refine below_set ?_ (by first | exact Nat.le_refl _ | omega) _ _) | with_reducible exact Below.refl _ _ | with_reducible refine belowA ?_ _ | with_reducible refine below_own' ?_ hb1 | with_reducible refine belowD ?_ | with_reducible refine belowN ?_ _))⟩
end Go.Proofs.YtmepjbjmjbpchaaGreatDoor
end
section
/- The reference's Cmp. -/
namespace Go.Proofs.YtmepjbjmjbpchaaGreatDoor
open Go Go.RowKit
set_option linter.unusedVariables false
set_option linter.unusedSimpArgs false
attribute [local go_sem] Oper.semAt_some

theorem nmCmp_ne {s t : ByteArray} (h : s ≠ t) : nmCmp s t ≠ 0 := by
  unfold nmCmp
  cases h1 : nmLt s t
  · cases h2 : nmLt t s
    · exact absurd (nm_total h1 h2) h
    · simp
  · simp
theorem nmCmp_self (s : ByteArray) : nmCmp s s = 0 := by unfold nmCmp; rw [nm_irrefl]; simp
theorem cmpA_name {x y : Atr} (h : x.name ≠ y.name) : cmpA x y = nmCmp x.name y.name := by
  unfold cmpA orI; rw [if_pos (nmCmp_ne h)]
theorem cmpA_kind {x y : Atr} (h : x.name = y.name) (hk : x.kind ≠ y.kind) : cmpA x y = kCmp x.kind y.kind := by
  have h2 : kCmp x.kind y.kind ≠ 0 := by unfold kCmp; split; simp; split; simp; omega
  unfold cmpA orI; rw [h, nmCmp_self, if_neg (by simp), if_pos h2]
theorem cmpA_value {x y : Atr} (h : x.name = y.name) (hk : x.kind = y.kind) : cmpA x y = nmCmp (valB x) (valB y) := by
  unfold cmpA orI kCmp; rw [h, nmCmp_self, hk]; simp
set_option maxRecDepth 100000 in
set_option maxHeartbeats 8000000 in
theorem rcmpA_any (x y : Atr) (w : World) (hx : x.Lies w) (hy : y.Lies w) (fx : x.Fits) (fy : y.Fits) (rx : rightA x = true) (ry : rightA y = true) :
    Calls Tryz.prog 29 #[x.val, y.val] w fun e w' => e = .returned (.int .i64 (cmpA x y)) ∧ Below w.heap.size w w' := by
  have HA := Lib.hid (fun (W : World) (h : Below w.heap.size w W) => hx.below h)
  have HB := Lib.hid (fun (W : World) (h : Below w.heap.size w W) => hy.below h)
  have hcs : x.name ≠ y.name ∨ (x.name = y.name ∧ x.kind < y.kind) ∨ (x.name = y.name ∧ y.kind < x.kind) ∨ (x.name = y.name ∧ x.kind = y.kind) := by
    by_cases h : x.name = y.name
    · have : x.kind < y.kind ∨ y.kind < x.kind ∨ x.kind = y.kind := by omega
      rcases this with h2 | h2 | h2
      · exact .inr (.inl ⟨h, h2⟩)
      · exact .inr (.inr (.inl ⟨h, h2⟩))
      · exact .inr (.inr (.inr ⟨h, h2⟩))
    · exact .inl h
  clear hx hy
  rcases hcs with h | ⟨h, hk⟩ | ⟨h, hk⟩ | ⟨h, hk⟩
  · have HE := Lib.hid (cmpA_name h)
    have hb : (x.name.toList == y.name.toList) = false := by rw [toList_beq]; simpa using h
    have hb2 : (x.name.toList != y.name.toList) = true := by rw [bne, hb]; rfl
    clear h
    go_enter Tryz.func29, Tryz.ntmps29
    go_wp2_with (go_at_call 58; refine (rcmp_any _ _ _).mono ?_; rintro e w1 ⟨rfl, rfl⟩)
    go_ret
    exact ⟨by rw [HE.out]; rfl, by (repeat (first | (with_reducible refine below_set ?_ (by first | exact Nat.le_refl _ | omega) _ _) | with_reducible exact Below.refl _ _ | with_reducible refine belowA ?_ _ | with_reducible refine belowD ?_ | with_reducible refine belowN ?_ _))⟩
  · have HE : Hid (cmpA x y = -1) := Lib.hid (by rw [cmpA_kind h (by omega)]; unfold kCmp; rw [if_pos hk])
    have hb : (x.name.toList == y.name.toList) = true := by rw [toList_beq]; simpa using h
    have hb2 : (x.name.toList != y.name.toList) = false := by rw [bne, hb]; rfl
    clear h
    go_enter Tryz.func29, Tryz.ntmps29
    go_wp2_with fail
    go_ret
    exact ⟨by rw [HE.out]; rfl, by (repeat (first | (with_reducible refine below_set ?_ (by first | exact Nat.le_refl _ | omega) _ _) | with_reducible exact Below.refl _ _ | with_reducible refine belowA ?_ _ | with_reducible refine belowD ?_ | with_reducible refine belowN ?_ _))⟩
  · have HE : Hid (cmpA x y = 1) := Lib.hid (by rw [cmpA_kind h (by omega)]; unfold kCmp; rw [if_neg (by omega), if_pos hk])
    have hb : (x.name.toList == y.name.toList) = true := by rw [toList_beq]; simpa using h
    have hb2 : (x.name.toList != y.name.toList) = false := by rw [bne, hb]; rfl
    have hk2 : ¬ x.kind < y.kind := by omega
    clear h
    go_enter Tryz.func29, Tryz.ntmps29
    go_wp2_with fail
    go_ret
    exact ⟨by rw [HE.out]; rfl, by (repeat (first | (with_reducible refine below_set ?_ (by first | exact Nat.le_refl _ | omega) _ _) | with_reducible exact Below.refl _ _ | with_reducible refine belowA ?_ _ | with_reducible refine belowD ?_ | with_reducible refine belowN ?_ _))⟩
  · obtain ⟨vs, hvs⟩ : ∃ vs, vs = valB x := ⟨_, rfl⟩
    obtain ⟨vt, hvt⟩ : ∃ vt, vt = valB y := ⟨_, rfl⟩
    have VS := Lib.hid hvs
    have VT := Lib.hid hvt
    have HE : Hid (cmpA x y = nmCmp vs vt) := Lib.hid (by rw [cmpA_value h hk, hvs, hvt])
    have hb : (x.name.toList == y.name.toList) = true := by rw [toList_beq]; simpa using h
    have hb2 : (x.name.toList != y.name.toList) = false := by rw [bne, hb]; rfl
    have hk2 : ¬ x.kind < y.kind := by omega
    have hk3 : ¬ y.kind < x.kind := by omega
    clear h hk hvs hvt
    refine (callsIn_wide (n := 6)).1 ?_
    refine callsIn_of_wp Tryz.func29 rfl trivial ?_ rfl
    simp only [Tryz.ntmps29, List.size_toArray, List.length_cons, List.length_nil, Nat.reduceAdd, Nat.reduceSub, Array.replicate_succ, Array.replicate_zero, List.push_toArray, List.append_toArray, List.nil_append, List.cons_append]
    gi_wp2_with fail
    obtain ⟨w2, hw2⟩ : ∃ w2, w2 = ((w.alloc (.cells #[.string x.name, .int .i64 x.kind, .int .i64 x.num, .string x.text, .slice x.ia x.ints.length x.ic, .slice x.ta x.texts.length x.tc] 27)).alloc (.cells #[.string y.name, .int .i64 y.kind, .int .i64 y.num, .string y.text, .slice y.ia y.ints.length y.ic, .slice y.ta y.texts.length y.tc] 27)) := ⟨_, rfl⟩
    have HZZ : Hid (Below w.heap.size w w2) := Lib.hid (by rw [hw2]; (repeat (first | (with_reducible refine below_set ?_ (by first | exact Nat.le_refl _ | omega) _ _) | with_reducible exact Below.refl _ _ | with_reducible refine belowA ?_ _ | with_reducible refine belowD ?_ | with_reducible refine belowN ?_ _)))
    have hs2 : w.heap.size + 1 < w2.heap.size := by rw [hw2]; simp
    have hsa : w.heap.size < w2.heap.size := by omega
    have kk : w2.cell? ⟨w.heap.size, 0, none⟩ = some (.string x.name) ∧ w2.cell? ⟨w.heap.size, 0 + 1, none⟩ = some (.int .i64 x.kind) ∧ w2.cell? ⟨w.heap.size, 0 + 2, none⟩ = some (.int .i64 x.num) ∧ w2.cell? ⟨w.heap.size, 0 + 3, none⟩ = some (.string x.text) ∧ w2.cell? ⟨w.heap.size, 0 + 4, none⟩ = some (.slice x.ia x.ints.length x.ic) ∧ w2.cell? ⟨w.heap.size, 0 + 5, none⟩ = some (.slice x.ta x.texts.length x.tc) := by
      refine ⟨?_, ?_, ?_, ?_, ?_, ?_⟩ <;> (rw [hw2]; simp [go_sem])
    have qq : w2.cell? ⟨w.heap.size + 1, 0, none⟩ = some (.string y.name) ∧ w2.cell? ⟨w.heap.size + 1, 0 + 1, none⟩ = some (.int .i64 y.kind) ∧ w2.cell? ⟨w.heap.size + 1, 0 + 2, none⟩ = some (.int .i64 y.num) ∧ w2.cell? ⟨w.heap.size + 1, 0 + 3, none⟩ = some (.string y.text) ∧ w2.cell? ⟨w.heap.size + 1, 0 + 4, none⟩ = some (.slice y.ia y.ints.length y.ic) ∧ w2.cell? ⟨w.heap.size + 1, 0 + 5, none⟩ = some (.slice y.ta y.texts.length y.tc) := by
      refine ⟨?_, ?_, ?_, ?_, ?_, ?_⟩ <;> (rw [hw2]; simp [go_sem])
    rw [← hw2]
    obtain ⟨k0, k1, k2, k3, k4, k5⟩ := kk
    obtain ⟨q0, q1, q2, q3, q4, q5⟩ := qq
    clear hw2
    generalize hops : (#[_, _, _, _, _, _] : Array Oper) = ops
    refine wpIn_region_inv_tail 5 (fun i => match i with | 0 => x.val | 1 => .string vs | 2 => y.val | 3 => .string vt | 4 => .int .i64 (nmCmp vs vt) | _ => undef)
      (fun lst Wy => Below w2.heap.size w2 Wy) (by kernel_rfl) (by rw [← hops]; kernel_rfl) (by rw [← hops]; kernel_rfl) (by rw [← hops]; kernel_rfl) (by rw [← hops]; decide) (by rw [← hops]; kernel_rfl) ((Below.refl _ _).drew) ?step ?tail
    case step =>
      intro i o listed a Wy ho hs hu hall ha hi hy hlt
      have old2 : a.eval (.tmp 2) = .pointer (some ⟨w.heap.size, 0, none⟩) := by rw [ha.eval_old (noDst_spec (by rw [← hops]; kernel_rfl))]; rfl
      have old3 : a.eval (.tmp 3) = .pointer (some ⟨w.heap.size + 1, 0, none⟩) := by rw [ha.eval_old (noDst_spec (by rw [← hops]; kernel_rfl))]; rfl
      have hcase : i = 0 ∨ i = 1 ∨ i = 2 ∨ i = 3 ∨ i = 4 := by omega
      rcases hcase with rfl | rfl | rfl | rfl | rfl
      all_goals (have ho' := ho; rw [← hops] at ho'; simp only [List.getElem?_toArray, List.getElem?_cons_zero, List.getElem?_cons_succ, Option.some.injEq] at ho'; subst ho')
      · refine step_none rfl ?_
        refine opIn_value wideAt_plain (fun c h => by cases h) (v := x.val) (W' := Wy) ?_ ⟨rfl, hi⟩
        simp only [execOp, old2]
        simp [go_sem, rdCell hi w.heap.size hsa, k0, k1, k2, k3, k4, k5]
      · refine step_none rfl ?_
        have h28 : a.eval (.tmp 28) = x.val := ha.eval_got (j := 0) (by rw [← hops]; rfl) rfl (hall ⟨0, .data⟩ (by simp) rfl)
        refine opIn_call wideAt_plain (fun c h => by cases h) (f := 33) (args := #[x.val]) (W' := Wy) ?_ (rvalue_any x Wy (HA.out Wy (below_own' HZZ.out hi)) fx rx) ?_
        · simp only [execOp, h28]
          simp [go_sem]
          try (simpa [Act.eval] using h28)
        · rintro e W1 ⟨rfl, hb⟩
          exact ⟨_, rfl, by rw [VS.out]; rfl, below_own' hi hb⟩
      · refine step_none rfl ?_
        refine opIn_value wideAt_plain (fun c h => by cases h) (v := y.val) (W' := Wy) ?_ ⟨rfl, hi⟩
        simp only [execOp, old3]
        simp [go_sem, rdCell hi (w.heap.size + 1) hs2, q0, q1, q2, q3, q4, q5]
      · refine step_none rfl ?_
        have h30 : a.eval (.tmp 30) = y.val := ha.eval_got (j := 2) (by rw [← hops]; rfl) rfl (hall ⟨2, .data⟩ (by simp) rfl)
        refine opIn_call wideAt_plain (fun c h => by cases h) (f := 33) (args := #[y.val]) (W' := Wy) ?_ (rvalue_any y Wy (HB.out Wy (below_own' HZZ.out hi)) fy ry) ?_
        · simp only [execOp, h30]
          simp [go_sem]
          try (simpa [Act.eval] using h30)
        · rintro e W1 ⟨rfl, hb⟩
          exact ⟨_, rfl, by rw [VT.out]; rfl, below_own' hi hb⟩
      · refine step_none rfl ?_
        have h29 : a.eval (.tmp 29) = .string vs := ha.eval_got (j := 1) (by rw [← hops]; rfl) rfl (hall ⟨1, .data⟩ (by simp) rfl)
        have h31 : a.eval (.tmp 31) = .string vt := ha.eval_got (j := 3) (by rw [← hops]; rfl) rfl (hall ⟨3, .data⟩ (by simp) rfl)
        refine opIn_call wideAt_plain (fun c h => by cases h) (f := 58) (args := #[.string vs, .string vt]) (W' := Wy) ?_ (rcmp_any vs vt Wy) ?_
        · simp only [execOp, h29, h31]
          simp [go_sem]
          try (simpa [Act.eval] using (⟨h29, h31⟩ : _ ∧ _))
        · rintro e W1 ⟨rfl, rfl⟩
          exact ⟨_, rfl, rfl, hi⟩
    case tail =>
      intro Wz hz
      subst hops
      simp only [frameOf, Act.put, Option.bind_some, List.getElem?_toArray, List.getElem?_cons_zero, List.getElem?_cons_succ, List.setIfInBounds_toArray, List.set_cons_zero, List.set_cons_succ, List.drop_succ_cons, List.drop_zero]
      have HZ := Lib.hid hz
      clear hz
      gi_wp2_with fail
      go_ret
      exact ⟨by rw [HE.out]; rfl, below_own' HZZ.out HZ.out⟩
end Go.Proofs.YtmepjbjmjbpchaaGreatDoor
end
