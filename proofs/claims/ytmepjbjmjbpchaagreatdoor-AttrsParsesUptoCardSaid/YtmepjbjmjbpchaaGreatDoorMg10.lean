/- Texts of this claim, laid together: Ar2. -/
import Derived.WalkLawsBesides
import Derived.Test.YtmepjbjmjbpchaaGreatDoorMg7
import Derived.Test.YtmepjbjmjbpchaaGreatDoorMg9
section
/- The reference: Right at an attribute, RightList. -/
namespace Go.Proofs.YtmepjbjmjbpchaaGreatDoor
open Go Go.RowKit
set_option linter.unusedVariables false
set_option linter.unusedSimpArgs false
attribute [local go_sem] Oper.semAt_some

theorem rRight_any (a : Atr) (w : World) (hl : a.Lies w) (hf : a.Fits) : Calls Tryz.prog 15 #[a.val] w fun e w' => e = .returned (.bool (rightA a)) ∧ Below w.heap.size w w' := by
  cases hb : nameOf a.name.data.toList with
  | false =>
    have e : rightA a = false := by unfold rightA; rw [hb]; simp
    rw [e]; exact rRight_no _ _ _ _ _ _ _ _ _ _ w (.inl hb)
  | true =>
    by_cases hk : 0 ≤ a.kind ∧ a.kind ≤ 5
    · have h6 : a.kind = 0 ∨ a.kind = 1 ∨ a.kind = 2 ∨ a.kind = 3 ∨ a.kind = 4 ∨ a.kind = 5 := by omega
      have hx : a.text.size ≤ 140737488355328 := by have := hf.text; omega
      have hq : ∀ s ∈ a.texts, s.size ≤ 140737488355328 := fun s hs => by have := hf.texts s hs; omega
      have hn : a.texts.length ≤ 9223372036854775807 := by have := hf.tl; omega
      have e0 : rightA a = (ownB a && aloneB a) := by unfold rightA; rw [hb]; simp [hk]
      have sm : ∀ t : Nat, (((t : Nat) : Int) == 0) = (t == 0) := fun t => by rw [Bool.eq_iff_iff]; simp
      have s100 : ∀ t : Nat, decide (((t : Nat) : Int) ≤ 100) = decide (t ≤ 100) := fun t => by rw [decide_eq_decide]; omega
      obtain ⟨nm, k, n, tx, ia, il, ic, ta, tl, tc⟩ := a
      simp only at h6 hx hq hn hb
      rw [e0]
      rcases h6 with rfl | rfl | rfl | rfl | rfl | rfl
      · cases tl with
        | nil => exact (rRight_0_none nm n tx ia il.length ic ta tc w hb).mono fun e w' ⟨he, hw⟩ => ⟨by rw [he]; simp [ownB, aloneB], hw⟩
        | cons s tl => exact (rRight_0_some nm n tx ia il.length ic ta tc w hb _ (by simp)).mono fun e w' ⟨he, hw⟩ => ⟨by rw [he]; simp [ownB, aloneB, noTextB, noListsB]; omega, hw⟩
      · exact (rRight_1 nm n tx ia il.length ic ta tl.length tc w hb).mono fun e w' ⟨he, hw⟩ => ⟨by rw [he]; simp [ownB, aloneB], hw⟩
      · exact (rRight_2 nm n tx ia il.length ic ta tl.length tc w hb).mono fun e w' ⟨he, hw⟩ => ⟨by rw [he]; simp [ownB, aloneB], hw⟩
      · exact (rRight_3 nm n tx ia il.length ic ta tl.length tc w hb hx).mono fun e w' ⟨he, hw⟩ => ⟨by rw [he]; simp [ownB, aloneB], hw⟩
      · cases tl with
        | nil => exact (rRight_4_none nm n tx ia il.length ic ta tc w hb).mono fun e w' ⟨he, hw⟩ => ⟨by rw [he, s100]; simp [ownB, aloneB], hw⟩
        | cons s tl => exact (rRight_4_some nm n tx ia il.length ic ta tc w hb _ (by simp)).mono fun e w' ⟨he, hw⟩ => ⟨by rw [he]; simp [ownB, aloneB], hw⟩
      · exact (rRight_5 nm n tx ia il.length ic ta tc w hb tl hl.texts hq hn).mono fun e w' ⟨he, hw⟩ => ⟨by rw [he, s100]; simp [ownB, aloneB], hw⟩
    · have e : rightA a = false := by unfold rightA; simp [hk]
      rw [e]; exact rRight_no _ _ _ _ _ _ _ _ _ _ w (.inr (by omega))

/-- The six cells of an attribute. -/
structure AtCells (w : World) (g o : Nat) (a : Atr) : Prop where
  c0 : w.cell? ⟨g, o, none⟩ = some (.string a.name)
  c1 : w.cell? ⟨g, o + 1, none⟩ = some (.int .i64 a.kind)
  c2 : w.cell? ⟨g, o + 2, none⟩ = some (.int .i64 a.num)
  c3 : w.cell? ⟨g, o + 3, none⟩ = some (.string a.text)
  c4 : w.cell? ⟨g, o + 4, none⟩ = some (.slice a.ia a.ints.length a.ic)
  c5 : w.cell? ⟨g, o + 5, none⟩ = some (.slice a.ta a.texts.length a.tc)
theorem AtrSl.row {w : World} {p : Option Addr} {l : List Atr} (h : AtrSl w p l) {j : Nat} (hj : j < l.length) : ∃ g off, p = some ⟨g, off, none⟩ ∧ g < w.heap.size ∧ ∀ k (hk : k < l.length), AtCells w g (off + k * 6) l[k] := by
  rcases h.at' with h | ⟨g, off, h1, h2, h3⟩
  · subst h; simp at hj
  · exact ⟨g, off, h1, h2, fun k hk => ⟨h3 k hk 0 (by omega), h3 k hk 1 (by omega), h3 k hk 2 (by omega), h3 k hk 3 (by omega), h3 k hk 4 (by omega), h3 k hk 5 (by omega)⟩⟩
theorem AtCells.below {w w1 : World} {g o : Nat} {a : Atr} (h : AtCells w g o a) (hg : g < w.heap.size) (hb : Below w.heap.size w w1) : AtCells w1 g o a :=
  ⟨(rdCell hb g hg _).trans h.c0, (rdCell hb g hg _).trans h.c1, (rdCell hb g hg _).trans h.c2, (rdCell hb g hg _).trans h.c3, (rdCell hb g hg _).trans h.c4, (rdCell hb g hg _).trans h.c5⟩

theorem all_range_succ (P : Nat → Bool) (j : Nat) : (List.range (j + 1)).all P = ((List.range j).all P && P j) := by
  rw [List.range_succ, List.all_append]; simp
theorem all_range_false {P : Nat → Bool} {n j : Nat} (hj : j < n) (h : P j = false) : (List.range n).all P = false := by
  rw [List.all_eq_false]; exact ⟨j, List.mem_range.2 hj, by rw [h]; simp⟩

set_option maxRecDepth 100000 in
set_option maxHeartbeats 8000000 in
theorem rRightList_any (p : Option Addr) (c : Nat) (l : List Atr) (w : World) (hs : AtrSl w p l) (hl : l.length ≤ 100000000000000) :
    Calls Tryz.prog 14 #[.slice p l.length c] w fun e w' => e = .returned (.bool (rightL l)) ∧ Below w.heap.size w w' := by
  have HS := Lib.hid hs
  clear hs
  refine (callsIn_wide (n := 6)).1 ?_
  refine callsIn_of_wp Tryz.func14 rfl trivial ?_ rfl
  simp only [Tryz.ntmps14, List.size_toArray, List.length_cons, List.length_nil, Nat.reduceAdd, Nat.reduceSub, Array.replicate_succ, Array.replicate_zero, List.push_toArray, List.append_toArray, List.nil_append, List.cons_append]
  gi_wp2_with fail
  gi_loopw [3] (fun i wr => ∃ j : Nat, i = .int .i64 j ∧ j ≤ l.length ∧ Below w.heap.size w wr ∧ (List.range j).all (okAt l) = true) (fun i _ => l.length - (intOf i).toNat)
  case atStart => exact ⟨0, rfl, Nat.zero_le _, Below.refl _ _, rfl⟩
  case round =>
    obtain ⟨j, rfl, hj, hb, ht⟩ := hrel
    have HB := Lib.hid hb
    have HT := Lib.hid ht
    clear hb ht
    rcases Nat.lt_or_ge j l.length with hlt | hge
    · have hsw := HS.out.below HB.out
      obtain ⟨g, off, rfl, hzg, hrow⟩ := hsw.row hlt
      obtain ⟨a0, ha0⟩ : ∃ a0, a0 = l[j] := ⟨_, rfl⟩
      have hcj := hrow j hlt
      rw [← ha0] at hcj
      have HA0 := Lib.hid ha0
      have HLI := Lib.hid (fun (W : World) (hb : Below wr.heap.size wr W) => (hsw.lies a0 (by rw [ha0]; exact List.getElem_mem _)).below hb)
      have HFI := Lib.hid (hsw.fits a0 (by rw [ha0]; exact List.getElem_mem _))
      have HROW := Lib.hid hrow
      have hj0 : (0 : Int) ≤ (j : Int) := by omega
      have hjl : (j : Int) < (l.length : Int) := by omega
      clear ha0 hrow hsw
      obtain ⟨k0, k1, k2, k3, k4, k5⟩ := hcj
      cases hr : rightA a0 with
      | false =>
        have HE : Hid (okAt l j = false) := Lib.hid (by unfold okAt; rw [List.getElem?_eq_getElem hlt, ← HA0.out]; simp [hr])
        have HR := Lib.hid hr
        clear hr
        gi_wp2_with fail
        generalize hops : (#[_, _, _, _, _, _, _, _, _, _, _, _, _, _, _, _, _, _, _, _, _, _, _, _] : Array Oper) = ops
        refine wpIn_region_inv_tail 23 (fun i => match i with | 0 => .slice (some ⟨g, off, none⟩) l.length c | 1 => .int .i64 (j : Int) | 2 => .pointer (some ⟨g, off + j * 6, none⟩) | 3 => a0.val | 4 => .bool false | 5 => .bool true | 6 => .bool true | _ => undef)
          (fun _ Wy => Below wr.heap.size wr Wy) (by kernel_rfl) (by rw [← hops]; kernel_rfl) (by rw [← hops]; kernel_rfl) (by rw [← hops]; kernel_rfl) (by rw [← hops]; decide) (by rw [← hops]; kernel_rfl) ((Below.refl _ _).drew) ?step ?tail
        case step =>
          intro i o listed a Wy ho hs hu hall ha hi hy hlt
          have old0 : a.eval (.tmp 0) = .slice (some ⟨g, off, none⟩) l.length c := by rw [ha.eval_old (noDst_spec (by rw [← hops]; kernel_rfl))]; rfl
          have old3 : a.eval (.tmp 3) = .int .i64 (j : Int) := by rw [ha.eval_old (noDst_spec (by rw [← hops]; kernel_rfl))]; rfl
          have hcase : i = 0 ∨ i = 1 ∨ i = 2 ∨ i = 3 ∨ i = 4 ∨ i = 5 ∨ i = 6 ∨ i = 7 ∨ i = 8 ∨ i = 9 ∨ i = 10 ∨ i = 11 ∨ i = 12 ∨ i = 13 ∨ i = 14 ∨ i = 15 ∨ i = 16 ∨ i = 17 ∨ i = 18 ∨ i = 19 ∨ i = 20 ∨ i = 21 ∨ i = 22 := by omega
          rcases hcase with rfl | rfl | rfl | rfl | rfl | rfl | rfl | rfl | rfl | rfl | rfl | rfl | rfl | rfl | rfl | rfl | rfl | rfl | rfl | rfl | rfl | rfl | rfl
          all_goals (have ho' := ho; rw [← hops] at ho'; simp only [List.getElem?_toArray, List.getElem?_cons_zero, List.getElem?_cons_succ, Option.some.injEq] at ho'; subst ho')
          · refine step_none rfl ?_
            refine opIn_value wideAt_plain (fun c h => by cases h) (v := .slice (some ⟨g, off, none⟩) l.length c) (W' := Wy) ?_ ⟨rfl, hi⟩
            simp only [execOp, old0]
            simp only [Sem.run_pure]
          · refine step_none rfl ?_
            refine opIn_value wideAt_plain (fun c h => by cases h) (v := .int .i64 (j : Int)) (W' := Wy) ?_ ⟨rfl, hi⟩
            simp only [execOp, old3]
            simp only [Sem.run_pure]
          · refine step_none rfl ?_
            have h10 : a.eval (.tmp 10) = .slice (some ⟨g, off, none⟩) l.length c := ha.eval_got (j := 0) (by rw [← hops]; rfl) rfl (hall ⟨0, .data⟩ (by simp) rfl)
            have h11 : a.eval (.tmp 11) = .int .i64 (j : Int) := ha.eval_got (j := 1) (by rw [← hops]; rfl) rfl (hall ⟨1, .data⟩ (by simp) rfl)
            refine opIn_value wideAt_plain (fun c h => by cases h) (v := .pointer (some ⟨g, off + j * 6, none⟩)) (W' := Wy) ?_ ⟨rfl, hi⟩
            simp only [execOp, h10, h11]
            simp [go_sem, hjl, hj0] <;> (intro h; exfalso; first | omega | (have := h (by omega); omega) | (subst h; simp at hlt))
          · refine step_none rfl ?_
            have h12 : a.eval (.tmp 12) = .pointer (some ⟨g, off + j * 6, none⟩) := ha.eval_got (j := 2) (by rw [← hops]; rfl) rfl (hall ⟨2, .data⟩ (by simp) rfl)
            refine opIn_value wideAt_plain (fun c h => by cases h) (v := a0.val) (W' := Wy) ?_ ⟨rfl, hi⟩
            simp only [execOp, h12]
            simp [go_sem, rdCell hi g hzg, k0, k1, k2, k3, k4, k5]
          · refine step_none rfl ?_
            have h13 : a.eval (.tmp 13) = a0.val := ha.eval_got (j := 3) (by rw [← hops]; rfl) rfl (hall ⟨3, .data⟩ (by simp) rfl)
            refine opIn_call wideAt_plain (fun c h => by cases h) (f := 15) (args := #[a0.val]) (W' := Wy) ?_ (rRight_any a0 Wy (HLI.out Wy hi) HFI.out) ?_
            · simp only [execOp, h13]
              simp [go_sem]
              simpa [Act.eval] using h13
            · rintro e W1 ⟨rfl, hb⟩
              exact ⟨_, rfl, by rw [HR.out]; rfl, below_own' hi hb⟩
          · refine step_none rfl ?_
            have h14 : a.eval (.tmp 14) = .bool false := ha.eval_got (j := 4) (by rw [← hops]; rfl) rfl (hall ⟨4, .data⟩ (by simp) rfl)
            refine opIn_value wideAt_plain (fun c h => by cases h) (v := .bool true) (W' := Wy) ?_ ⟨rfl, hi⟩
            simp only [execOp, h14]
            simp [go_sem]
          · refine step_none rfl ?_
            have h15 : a.eval (.tmp 15) = .bool true := ha.eval_got (j := 5) (by rw [← hops]; rfl) rfl (hall ⟨5, .data⟩ (by simp) rfl)
            refine opIn_value wideAt_plain (fun c h => by cases h) (v := .bool true) (W' := Wy) ?_ ⟨rfl, hi⟩
            simp only [execOp, h15]
            simp only [Sem.run_pure]
          · refine step_no rfl (hy 6 (hall ⟨6, .guard⟩ (by simp) rfl) ⟨_, _, by rw [← hops]; rfl, rfl⟩) ⟨fun _ _ => trivial, rfl, ?_⟩
            exact hi
          · refine step_no rfl (hy 6 (hall ⟨6, .guard⟩ (by simp) rfl) ⟨_, _, by rw [← hops]; rfl, rfl⟩) ⟨fun _ _ => trivial, rfl, ?_⟩
            exact hi
          · refine step_no rfl (hy 6 (hall ⟨6, .guard⟩ (by simp) rfl) ⟨_, _, by rw [← hops]; rfl, rfl⟩) ⟨fun _ _ => trivial, rfl, ?_⟩
            exact hi
          · refine step_undef rfl (hy 9 (hall ⟨9, .guard⟩ (by simp) rfl) ⟨_, _, by rw [← hops]; rfl, rfl⟩) ⟨fun _ _ => trivial, rfl, ?_⟩
            exact hi
          · refine step_undef rfl (hy 9 (hall ⟨9, .guard⟩ (by simp) rfl) ⟨_, _, by rw [← hops]; rfl, rfl⟩) ⟨fun _ _ => trivial, rfl, ?_⟩
            exact hi
          · refine step_undef rfl (hy 9 (hall ⟨9, .guard⟩ (by simp) rfl) ⟨_, _, by rw [← hops]; rfl, rfl⟩) ⟨fun _ _ => trivial, rfl, ?_⟩
            exact hi
          · refine step_undef rfl (hy 9 (hall ⟨9, .guard⟩ (by simp) rfl) ⟨_, _, by rw [← hops]; rfl, rfl⟩) ⟨fun _ _ => trivial, rfl, ?_⟩
            exact hi
          · refine step_undef rfl (hy 9 (hall ⟨9, .guard⟩ (by simp) rfl) ⟨_, _, by rw [← hops]; rfl, rfl⟩) ⟨fun _ _ => trivial, rfl, ?_⟩
            exact hi
          · refine step_undef rfl (hy 9 (hall ⟨9, .guard⟩ (by simp) rfl) ⟨_, _, by rw [← hops]; rfl, rfl⟩) ⟨fun _ _ => trivial, rfl, ?_⟩
            exact hi
          · refine step_undef rfl (hy 9 (hall ⟨9, .guard⟩ (by simp) rfl) ⟨_, _, by rw [← hops]; rfl, rfl⟩) ⟨fun _ _ => trivial, rfl, ?_⟩
            exact hi
          · refine step_undef rfl (hy 9 (hall ⟨9, .guard⟩ (by simp) rfl) ⟨_, _, by rw [← hops]; rfl, rfl⟩) ⟨fun _ _ => trivial, rfl, ?_⟩
            exact hi
          · refine step_undef rfl (hy 9 (hall ⟨9, .guard⟩ (by simp) rfl) ⟨_, _, by rw [← hops]; rfl, rfl⟩) ⟨fun _ _ => trivial, rfl, ?_⟩
            exact hi
          · refine step_undef rfl (hy 9 (hall ⟨9, .guard⟩ (by simp) rfl) ⟨_, _, by rw [← hops]; rfl, rfl⟩) ⟨fun _ _ => trivial, rfl, ?_⟩
            exact hi
          · refine step_undef rfl (hy 9 (hall ⟨9, .guard⟩ (by simp) rfl) ⟨_, _, by rw [← hops]; rfl, rfl⟩) ⟨fun _ _ => trivial, rfl, ?_⟩
            exact hi
          · refine step_undef rfl (hy 9 (hall ⟨9, .guard⟩ (by simp) rfl) ⟨_, _, by rw [← hops]; rfl, rfl⟩) ⟨fun _ _ => trivial, rfl, ?_⟩
            exact hi
          · refine step_no rfl (hy 6 (hall ⟨6, .guard⟩ (by simp) rfl) ⟨_, _, by rw [← hops]; rfl, rfl⟩) ⟨fun _ _ => trivial, rfl, ?_⟩
            exact hi
        case tail =>
          intro Wz hz
          subst hops
          simp only [frameOf, Act.put, Option.bind_some, List.getElem?_toArray, List.getElem?_cons_zero, List.getElem?_cons_succ, List.setIfInBounds_toArray, List.set_cons_zero, List.set_cons_succ, List.drop_succ_cons, List.drop_zero]
          have HZ := Lib.hid hz
          clear hz
          gi_wp2_with fail
          go_ret
          have hrl : rightL l = false := by unfold rightL; rw [all_range_false hlt HE.out]; simp
          exact ⟨by rw [hrl]; rfl, below_own' HB.out HZ.out⟩
      | true =>
        have HR := Lib.hid hr
        cases j with
        | zero =>
          have HE : Hid (okAt l 0 = true) := Lib.hid (by unfold okAt; rw [List.getElem?_eq_getElem hlt, ← HA0.out]; simp [hr])
          clear hr
          simp only [Nat.zero_mul, Nat.add_zero] at k0 k1 k2 k3 k4 k5
          gi_wp2_with fail
          generalize hops : (#[_, _, _, _, _, _, _, _, _, _, _, _, _, _, _, _, _, _, _, _, _, _, _, _] : Array Oper) = ops
          refine wpIn_region_inv_tail 23 (fun i => match i with | 0 => .slice (some ⟨g, off, none⟩) l.length c | 1 => .int .i64 ((0 : Nat) : Int) | 2 => .pointer (some ⟨g, off, none⟩) | 3 => a0.val | 4 => .bool true | 5 => .bool false | 6 => .bool false | 7 => .int .i64 ((0 : Nat) : Int) | 8 => .bool false | 9 => .bool false | 22 => .bool false | _ => undef)
            (fun _ Wy => Below wr.heap.size wr Wy) (by kernel_rfl) (by rw [← hops]; kernel_rfl) (by rw [← hops]; kernel_rfl) (by rw [← hops]; kernel_rfl) (by rw [← hops]; decide) (by rw [← hops]; kernel_rfl) ((Below.refl _ _).drew) ?step ?tail
          case step =>
            intro i o listed a Wy ho hs hu hall ha hi hy hlt
            have old0 : a.eval (.tmp 0) = .slice (some ⟨g, off, none⟩) l.length c := by rw [ha.eval_old (noDst_spec (by rw [← hops]; kernel_rfl))]; rfl
            have old3 : a.eval (.tmp 3) = .int .i64 ((0 : Nat) : Int) := by rw [ha.eval_old (noDst_spec (by rw [← hops]; kernel_rfl))]; rfl
            have hcase : i = 0 ∨ i = 1 ∨ i = 2 ∨ i = 3 ∨ i = 4 ∨ i = 5 ∨ i = 6 ∨ i = 7 ∨ i = 8 ∨ i = 9 ∨ i = 10 ∨ i = 11 ∨ i = 12 ∨ i = 13 ∨ i = 14 ∨ i = 15 ∨ i = 16 ∨ i = 17 ∨ i = 18 ∨ i = 19 ∨ i = 20 ∨ i = 21 ∨ i = 22 := by omega
            rcases hcase with rfl | rfl | rfl | rfl | rfl | rfl | rfl | rfl | rfl | rfl | rfl | rfl | rfl | rfl | rfl | rfl | rfl | rfl | rfl | rfl | rfl | rfl | rfl
            all_goals (have ho' := ho; rw [← hops] at ho'; simp only [List.getElem?_toArray, List.getElem?_cons_zero, List.getElem?_cons_succ, Option.some.injEq] at ho'; subst ho')
            · refine step_none rfl ?_
              refine opIn_value wideAt_plain (fun c h => by cases h) (v := .slice (some ⟨g, off, none⟩) l.length c) (W' := Wy) ?_ ⟨rfl, hi⟩
              simp only [execOp, old0]
              simp only [Sem.run_pure]
            · refine step_none rfl ?_
              refine opIn_value wideAt_plain (fun c h => by cases h) (v := .int .i64 ((0 : Nat) : Int)) (W' := Wy) ?_ ⟨rfl, hi⟩
              simp only [execOp, old3]
              simp only [Sem.run_pure]
            · refine step_none rfl ?_
              have h10 : a.eval (.tmp 10) = .slice (some ⟨g, off, none⟩) l.length c := ha.eval_got (j := 0) (by rw [← hops]; rfl) rfl (hall ⟨0, .data⟩ (by simp) rfl)
              have h11 : a.eval (.tmp 11) = .int .i64 ((0 : Nat) : Int) := ha.eval_got (j := 1) (by rw [← hops]; rfl) rfl (hall ⟨1, .data⟩ (by simp) rfl)
              refine opIn_value wideAt_plain (fun c h => by cases h) (v := .pointer (some ⟨g, off, none⟩)) (W' := Wy) ?_ ⟨rfl, hi⟩
              simp only [execOp, h10, h11]
              simp [go_sem, hjl, hj0] <;> (intro h; exfalso; first | omega | (have := h (by omega); omega) | (subst h; simp at hlt))
            · refine step_none rfl ?_
              have h12 : a.eval (.tmp 12) = .pointer (some ⟨g, off, none⟩) := ha.eval_got (j := 2) (by rw [← hops]; rfl) rfl (hall ⟨2, .data⟩ (by simp) rfl)
              refine opIn_value wideAt_plain (fun c h => by cases h) (v := a0.val) (W' := Wy) ?_ ⟨rfl, hi⟩
              simp only [execOp, h12]
              simp [go_sem, rdCell hi g hzg, k0, k1, k2, k3, k4, k5]
            · refine step_none rfl ?_
              have h13 : a.eval (.tmp 13) = a0.val := ha.eval_got (j := 3) (by rw [← hops]; rfl) rfl (hall ⟨3, .data⟩ (by simp) rfl)
              refine opIn_call wideAt_plain (fun c h => by cases h) (f := 15) (args := #[a0.val]) (W' := Wy) ?_ (rRight_any a0 Wy (HLI.out Wy hi) HFI.out) ?_
              · simp only [execOp, h13]
                simp [go_sem]
                simpa [Act.eval] using h13
              · rintro e W1 ⟨rfl, hb⟩
                exact ⟨_, rfl, by rw [HR.out]; rfl, below_own' hi hb⟩
            · refine step_none rfl ?_
              have h14 : a.eval (.tmp 14) = .bool true := ha.eval_got (j := 4) (by rw [← hops]; rfl) rfl (hall ⟨4, .data⟩ (by simp) rfl)
              refine opIn_value wideAt_plain (fun c h => by cases h) (v := .bool false) (W' := Wy) ?_ ⟨rfl, hi⟩
              simp only [execOp, h14]
              simp [go_sem]
            · refine step_none rfl ?_
              have h15 : a.eval (.tmp 15) = .bool false := ha.eval_got (j := 5) (by rw [← hops]; rfl) rfl (hall ⟨5, .data⟩ (by simp) rfl)
              refine opIn_value wideAt_plain (fun c h => by cases h) (v := .bool false) (W' := Wy) ?_ ⟨rfl, hi⟩
              simp only [execOp, h15]
              simp only [Sem.run_pure]
            · refine step_yes rfl (hy 6 (hall ⟨6, .guard⟩ (by simp) rfl) ⟨_, _, by rw [← hops]; rfl, rfl⟩) ?_
              refine opIn_value wideAt_plain (fun c h => by cases h) (v := .int .i64 ((0 : Nat) : Int)) (W' := Wy) ?_ ⟨rfl, hi⟩
              simp only [execOp, old3]
              simp only [Sem.run_pure]
            · refine step_yes rfl (hy 6 (hall ⟨6, .guard⟩ (by simp) rfl) ⟨_, _, by rw [← hops]; rfl, rfl⟩) ?_
              have h17 : a.eval (.tmp 17) = .int .i64 ((0 : Nat) : Int) := ha.eval_got (j := 7) (by rw [← hops]; rfl) rfl (hall ⟨7, .data⟩ (by simp) rfl)
              refine opIn_value wideAt_plain (fun c h => by cases h) (v := .bool false) (W' := Wy) ?_ ⟨rfl, hi⟩
              simp only [execOp, h17]
              simp [go_sem]
            · refine step_yes rfl (hy 6 (hall ⟨6, .guard⟩ (by simp) rfl) ⟨_, _, by rw [← hops]; rfl, rfl⟩) ?_
              have h18 : a.eval (.tmp 18) = .bool false := ha.eval_got (j := 8) (by rw [← hops]; rfl) rfl (hall ⟨8, .data⟩ (by simp) rfl)
              refine opIn_value wideAt_plain (fun c h => by cases h) (v := .bool false) (W' := Wy) ?_ ⟨rfl, hi⟩
              simp only [execOp, h18]
              simp only [Sem.run_pure]
            · refine step_no rfl (hy 9 (hall ⟨9, .guard⟩ (by simp) rfl) ⟨_, _, by rw [← hops]; rfl, rfl⟩) ⟨fun _ _ => trivial, rfl, ?_⟩
              exact hi
            · refine step_no rfl (hy 9 (hall ⟨9, .guard⟩ (by simp) rfl) ⟨_, _, by rw [← hops]; rfl, rfl⟩) ⟨fun _ _ => trivial, rfl, ?_⟩
              exact hi
            · refine step_no rfl (hy 9 (hall ⟨9, .guard⟩ (by simp) rfl) ⟨_, _, by rw [← hops]; rfl, rfl⟩) ⟨fun _ _ => trivial, rfl, ?_⟩
              exact hi
            · refine step_no rfl (hy 9 (hall ⟨9, .guard⟩ (by simp) rfl) ⟨_, _, by rw [← hops]; rfl, rfl⟩) ⟨fun _ _ => trivial, rfl, ?_⟩
              exact hi
            · refine step_no rfl (hy 9 (hall ⟨9, .guard⟩ (by simp) rfl) ⟨_, _, by rw [← hops]; rfl, rfl⟩) ⟨fun _ _ => trivial, rfl, ?_⟩
              exact hi
            · refine step_no rfl (hy 9 (hall ⟨9, .guard⟩ (by simp) rfl) ⟨_, _, by rw [← hops]; rfl, rfl⟩) ⟨fun _ _ => trivial, rfl, ?_⟩
              exact hi
            · refine step_no rfl (hy 9 (hall ⟨9, .guard⟩ (by simp) rfl) ⟨_, _, by rw [← hops]; rfl, rfl⟩) ⟨fun _ _ => trivial, rfl, ?_⟩
              exact hi
            · refine step_no rfl (hy 9 (hall ⟨9, .guard⟩ (by simp) rfl) ⟨_, _, by rw [← hops]; rfl, rfl⟩) ⟨fun _ _ => trivial, rfl, ?_⟩
              exact hi
            · refine step_no rfl (hy 9 (hall ⟨9, .guard⟩ (by simp) rfl) ⟨_, _, by rw [← hops]; rfl, rfl⟩) ⟨fun _ _ => trivial, rfl, ?_⟩
              exact hi
            · refine step_no rfl (hy 9 (hall ⟨9, .guard⟩ (by simp) rfl) ⟨_, _, by rw [← hops]; rfl, rfl⟩) ⟨fun _ _ => trivial, rfl, ?_⟩
              exact hi
            · refine step_no rfl (hy 9 (hall ⟨9, .guard⟩ (by simp) rfl) ⟨_, _, by rw [← hops]; rfl, rfl⟩) ⟨fun _ _ => trivial, rfl, ?_⟩
              exact hi
            · refine step_no rfl (hy 9 (hall ⟨9, .guard⟩ (by simp) rfl) ⟨_, _, by rw [← hops]; rfl, rfl⟩) ⟨fun _ _ => trivial, rfl, ?_⟩
              exact hi
            · refine step_yes rfl (hy 6 (hall ⟨6, .guard⟩ (by simp) rfl) ⟨_, _, by rw [← hops]; rfl, rfl⟩) ?_
              have h19 : a.eval (.tmp 19) = .bool false := ha.eval_got (j := 9) (by rw [← hops]; rfl) rfl (hall ⟨9, .data⟩ (by simp) rfl)
              have h31 : True := trivial
              refine opIn_value wideAt_plain (fun c h => by cases h) (v := .bool false) (W' := Wy) ?_ ⟨rfl, hi⟩
              simp only [execOp, h19]
              simp [go_sem]
          case tail =>
            intro Wz hz
            subst hops
            simp only [frameOf, Act.put, Option.bind_some, List.getElem?_toArray, List.getElem?_cons_zero, List.getElem?_cons_succ, List.setIfInBounds_toArray, List.set_cons_zero, List.set_cons_succ, List.drop_succ_cons, List.drop_zero]
            have HZ := Lib.hid hz
            clear hz
            gi_wp2_with fail
            go_roundw
            case rel => exact ⟨1, by go_num, by omega, below_own' HB.out HZ.out, by rw [all_range_succ, HT.out, HE.out]; rfl⟩
            case measure => simp [intOf]; omega
        | succ k =>
          have hkl' : k < l.length := by omega
          obtain ⟨b0, hb0⟩ : ∃ b0, b0 = l[k] := ⟨_, rfl⟩
          have hprev := (HROW.out k hkl').c0
          rw [← hb0] at hprev
          have hkl : ((k : Int) < (l.length : Int)) := by omega
          have hk0 : (0 : Int) ≤ (k : Int) := by omega
          have HE : Hid (okAt l (k + 1) = nmLt b0.name a0.name) := Lib.hid (by unfold okAt; rw [List.getElem?_eq_getElem hlt, ← HA0.out]; simp [hr, List.getElem?_eq_getElem hkl', hb0])
          clear hr hb0
          gi_wp2_with fail
          generalize hops : (#[_, _, _, _, _, _, _, _, _, _, _, _, _, _, _, _, _, _, _, _, _, _, _, _] : Array Oper) = ops
          refine wpIn_region_inv_tail 23 (fun i => match i with | 0 => .slice (some ⟨g, off, none⟩) l.length c | 1 => .int .i64 ((k + 1 : Nat) : Int) | 2 => .pointer (some ⟨g, off + (k + 1) * 6, none⟩) | 3 => a0.val | 4 => .bool true | 5 => .bool false | 6 => .bool false | 7 => .int .i64 ((k + 1 : Nat) : Int) | 8 => .bool true | 9 => .bool true | 10 => .slice (some ⟨g, off, none⟩) l.length c | 11 => .int .i64 ((k + 1 : Nat) : Int) | 12 => .int .i64 (k : Int) | 13 => .pointer (some ⟨g, off + k * 6, none⟩) | 14 => .pointer (some ⟨g, off + k * 6, none⟩) | 15 => .string b0.name | 16 => .slice (some ⟨g, off, none⟩) l.length c | 17 => .int .i64 ((k + 1 : Nat) : Int) | 18 => .pointer (some ⟨g, off + (k + 1) * 6, none⟩) | 19 => .pointer (some ⟨g, off + (k + 1) * 6, none⟩) | 20 => .string a0.name | 21 => .bool (!nmLt b0.name a0.name) | 22 => .bool (!nmLt b0.name a0.name) | _ => undef)
            (fun _ Wy => Below wr.heap.size wr Wy) (by kernel_rfl) (by rw [← hops]; kernel_rfl) (by rw [← hops]; kernel_rfl) (by rw [← hops]; kernel_rfl) (by rw [← hops]; decide) (by rw [← hops]; kernel_rfl) ((Below.refl _ _).drew) ?step ?tail
          case step =>
            intro i o listed a Wy ho hs hu hall ha hi hy hlt
            have old0 : a.eval (.tmp 0) = .slice (some ⟨g, off, none⟩) l.length c := by rw [ha.eval_old (noDst_spec (by rw [← hops]; kernel_rfl))]; rfl
            have old3 : a.eval (.tmp 3) = .int .i64 ((k + 1 : Nat) : Int) := by rw [ha.eval_old (noDst_spec (by rw [← hops]; kernel_rfl))]; rfl
            have hcase : i = 0 ∨ i = 1 ∨ i = 2 ∨ i = 3 ∨ i = 4 ∨ i = 5 ∨ i = 6 ∨ i = 7 ∨ i = 8 ∨ i = 9 ∨ i = 10 ∨ i = 11 ∨ i = 12 ∨ i = 13 ∨ i = 14 ∨ i = 15 ∨ i = 16 ∨ i = 17 ∨ i = 18 ∨ i = 19 ∨ i = 20 ∨ i = 21 ∨ i = 22 := by omega
            rcases hcase with rfl | rfl | rfl | rfl | rfl | rfl | rfl | rfl | rfl | rfl | rfl | rfl | rfl | rfl | rfl | rfl | rfl | rfl | rfl | rfl | rfl | rfl | rfl
            all_goals (have ho' := ho; rw [← hops] at ho'; simp only [List.getElem?_toArray, List.getElem?_cons_zero, List.getElem?_cons_succ, Option.some.injEq] at ho'; subst ho')
            · refine step_none rfl ?_
              refine opIn_value wideAt_plain (fun c h => by cases h) (v := .slice (some ⟨g, off, none⟩) l.length c) (W' := Wy) ?_ ⟨rfl, hi⟩
              simp only [execOp, old0]
              simp only [Sem.run_pure]
            · refine step_none rfl ?_
              refine opIn_value wideAt_plain (fun c h => by cases h) (v := .int .i64 ((k + 1 : Nat) : Int)) (W' := Wy) ?_ ⟨rfl, hi⟩
              simp only [execOp, old3]
              simp only [Sem.run_pure]
            · refine step_none rfl ?_
              have h10 : a.eval (.tmp 10) = .slice (some ⟨g, off, none⟩) l.length c := ha.eval_got (j := 0) (by rw [← hops]; rfl) rfl (hall ⟨0, .data⟩ (by simp) rfl)
              have h11 : a.eval (.tmp 11) = .int .i64 ((k + 1 : Nat) : Int) := ha.eval_got (j := 1) (by rw [← hops]; rfl) rfl (hall ⟨1, .data⟩ (by simp) rfl)
              refine opIn_value wideAt_plain (fun c h => by cases h) (v := .pointer (some ⟨g, off + (k + 1) * 6, none⟩)) (W' := Wy) ?_ ⟨rfl, hi⟩
              simp only [execOp, h10, h11]
              simp [go_sem, hjl, hj0] <;> (intro h; exfalso; first | omega | (have := h (by omega); omega) | (subst h; simp at hlt))
            · refine step_none rfl ?_
              have h12 : a.eval (.tmp 12) = .pointer (some ⟨g, off + (k + 1) * 6, none⟩) := ha.eval_got (j := 2) (by rw [← hops]; rfl) rfl (hall ⟨2, .data⟩ (by simp) rfl)
              refine opIn_value wideAt_plain (fun c h => by cases h) (v := a0.val) (W' := Wy) ?_ ⟨rfl, hi⟩
              simp only [execOp, h12]
              simp [go_sem, rdCell hi g hzg, k0, k1, k2, k3, k4, k5]
            · refine step_none rfl ?_
              have h13 : a.eval (.tmp 13) = a0.val := ha.eval_got (j := 3) (by rw [← hops]; rfl) rfl (hall ⟨3, .data⟩ (by simp) rfl)
              refine opIn_call wideAt_plain (fun c h => by cases h) (f := 15) (args := #[a0.val]) (W' := Wy) ?_ (rRight_any a0 Wy (HLI.out Wy hi) HFI.out) ?_
              · simp only [execOp, h13]
                simp [go_sem]
                simpa [Act.eval] using h13
              · rintro e W1 ⟨rfl, hb⟩
                exact ⟨_, rfl, by rw [HR.out]; rfl, below_own' hi hb⟩
            · refine step_none rfl ?_
              have h14 : a.eval (.tmp 14) = .bool true := ha.eval_got (j := 4) (by rw [← hops]; rfl) rfl (hall ⟨4, .data⟩ (by simp) rfl)
              refine opIn_value wideAt_plain (fun c h => by cases h) (v := .bool false) (W' := Wy) ?_ ⟨rfl, hi⟩
              simp only [execOp, h14]
              simp [go_sem]
            · refine step_none rfl ?_
              have h15 : a.eval (.tmp 15) = .bool false := ha.eval_got (j := 5) (by rw [← hops]; rfl) rfl (hall ⟨5, .data⟩ (by simp) rfl)
              refine opIn_value wideAt_plain (fun c h => by cases h) (v := .bool false) (W' := Wy) ?_ ⟨rfl, hi⟩
              simp only [execOp, h15]
              simp only [Sem.run_pure]
            · refine step_yes rfl (hy 6 (hall ⟨6, .guard⟩ (by simp) rfl) ⟨_, _, by rw [← hops]; rfl, rfl⟩) ?_
              refine opIn_value wideAt_plain (fun c h => by cases h) (v := .int .i64 ((k + 1 : Nat) : Int)) (W' := Wy) ?_ ⟨rfl, hi⟩
              simp only [execOp, old3]
              simp only [Sem.run_pure]
            · refine step_yes rfl (hy 6 (hall ⟨6, .guard⟩ (by simp) rfl) ⟨_, _, by rw [← hops]; rfl, rfl⟩) ?_
              have h17 : a.eval (.tmp 17) = .int .i64 ((k + 1 : Nat) : Int) := ha.eval_got (j := 7) (by rw [← hops]; rfl) rfl (hall ⟨7, .data⟩ (by simp) rfl)
              refine opIn_value wideAt_plain (fun c h => by cases h) (v := .bool true) (W' := Wy) ?_ ⟨rfl, hi⟩
              simp only [execOp, h17]
              simp [go_sem] <;> omega
            · refine step_yes rfl (hy 6 (hall ⟨6, .guard⟩ (by simp) rfl) ⟨_, _, by rw [← hops]; rfl, rfl⟩) ?_
              have h18 : a.eval (.tmp 18) = .bool true := ha.eval_got (j := 8) (by rw [← hops]; rfl) rfl (hall ⟨8, .data⟩ (by simp) rfl)
              refine opIn_value wideAt_plain (fun c h => by cases h) (v := .bool true) (W' := Wy) ?_ ⟨rfl, hi⟩
              simp only [execOp, h18]
              simp only [Sem.run_pure]
            · refine step_yes rfl (hy 9 (hall ⟨9, .guard⟩ (by simp) rfl) ⟨_, _, by rw [← hops]; rfl, rfl⟩) ?_
              refine opIn_value wideAt_plain (fun c h => by cases h) (v := .slice (some ⟨g, off, none⟩) l.length c) (W' := Wy) ?_ ⟨rfl, hi⟩
              simp only [execOp, old0]
              simp only [Sem.run_pure]
            · refine step_yes rfl (hy 9 (hall ⟨9, .guard⟩ (by simp) rfl) ⟨_, _, by rw [← hops]; rfl, rfl⟩) ?_
              refine opIn_value wideAt_plain (fun c h => by cases h) (v := .int .i64 ((k + 1 : Nat) : Int)) (W' := Wy) ?_ ⟨rfl, hi⟩
              simp only [execOp, old3]
              simp only [Sem.run_pure]
            · refine step_yes rfl (hy 9 (hall ⟨9, .guard⟩ (by simp) rfl) ⟨_, _, by rw [← hops]; rfl, rfl⟩) ?_
              have h21 : a.eval (.tmp 21) = .int .i64 ((k + 1 : Nat) : Int) := ha.eval_got (j := 11) (by rw [← hops]; rfl) rfl (hall ⟨11, .data⟩ (by simp) rfl)
              refine opIn_value wideAt_plain (fun c h => by cases h) (v := .int .i64 (k : Int)) (W' := Wy) ?_ ⟨rfl, hi⟩
              simp only [execOp, h21]
              simp [go_sem]
              exact IntWalk.i64_in _ (by omega)
            · refine step_yes rfl (hy 9 (hall ⟨9, .guard⟩ (by simp) rfl) ⟨_, _, by rw [← hops]; rfl, rfl⟩) ?_
              have h20 : a.eval (.tmp 20) = .slice (some ⟨g, off, none⟩) l.length c := ha.eval_got (j := 10) (by rw [← hops]; rfl) rfl (hall ⟨10, .data⟩ (by simp) rfl)
              have h22 : a.eval (.tmp 22) = .int .i64 (k : Int) := ha.eval_got (j := 12) (by rw [← hops]; rfl) rfl (hall ⟨12, .data⟩ (by simp) rfl)
              refine opIn_value wideAt_plain (fun c h => by cases h) (v := .pointer (some ⟨g, off + k * 6, none⟩)) (W' := Wy) ?_ ⟨rfl, hi⟩
              simp only [execOp, h20, h22]
              simp [go_sem, hkl, hk0] <;> (intro h; exfalso; first | omega | (have := h (by omega); omega) | (subst h; simp at hlt))
            · refine step_yes rfl (hy 9 (hall ⟨9, .guard⟩ (by simp) rfl) ⟨_, _, by rw [← hops]; rfl, rfl⟩) ?_
              have h23 : a.eval (.tmp 23) = .pointer (some ⟨g, off + k * 6, none⟩) := ha.eval_got (j := 13) (by rw [← hops]; rfl) rfl (hall ⟨13, .data⟩ (by simp) rfl)
              refine opIn_value wideAt_plain (fun c h => by cases h) (v := .pointer (some ⟨g, off + k * 6, none⟩)) (W' := Wy) ?_ ⟨rfl, hi⟩
              simp only [execOp, h23]
              simp [go_sem]
            · refine step_yes rfl (hy 9 (hall ⟨9, .guard⟩ (by simp) rfl) ⟨_, _, by rw [← hops]; rfl, rfl⟩) ?_
              have h24 : a.eval (.tmp 24) = .pointer (some ⟨g, off + k * 6, none⟩) := ha.eval_got (j := 14) (by rw [← hops]; rfl) rfl (hall ⟨14, .data⟩ (by simp) rfl)
              refine opIn_value wideAt_plain (fun c h => by cases h) (v := .string b0.name) (W' := Wy) ?_ ⟨rfl, hi⟩
              simp only [execOp, h24]
              simp [go_sem, rdCell hi g hzg, hprev]
            · refine step_yes rfl (hy 9 (hall ⟨9, .guard⟩ (by simp) rfl) ⟨_, _, by rw [← hops]; rfl, rfl⟩) ?_
              refine opIn_value wideAt_plain (fun c h => by cases h) (v := .slice (some ⟨g, off, none⟩) l.length c) (W' := Wy) ?_ ⟨rfl, hi⟩
              simp only [execOp, old0]
              simp only [Sem.run_pure]
            · refine step_yes rfl (hy 9 (hall ⟨9, .guard⟩ (by simp) rfl) ⟨_, _, by rw [← hops]; rfl, rfl⟩) ?_
              refine opIn_value wideAt_plain (fun c h => by cases h) (v := .int .i64 ((k + 1 : Nat) : Int)) (W' := Wy) ?_ ⟨rfl, hi⟩
              simp only [execOp, old3]
              simp only [Sem.run_pure]
            · refine step_yes rfl (hy 9 (hall ⟨9, .guard⟩ (by simp) rfl) ⟨_, _, by rw [← hops]; rfl, rfl⟩) ?_
              have h26 : a.eval (.tmp 26) = .slice (some ⟨g, off, none⟩) l.length c := ha.eval_got (j := 16) (by rw [← hops]; rfl) rfl (hall ⟨16, .data⟩ (by simp) rfl)
              have h27 : a.eval (.tmp 27) = .int .i64 ((k + 1 : Nat) : Int) := ha.eval_got (j := 17) (by rw [← hops]; rfl) rfl (hall ⟨17, .data⟩ (by simp) rfl)
              refine opIn_value wideAt_plain (fun c h => by cases h) (v := .pointer (some ⟨g, off + (k + 1) * 6, none⟩)) (W' := Wy) ?_ ⟨rfl, hi⟩
              simp only [execOp, h26, h27]
              simp [go_sem, hjl, hj0] <;> (intro h; exfalso; first | omega | (have := h (by omega); omega) | (subst h; simp at hlt))
            · refine step_yes rfl (hy 9 (hall ⟨9, .guard⟩ (by simp) rfl) ⟨_, _, by rw [← hops]; rfl, rfl⟩) ?_
              have h28 : a.eval (.tmp 28) = .pointer (some ⟨g, off + (k + 1) * 6, none⟩) := ha.eval_got (j := 18) (by rw [← hops]; rfl) rfl (hall ⟨18, .data⟩ (by simp) rfl)
              refine opIn_value wideAt_plain (fun c h => by cases h) (v := .pointer (some ⟨g, off + (k + 1) * 6, none⟩)) (W' := Wy) ?_ ⟨rfl, hi⟩
              simp only [execOp, h28]
              simp [go_sem]
            · refine step_yes rfl (hy 9 (hall ⟨9, .guard⟩ (by simp) rfl) ⟨_, _, by rw [← hops]; rfl, rfl⟩) ?_
              have h29 : a.eval (.tmp 29) = .pointer (some ⟨g, off + (k + 1) * 6, none⟩) := ha.eval_got (j := 19) (by rw [← hops]; rfl) rfl (hall ⟨19, .data⟩ (by simp) rfl)
              refine opIn_value wideAt_plain (fun c h => by cases h) (v := .string a0.name) (W' := Wy) ?_ ⟨rfl, hi⟩
              simp only [execOp, h29]
              simp [go_sem, rdCell hi g hzg, k0, k1, k2, k3, k4, k5]
            · refine step_yes rfl (hy 9 (hall ⟨9, .guard⟩ (by simp) rfl) ⟨_, _, by rw [← hops]; rfl, rfl⟩) ?_
              have h25 : a.eval (.tmp 25) = .string b0.name := ha.eval_got (j := 15) (by rw [← hops]; rfl) rfl (hall ⟨15, .data⟩ (by simp) rfl)
              have h30 : a.eval (.tmp 30) = .string a0.name := ha.eval_got (j := 20) (by rw [← hops]; rfl) rfl (hall ⟨20, .data⟩ (by simp) rfl)
              refine opIn_value wideAt_plain (fun c h => by cases h) (v := .bool (!nmLt b0.name a0.name)) (W' := Wy) ?_ ⟨rfl, hi⟩
              simp only [execOp, h25, h30]
              simp [go_sem, nmLt]
            · refine step_yes rfl (hy 6 (hall ⟨6, .guard⟩ (by simp) rfl) ⟨_, _, by rw [← hops]; rfl, rfl⟩) ?_
              have h19 : a.eval (.tmp 19) = .bool true := ha.eval_got (j := 9) (by rw [← hops]; rfl) rfl (hall ⟨9, .data⟩ (by simp) rfl)
              have h31 : a.eval (.tmp 31) = .bool (!nmLt b0.name a0.name) := ha.eval_got (j := 21) (by rw [← hops]; rfl) rfl (hall ⟨21, .data⟩ (by simp) rfl)
              refine opIn_value wideAt_plain (fun c h => by cases h) (v := .bool (!nmLt b0.name a0.name)) (W' := Wy) ?_ ⟨rfl, hi⟩
              simp only [execOp, h19, h31]
              simp [go_sem]
          case tail =>
            intro Wz hz
            subst hops
            simp only [frameOf, Act.put, Option.bind_some, List.getElem?_toArray, List.getElem?_cons_zero, List.getElem?_cons_succ, List.setIfInBounds_toArray, List.set_cons_zero, List.set_cons_succ, List.drop_succ_cons, List.drop_zero]
            have HZ := Lib.hid hz
            clear hz
            gi_wp2_with fail
            · go_ret
              have hq : nmLt b0.name a0.name = false := by simpa using (by assumption : (!nmLt b0.name a0.name) = true)
              have hrl : rightL l = false := by unfold rightL; rw [all_range_false hlt (by rw [HE.out, hq])]; simp
              exact ⟨by rw [hrl]; rfl, below_own' HB.out HZ.out⟩
            · have hq : nmLt b0.name a0.name = true := by simpa using (by assumption : (!nmLt b0.name a0.name) = false)
              go_roundw
              case rel => exact ⟨k + 2, by go_num, by omega, below_own' HB.out HZ.out, by rw [all_range_succ, HT.out, HE.out, hq]; rfl⟩
              case measure => simp [intOf]; omega
    · obtain rfl : j = l.length := by omega
      have h100 : decide (((l.length : Nat) : Int) ≤ 100) = rightL l := by unfold rightL; rw [HT.out, Bool.and_true, decide_eq_decide]; omega
      have H100 := Lib.hid h100
      clear h100
      gi_wp2_with fail
      go_ret
      exact ⟨by rw [← H100.out]; rfl, HB.out⟩
end Go.Proofs.YtmepjbjmjbpchaaGreatDoor
end
