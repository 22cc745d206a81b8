/- Texts of this claim, laid together: At4, Scope. -/
import Derived.IntWalk
import Derived.Scope
import Derived.WalkKit
import Derived.WalkMore
import Derived.Test.YtmepjbjmjbpchaaGreatDoorMg1
import Derived.Test.YtmepjbjmjbpchaaGreatDoorMg5
import Derived.Test.YtmepjbjmjbpchaaGreatDoorMg7
section
/- attrs.rising: the iterator. -/
namespace Go.Proofs.YtmepjbjmjbpchaaGreatDoor
open Go Go.RowKit
set_option linter.unusedVariables false
set_option linter.unusedSimpArgs false
attribute [local go_sem] Oper.semAt_some

theorem rising_any (p : Option Addr) (n c : Nat) (w : World) :
    Calls Tryz.prog 41 #[.slice p n c] w fun e w' => e = .returned (.func (.func 69) #[] #[.pointer (some ⟨w.heap.size, 0, none⟩)]) ∧ w.alloc (.cells #[.slice p n c] 22) = w' := by
  go_enter Tryz.func41, Tryz.ntmps41
  go_wp2_with fail
  go_ret
  exact ⟨rfl, rfl⟩

abbrev risEnc (l : List Atr) (j : Nat) : Array Value := #[((l[j]?.map Atr.val).getD undef), .bool (okAt l j)]
structure RisPre (B : Nat) (p : Option Addr) (c : Nat) (l : List Atr) (W : World) : Prop where
  box : W.heap[B]? = some (.cells #[.slice p l.length c] 22 (0, 0))
  lst : AtrSl W p l
theorem RisPre.below {B : Nat} {p : Option Addr} {c : Nat} {l : List Atr} {W W1 : World} (h : RisPre B p c l W) (hb : Below W.heap.size W W1) : RisPre B p c l W1 :=
  ⟨(hb.block _ (blkLt h.box)).trans h.box, h.lst.below hb⟩
theorem step_undef {o : Oper} {y : Nat → Option Bool} {X Y : Prop} {j : Nat} {b : Bool} (hg : o.guard = some (j, b)) (hy : y j = none) (h : Y) : if Region.wanted o y then X else Y := by rw [if_neg (by simp [Region.wanted, hg, hy])]; exact h
theorem grown_below {W W1 : World} (h : Below W.heap.size W W1) : W.grownBy W1 none := ⟨h.os, h.tape, h.output, h.size, fun k hk _ => h.block k hk⟩

set_option maxRecDepth 100000 in
set_option maxHeartbeats 8000000 in
theorem rising_seq (n B : Nat) (p : Option Addr) (c : Nat) (l : List Atr) (hl : l.length ≤ 100000000000000) (hn : 2 ≤ n) :
    SeqT Fence.wide n Tryz.prog 69 #[.pointer (some ⟨B, 0, none⟩)] (risEnc l) (fun W W' => RisPre B p c l W → RisPre B p c l W') (fun _ _ => False) (fun xs => xs = List.range l.length) (fun pre => ∃ k, k ≤ l.length ∧ pre = List.range k) (fun pre x => pre = List.range x ∧ x < l.length) (RisPre B p c l) := by
  intro yl J Jx W hW hJ hJx hY h0
  have hn1 : 1 ≤ n := by omega
  refine callsIn_of_wp Tryz.func69 rfl trivial ?_ rfl
  simp only [Tryz.ntmps69, List.size_toArray, List.length_cons, List.length_nil, Nat.reduceAdd, Nat.reduceSub, Array.replicate_succ, Array.replicate_zero, List.push_toArray, List.append_toArray, List.nil_append, List.cons_append]
  have cB := blkCell hW.box
  have HW := Lib.hid hW
  clear hW
  gi_wp2_with fail
  gi_loopw [7] (fun i wr => ∃ j : Nat, i = .int .i64 j ∧ j ≤ l.length ∧ RisPre B p c l wr ∧ J (List.range j) wr) (fun i _ => l.length - (intOf i).toNat)
  case atStart => exact ⟨0, rfl, Nat.zero_le _, HW.out, h0⟩
  case round =>
    obtain ⟨j, rfl, hj, hp, hjj⟩ := hrel
    clear cB
    rcases Nat.lt_or_ge j l.length with hlt | hge
    · obtain ⟨g, off, rfl, hg, hcell⟩ : ∃ g off, p = some ⟨g, off, none⟩ ∧ g < wr.heap.size ∧ ∀ j (hj : j < l.length) (i : Nat), i < 6 → wr.cell? ⟨g, off + j * 6 + i, none⟩ = l[j].cells[i]? := by
        rcases hp.lst.at' with h | h
        · subst h; simp at hlt
        · exact h
      obtain ⟨a0, ha0⟩ : ∃ a0, a0 = l[j] := ⟨_, rfl⟩
      have hcj := hcell j hlt
      rw [← ha0] at hcj
      have k0 : wr.cell? ⟨g, off + j * 6, none⟩ = some (.string a0.name) := hcj 0 (by omega)
      have k1 : wr.cell? ⟨g, off + j * 6 + 1, none⟩ = some (.int .i64 a0.kind) := hcj 1 (by omega)
      have k2 : wr.cell? ⟨g, off + j * 6 + 2, none⟩ = some (.int .i64 a0.num) := hcj 2 (by omega)
      have k3 : wr.cell? ⟨g, off + j * 6 + 3, none⟩ = some (.string a0.text) := hcj 3 (by omega)
      have k4 : wr.cell? ⟨g, off + j * 6 + 4, none⟩ = some (.slice a0.ia a0.ints.length a0.ic) := hcj 4 (by omega)
      have k5 : wr.cell? ⟨g, off + j * 6 + 5, none⟩ = some (.slice a0.ta a0.texts.length a0.tc) := hcj 5 (by omega)
      have HA0 := Lib.hid ha0
      have HC := Lib.hid hcell
      have HP := Lib.hid hp
      have HJJ := Lib.hid hjj
      clear ha0 hcell hcj hp hjj
      gi_wp2_with fail
      have hli : ∀ W, Below wr.heap.size wr W → a0.Lies W := fun W hb => (HP.out.lst.lies a0 (by rw [HA0.out]; exact List.getElem_mem _)).below hb
      have hfi : a0.Fits := HP.out.lst.fits a0 (by rw [HA0.out]; exact List.getElem_mem _)
      have HLI := Lib.hid hli
      have HFI := Lib.hid hfi
      clear hli hfi k0 k1 k2 k3 k4 k5
      refine wpIn_world (fun W => Below wr.heap.size wr W ∧ W.heap[wr.heap.size]? = some (.cells (avCells a0.name a0.kind a0.num a0.text a0.ia a0.ints.length a0.ic a0.ta a0.texts.length a0.tc) 27 (0, 0))) ⟨(Below.refl _ _).alloc (Nat.le_refl _) _, heap_alloc_new _ _⟩ ?_
      rintro W0 ⟨hbW0, hcW0⟩
      have hzc := blkLt hcW0
      have hB0 : W0.heap[B]? = _ := (hbW0.block _ (blkLt HP.out.box)).trans HP.out.box
      have hzB := blkLt hB0
      have hzg : g < W0.heap.size := Nat.lt_of_lt_of_le hg hbW0.size
      have HBW := Lib.hid hbW0
      clear hbW0
      generalize hops : (#[_, _, _, _, _, _, _, _, _, _, _, _, _, _, _, _, _, _, _, _, _] : Array Oper) = ops
      cases hr : rightA a0 with
      | false =>
        have HR := Lib.hid hr
        have HE : Hid (risEnc l j = #[a0.val, .bool false]) := Lib.hid (by unfold risEnc okAt; rw [List.getElem?_eq_getElem hlt, ← HA0.out]; simp [hr])
        clear hr
        refine wpIn_region_inv_tail 19 (fun i => match i with | 0 => .func (.yield yl) #[] #[] | 1 => a0.val | 2 => a0.val | 3 => .bool false | 4 => .bool false | 18 => .bool false | _ => undef)
          (fun _ Wy => Below W0.heap.size W0 Wy) (by kernel_rfl) (by rw [← hops]; kernel_rfl) (by rw [← hops]; kernel_rfl) (by rw [← hops]; kernel_rfl) (by rw [← hops]; decide) (by rw [← hops]; kernel_rfl) ((Below.refl _ _).drew) ?step ?tail
        case step =>
          intro i o listed a Wy ho hs hu hall ha hi hy hlt
          have old0 : a.eval (.tmp 0) = .func (.yield yl) #[] #[] := by rw [ha.eval_old (noDst_spec (by rw [← hops]; kernel_rfl))]; rfl
          have old1 : a.eval (.tmp 1) = .pointer (some ⟨B, 0, none⟩) := by rw [ha.eval_old (noDst_spec (by rw [← hops]; kernel_rfl))]; rfl
          have old3 : a.eval (.tmp 3) = .int .i64 (j : Int) := by rw [ha.eval_old (noDst_spec (by rw [← hops]; kernel_rfl))]; rfl
          have old4 : a.eval (.tmp 4) = .pointer (some ⟨wr.heap.size, 0, none⟩) := by rw [ha.eval_old (noDst_spec (by rw [← hops]; kernel_rfl))]; rfl
          have hcase : i = 0 ∨ i = 1 ∨ i = 2 ∨ i = 3 ∨ i = 4 ∨ i = 5 ∨ i = 6 ∨ i = 7 ∨ i = 8 ∨ i = 9 ∨ i = 10 ∨ i = 11 ∨ i = 12 ∨ i = 13 ∨ i = 14 ∨ i = 15 ∨ i = 16 ∨ i = 17 ∨ i = 18 := by omega
          rcases hcase with rfl | rfl | rfl | rfl | rfl | rfl | rfl | rfl | rfl | rfl | rfl | rfl | rfl | rfl | rfl | rfl | rfl | rfl | rfl
          all_goals (have ho' := ho; rw [← hops] at ho'; simp only [List.getElem?_toArray, List.getElem?_cons_zero, List.getElem?_cons_succ, Option.some.injEq] at ho'; subst ho')
          · refine step_none rfl ?_
            refine opIn_value wideAt_plain (fun c h => by cases h) (v := .func (.yield yl) #[] #[]) (W' := Wy) ?_ ⟨rfl, hi⟩
            simp only [execOp, old0]
            simp only [Sem.run_pure]
          · refine step_none rfl ?_
            refine opIn_value wideAt_plain (fun c h => by cases h) (v := a0.val) (W' := Wy) ?_ ⟨rfl, hi⟩
            simp only [execOp, old4]
            have hx := run_loadVar_row (P := Tryz.prog) Wy _ _ 27 _ _ _ ((hi.block _ hzc).trans hcW0) Tryz.underlying27 rfl (by kernel_rfl)
            simp only [Instr.loadAt, Instr.sureAddr, Sem.run_bind, Sem.run_pure, Result.andThen_ok, hx]
          · refine step_none rfl ?_
            refine opIn_value wideAt_plain (fun c h => by cases h) (v := a0.val) (W' := Wy) ?_ ⟨rfl, hi⟩
            simp only [execOp, old4]
            have hx := run_loadVar_row (P := Tryz.prog) Wy _ _ 27 _ _ _ ((hi.block _ hzc).trans hcW0) Tryz.underlying27 rfl (by kernel_rfl)
            simp only [Instr.loadAt, Instr.sureAddr, Sem.run_bind, Sem.run_pure, Result.andThen_ok, hx]
          · refine step_none rfl ?_
            have h14 : a.eval (.tmp 14) = a0.val := ha.eval_got (j := 2) (by rw [← hops]; rfl) rfl (hall ⟨2, .data⟩ (by simp) rfl)
            refine opIn_call wideAt_plain (fun c h => by cases h) (f := 44) (args := #[a0.val]) (W' := Wy) ?_ (isRight_any a0 Wy (HLI.out Wy (HBW.out.trans (hi.mono HBW.out.size))) HFI.out) ?_
            · simp only [execOp, h14]
              simp [go_sem]
              simpa [Act.eval] using h14
            · rintro e W1 ⟨rfl, hb⟩
              exact ⟨_, rfl, by rw [HR.out]; rfl, below_own' hi hb⟩
          · refine step_none rfl ?_
            have h15 : a.eval (.tmp 15) = .bool false := ha.eval_got (j := 3) (by rw [← hops]; rfl) rfl (hall ⟨3, .data⟩ (by simp) rfl)
            refine opIn_value wideAt_plain (fun c h => by cases h) (v := .bool false) (W' := Wy) ?_ ⟨rfl, hi⟩
            simp only [execOp, h15]
            simp only [Sem.run_pure]
          · refine step_no rfl (hy 4 (hall ⟨4, .guard⟩ (by simp) rfl) ⟨_, _, by rw [← hops]; rfl, rfl⟩) ⟨fun _ _ => trivial, rfl, ?_⟩
            exact hi
          · refine step_no rfl (hy 4 (hall ⟨4, .guard⟩ (by simp) rfl) ⟨_, _, by rw [← hops]; rfl, rfl⟩) ⟨fun _ _ => trivial, rfl, ?_⟩
            exact hi
          · refine step_no rfl (hy 4 (hall ⟨4, .guard⟩ (by simp) rfl) ⟨_, _, by rw [← hops]; rfl, rfl⟩) ⟨fun _ _ => trivial, rfl, ?_⟩
            exact hi
          · refine step_undef rfl (hy 7 (hall ⟨7, .guard⟩ (by simp) rfl) ⟨_, _, by rw [← hops]; rfl, rfl⟩) ⟨fun _ _ => trivial, rfl, ?_⟩
            exact hi
          · refine step_undef rfl (hy 7 (hall ⟨7, .guard⟩ (by simp) rfl) ⟨_, _, by rw [← hops]; rfl, rfl⟩) ⟨fun _ _ => trivial, rfl, ?_⟩
            exact hi
          · refine step_undef rfl (hy 7 (hall ⟨7, .guard⟩ (by simp) rfl) ⟨_, _, by rw [← hops]; rfl, rfl⟩) ⟨fun _ _ => trivial, rfl, ?_⟩
            exact hi
          · refine step_undef rfl (hy 7 (hall ⟨7, .guard⟩ (by simp) rfl) ⟨_, _, by rw [← hops]; rfl, rfl⟩) ⟨fun _ _ => trivial, rfl, ?_⟩
            exact hi
          · refine step_undef rfl (hy 7 (hall ⟨7, .guard⟩ (by simp) rfl) ⟨_, _, by rw [← hops]; rfl, rfl⟩) ⟨fun _ _ => trivial, rfl, ?_⟩
            exact hi
          · refine step_undef rfl (hy 7 (hall ⟨7, .guard⟩ (by simp) rfl) ⟨_, _, by rw [← hops]; rfl, rfl⟩) ⟨fun _ _ => trivial, rfl, ?_⟩
            exact hi
          · refine step_undef rfl (hy 7 (hall ⟨7, .guard⟩ (by simp) rfl) ⟨_, _, by rw [← hops]; rfl, rfl⟩) ⟨fun _ _ => trivial, rfl, ?_⟩
            exact hi
          · refine step_undef rfl (hy 7 (hall ⟨7, .guard⟩ (by simp) rfl) ⟨_, _, by rw [← hops]; rfl, rfl⟩) ⟨fun _ _ => trivial, rfl, ?_⟩
            exact hi
          · refine step_undef rfl (hy 7 (hall ⟨7, .guard⟩ (by simp) rfl) ⟨_, _, by rw [← hops]; rfl, rfl⟩) ⟨fun _ _ => trivial, rfl, ?_⟩
            exact hi
          · refine step_no rfl (hy 4 (hall ⟨4, .guard⟩ (by simp) rfl) ⟨_, _, by rw [← hops]; rfl, rfl⟩) ⟨fun _ _ => trivial, rfl, ?_⟩
            exact hi
          · refine step_none rfl ?_
            have h16 : a.eval (.tmp 16) = .bool false := ha.eval_got (j := 4) (by rw [← hops]; rfl) rfl (hall ⟨4, .data⟩ (by simp) rfl)
            have h29 : True := trivial
            refine opIn_value wideAt_plain (fun c h => by cases h) (v := .bool false) (W' := Wy) ?_ ⟨rfl, hi⟩
            simp only [execOp, h16]
            simp [go_sem]
        case tail =>
          intro Wz hz
          subst hops
          have hbz := HBW.out.trans (hz.mono HBW.out.size)
          have hjz := hJ _ _ _ none HJJ.out (grown_below hbz) (fun r e => by cases e)
          have hpz := HP.out.below hbz
          have hyy := hY (List.range j) j Wz hjz ⟨rfl, hlt⟩
          rw [show risEnc l j = #[a0.val, .bool false] from HE.out] at hyy
          obtain ⟨fn, tmps, assign, body, hy, hR⟩ := hyy
          simp only [frameOf, Act.put, Option.bind_some, List.getElem?_toArray, List.getElem?_cons_zero, List.getElem?_cons_succ, List.setIfInBounds_toArray, List.set_cons_zero, List.set_cons_succ, List.drop_succ_cons, List.drop_zero]
          gi_wp2_with fail
          refine hR.mono ?_
          rintro e W' (⟨rfl, hJ3, hk3⟩ | ⟨rfl, hJx3⟩)
          · have hpw := hk3 hpz
            have HPW := Lib.hid hpw
            rw [← List.range_succ] at hJ3
            clear hpw hpz hk3
            gi_wp2
            go_roundw
            case rel => exact ⟨j + 1, by go_num, by omega, HPW.out, hJ3⟩
            case measure => simp [intOf]; omega
          · rw [← List.range_succ] at hJx3
            gi_wp2
            refine bodyPost_ret (results_none rfl _ _ _) rfl ?_
            exact ⟨⟨_, rfl⟩, .inr ⟨_, ⟨_, by omega, rfl⟩, hJx3⟩⟩
      | true =>
        have HR := Lib.hid hr
        cases j with
        | zero =>
          have HE : Hid (risEnc l 0 = #[a0.val, .bool true]) := Lib.hid (by unfold risEnc okAt; rw [List.getElem?_eq_getElem hlt, ← HA0.out]; simp [hr])
          clear hr
          refine wpIn_region_inv_tail 19 (fun i => match i with | 0 => .func (.yield yl) #[] #[] | 1 => a0.val | 2 => a0.val | 3 => .bool true | 4 => .bool true | 5 => .int .i64 ((0 : Nat) : Int) | 6 => .bool true | 7 => .bool true | 17 => .bool true | 18 => .bool true | _ => undef)
            (fun _ Wy => Below W0.heap.size W0 Wy) (by kernel_rfl) (by rw [← hops]; kernel_rfl) (by rw [← hops]; kernel_rfl) (by rw [← hops]; kernel_rfl) (by rw [← hops]; decide) (by rw [← hops]; kernel_rfl) ((Below.refl _ _).drew) ?step ?tail
          case step =>
            intro i o listed a Wy ho hs hu hall ha hi hy hlt
            have old0 : a.eval (.tmp 0) = .func (.yield yl) #[] #[] := by rw [ha.eval_old (noDst_spec (by rw [← hops]; kernel_rfl))]; rfl
            have old1 : a.eval (.tmp 1) = .pointer (some ⟨B, 0, none⟩) := by rw [ha.eval_old (noDst_spec (by rw [← hops]; kernel_rfl))]; rfl
            have old3 : a.eval (.tmp 3) = .int .i64 ((0 : Nat) : Int) := by rw [ha.eval_old (noDst_spec (by rw [← hops]; kernel_rfl))]; rfl
            have old4 : a.eval (.tmp 4) = .pointer (some ⟨wr.heap.size, 0, none⟩) := by rw [ha.eval_old (noDst_spec (by rw [← hops]; kernel_rfl))]; rfl
            have hcase : i = 0 ∨ i = 1 ∨ i = 2 ∨ i = 3 ∨ i = 4 ∨ i = 5 ∨ i = 6 ∨ i = 7 ∨ i = 8 ∨ i = 9 ∨ i = 10 ∨ i = 11 ∨ i = 12 ∨ i = 13 ∨ i = 14 ∨ i = 15 ∨ i = 16 ∨ i = 17 ∨ i = 18 := by omega
            rcases hcase with rfl | rfl | rfl | rfl | rfl | rfl | rfl | rfl | rfl | rfl | rfl | rfl | rfl | rfl | rfl | rfl | rfl | rfl | rfl
            all_goals (have ho' := ho; rw [← hops] at ho'; simp only [List.getElem?_toArray, List.getElem?_cons_zero, List.getElem?_cons_succ, Option.some.injEq] at ho'; subst ho')
            · refine step_none rfl ?_
              refine opIn_value wideAt_plain (fun c h => by cases h) (v := .func (.yield yl) #[] #[]) (W' := Wy) ?_ ⟨rfl, hi⟩
              simp only [execOp, old0]
              simp only [Sem.run_pure]
            · refine step_none rfl ?_
              refine opIn_value wideAt_plain (fun c h => by cases h) (v := a0.val) (W' := Wy) ?_ ⟨rfl, hi⟩
              simp only [execOp, old4]
              have hx := run_loadVar_row (P := Tryz.prog) Wy _ _ 27 _ _ _ ((hi.block _ hzc).trans hcW0) Tryz.underlying27 rfl (by kernel_rfl)
              simp only [Instr.loadAt, Instr.sureAddr, Sem.run_bind, Sem.run_pure, Result.andThen_ok, hx]
            · refine step_none rfl ?_
              refine opIn_value wideAt_plain (fun c h => by cases h) (v := a0.val) (W' := Wy) ?_ ⟨rfl, hi⟩
              simp only [execOp, old4]
              have hx := run_loadVar_row (P := Tryz.prog) Wy _ _ 27 _ _ _ ((hi.block _ hzc).trans hcW0) Tryz.underlying27 rfl (by kernel_rfl)
              simp only [Instr.loadAt, Instr.sureAddr, Sem.run_bind, Sem.run_pure, Result.andThen_ok, hx]
            · refine step_none rfl ?_
              have h14 : a.eval (.tmp 14) = a0.val := ha.eval_got (j := 2) (by rw [← hops]; rfl) rfl (hall ⟨2, .data⟩ (by simp) rfl)
              refine opIn_call wideAt_plain (fun c h => by cases h) (f := 44) (args := #[a0.val]) (W' := Wy) ?_ (isRight_any a0 Wy (HLI.out Wy (HBW.out.trans (hi.mono HBW.out.size))) HFI.out) ?_
              · simp only [execOp, h14]
                simp [go_sem]
                simpa [Act.eval] using h14
              · rintro e W1 ⟨rfl, hb⟩
                exact ⟨_, rfl, by rw [HR.out]; rfl, below_own' hi hb⟩
            · refine step_none rfl ?_
              have h15 : a.eval (.tmp 15) = .bool true := ha.eval_got (j := 3) (by rw [← hops]; rfl) rfl (hall ⟨3, .data⟩ (by simp) rfl)
              refine opIn_value wideAt_plain (fun c h => by cases h) (v := .bool true) (W' := Wy) ?_ ⟨rfl, hi⟩
              simp only [execOp, h15]
              simp only [Sem.run_pure]
            · refine step_yes rfl (hy 4 (hall ⟨4, .guard⟩ (by simp) rfl) ⟨_, _, by rw [← hops]; rfl, rfl⟩) ?_
              refine opIn_value wideAt_plain (fun c h => by cases h) (v := .int .i64 ((0 : Nat) : Int)) (W' := Wy) ?_ ⟨rfl, hi⟩
              simp only [execOp, old3]
              simp only [Sem.run_pure]
            · refine step_yes rfl (hy 4 (hall ⟨4, .guard⟩ (by simp) rfl) ⟨_, _, by rw [← hops]; rfl, rfl⟩) ?_
              have h17 : a.eval (.tmp 17) = .int .i64 ((0 : Nat) : Int) := ha.eval_got (j := 5) (by rw [← hops]; rfl) rfl (hall ⟨5, .data⟩ (by simp) rfl)
              refine opIn_value wideAt_plain (fun c h => by cases h) (v := .bool true) (W' := Wy) ?_ ⟨rfl, hi⟩
              simp only [execOp, h17]
              simp [go_sem]
            · refine step_yes rfl (hy 4 (hall ⟨4, .guard⟩ (by simp) rfl) ⟨_, _, by rw [← hops]; rfl, rfl⟩) ?_
              have h18 : a.eval (.tmp 18) = .bool true := ha.eval_got (j := 6) (by rw [← hops]; rfl) rfl (hall ⟨6, .data⟩ (by simp) rfl)
              refine opIn_value wideAt_plain (fun c h => by cases h) (v := .bool true) (W' := Wy) ?_ ⟨rfl, hi⟩
              simp only [execOp, h18]
              simp only [Sem.run_pure]
            · refine step_no rfl (hy 7 (hall ⟨7, .guard⟩ (by simp) rfl) ⟨_, _, by rw [← hops]; rfl, rfl⟩) ⟨fun _ _ => trivial, rfl, ?_⟩
              exact hi
            · refine step_no rfl (hy 7 (hall ⟨7, .guard⟩ (by simp) rfl) ⟨_, _, by rw [← hops]; rfl, rfl⟩) ⟨fun _ _ => trivial, rfl, ?_⟩
              exact hi
            · refine step_no rfl (hy 7 (hall ⟨7, .guard⟩ (by simp) rfl) ⟨_, _, by rw [← hops]; rfl, rfl⟩) ⟨fun _ _ => trivial, rfl, ?_⟩
              exact hi
            · refine step_no rfl (hy 7 (hall ⟨7, .guard⟩ (by simp) rfl) ⟨_, _, by rw [← hops]; rfl, rfl⟩) ⟨fun _ _ => trivial, rfl, ?_⟩
              exact hi
            · refine step_no rfl (hy 7 (hall ⟨7, .guard⟩ (by simp) rfl) ⟨_, _, by rw [← hops]; rfl, rfl⟩) ⟨fun _ _ => trivial, rfl, ?_⟩
              exact hi
            · refine step_no rfl (hy 7 (hall ⟨7, .guard⟩ (by simp) rfl) ⟨_, _, by rw [← hops]; rfl, rfl⟩) ⟨fun _ _ => trivial, rfl, ?_⟩
              exact hi
            · refine step_no rfl (hy 7 (hall ⟨7, .guard⟩ (by simp) rfl) ⟨_, _, by rw [← hops]; rfl, rfl⟩) ⟨fun _ _ => trivial, rfl, ?_⟩
              exact hi
            · refine step_no rfl (hy 7 (hall ⟨7, .guard⟩ (by simp) rfl) ⟨_, _, by rw [← hops]; rfl, rfl⟩) ⟨fun _ _ => trivial, rfl, ?_⟩
              exact hi
            · refine step_no rfl (hy 7 (hall ⟨7, .guard⟩ (by simp) rfl) ⟨_, _, by rw [← hops]; rfl, rfl⟩) ⟨fun _ _ => trivial, rfl, ?_⟩
              exact hi
            · refine step_yes rfl (hy 4 (hall ⟨4, .guard⟩ (by simp) rfl) ⟨_, _, by rw [← hops]; rfl, rfl⟩) ?_
              have h19 : a.eval (.tmp 19) = .bool true := ha.eval_got (j := 7) (by rw [← hops]; rfl) rfl (hall ⟨7, .data⟩ (by simp) rfl)
              have h28 : True := trivial
              refine opIn_value wideAt_plain (fun c h => by cases h) (v := .bool true) (W' := Wy) ?_ ⟨rfl, hi⟩
              simp only [execOp, h19]
              simp [go_sem]
            · refine step_none rfl ?_
              have h16 : a.eval (.tmp 16) = .bool true := ha.eval_got (j := 4) (by rw [← hops]; rfl) rfl (hall ⟨4, .data⟩ (by simp) rfl)
              have h29 : a.eval (.tmp 29) = .bool true := ha.eval_got (j := 17) (by rw [← hops]; rfl) rfl (hall ⟨17, .data⟩ (by simp) rfl)
              refine opIn_value wideAt_plain (fun c h => by cases h) (v := .bool true) (W' := Wy) ?_ ⟨rfl, hi⟩
              simp only [execOp, h16, h29]
              simp [go_sem]
          case tail =>
            intro Wz hz
            subst hops
            have hbz := HBW.out.trans (hz.mono HBW.out.size)
            have hjz := hJ _ _ _ none HJJ.out (grown_below hbz) (fun r e => by cases e)
            have hpz := HP.out.below hbz
            have hyy := hY (List.range 0) 0 Wz hjz ⟨rfl, hlt⟩
            rw [show risEnc l 0 = #[a0.val, .bool true] from HE.out] at hyy
            obtain ⟨fn, tmps, assign, body, hy, hR⟩ := hyy
            simp only [frameOf, Act.put, Option.bind_some, List.getElem?_toArray, List.getElem?_cons_zero, List.getElem?_cons_succ, List.setIfInBounds_toArray, List.set_cons_zero, List.set_cons_succ, List.drop_succ_cons, List.drop_zero]
            gi_wp2_with fail
            refine hR.mono ?_
            rintro e W' (⟨rfl, hJ3, hk3⟩ | ⟨rfl, hJx3⟩)
            · have hpw := hk3 hpz
              have HPW := Lib.hid hpw
              rw [← List.range_succ] at hJ3
              clear hpw hpz hk3
              gi_wp2
              go_roundw
              case rel => exact ⟨0 + 1, by go_num, by omega, HPW.out, hJ3⟩
              case measure => simp [intOf]; omega
            · rw [← List.range_succ] at hJx3
              gi_wp2
              refine bodyPost_ret (results_none rfl _ _ _) rfl ?_
              exact ⟨⟨_, rfl⟩, .inr ⟨_, ⟨_, by omega, rfl⟩, hJx3⟩⟩
        | succ k =>
          have hkl' : k < l.length := by omega
          obtain ⟨b0, hb0⟩ : ∃ b0, b0 = l[k] := ⟨_, rfl⟩
          have hprev : W0.cell? ⟨g, off + k * 6, none⟩ = some (.string b0.name) := by
            have := HC.out k hkl' 0 (by omega)
            rw [← hb0] at this
            exact (rdCell HBW.out g hg _).trans this
          have hkl : ((k : Int) < (l.length : Int)) := by omega
          have hk0 : (0 : Int) ≤ (k : Int) := by omega
          have hj0 : (((k + 1 : Nat) : Int) == 0) = false := by rw [beq_eq_false_iff_ne]; omega
          have hsub : IntKind.i64.wrap (((k + 1 : Nat) : Int) - 1) = (k : Int) := by
            rw [show ((k + 1 : Nat) : Int) - 1 = (k : Int) by omega]; exact IntWalk.i64_in _ (by omega)
          have HE : Hid (risEnc l (k + 1) = #[a0.val, .bool (nmLt b0.name a0.name)]) := Lib.hid (by unfold risEnc okAt; rw [List.getElem?_eq_getElem hlt, ← HA0.out]; simp [hr, List.getElem?_eq_getElem hkl', hb0])
          clear hr hb0
          refine wpIn_region_inv_tail 19 (fun i => match i with | 0 => .func (.yield yl) #[] #[] | 1 => a0.val | 2 => a0.val | 3 => .bool true | 4 => .bool true | 5 => .int .i64 ((k + 1 : Nat) : Int) | 6 => .bool false | 7 => .bool false | 8 => .slice (some ⟨g, off, none⟩) l.length c | 9 => .int .i64 ((k + 1 : Nat) : Int) | 10 => .int .i64 (k : Int) | 11 => .pointer (some ⟨g, off + k * 6, none⟩) | 12 => .pointer (some ⟨g, off + k * 6, none⟩) | 13 => .string b0.name | 14 => .pointer (some ⟨wr.heap.size, 0, none⟩) | 15 => .string a0.name | 16 => .bool (nmLt b0.name a0.name) | 17 => .bool (nmLt b0.name a0.name) | 18 => .bool (nmLt b0.name a0.name) | _ => undef)
            (fun _ Wy => Below W0.heap.size W0 Wy) (by kernel_rfl) (by rw [← hops]; kernel_rfl) (by rw [← hops]; kernel_rfl) (by rw [← hops]; kernel_rfl) (by rw [← hops]; decide) (by rw [← hops]; kernel_rfl) ((Below.refl _ _).drew) ?step ?tail
          case step =>
            intro i o listed a Wy ho hs hu hall ha hi hy hlt
            have old0 : a.eval (.tmp 0) = .func (.yield yl) #[] #[] := by rw [ha.eval_old (noDst_spec (by rw [← hops]; kernel_rfl))]; rfl
            have old1 : a.eval (.tmp 1) = .pointer (some ⟨B, 0, none⟩) := by rw [ha.eval_old (noDst_spec (by rw [← hops]; kernel_rfl))]; rfl
            have old3 : a.eval (.tmp 3) = .int .i64 ((k + 1 : Nat) : Int) := by rw [ha.eval_old (noDst_spec (by rw [← hops]; kernel_rfl))]; rfl
            have old4 : a.eval (.tmp 4) = .pointer (some ⟨wr.heap.size, 0, none⟩) := by rw [ha.eval_old (noDst_spec (by rw [← hops]; kernel_rfl))]; rfl
            have hcase : i = 0 ∨ i = 1 ∨ i = 2 ∨ i = 3 ∨ i = 4 ∨ i = 5 ∨ i = 6 ∨ i = 7 ∨ i = 8 ∨ i = 9 ∨ i = 10 ∨ i = 11 ∨ i = 12 ∨ i = 13 ∨ i = 14 ∨ i = 15 ∨ i = 16 ∨ i = 17 ∨ i = 18 := by omega
            rcases hcase with rfl | rfl | rfl | rfl | rfl | rfl | rfl | rfl | rfl | rfl | rfl | rfl | rfl | rfl | rfl | rfl | rfl | rfl | rfl
            all_goals (have ho' := ho; rw [← hops] at ho'; simp only [List.getElem?_toArray, List.getElem?_cons_zero, List.getElem?_cons_succ, Option.some.injEq] at ho'; subst ho')
            · refine step_none rfl ?_
              refine opIn_value wideAt_plain (fun c h => by cases h) (v := .func (.yield yl) #[] #[]) (W' := Wy) ?_ ⟨rfl, hi⟩
              simp only [execOp, old0]
              simp only [Sem.run_pure]
            · refine step_none rfl ?_
              refine opIn_value wideAt_plain (fun c h => by cases h) (v := a0.val) (W' := Wy) ?_ ⟨rfl, hi⟩
              simp only [execOp, old4]
              have hx := run_loadVar_row (P := Tryz.prog) Wy _ _ 27 _ _ _ ((hi.block _ hzc).trans hcW0) Tryz.underlying27 rfl (by kernel_rfl)
              simp only [Instr.loadAt, Instr.sureAddr, Sem.run_bind, Sem.run_pure, Result.andThen_ok, hx]
            · refine step_none rfl ?_
              refine opIn_value wideAt_plain (fun c h => by cases h) (v := a0.val) (W' := Wy) ?_ ⟨rfl, hi⟩
              simp only [execOp, old4]
              have hx := run_loadVar_row (P := Tryz.prog) Wy _ _ 27 _ _ _ ((hi.block _ hzc).trans hcW0) Tryz.underlying27 rfl (by kernel_rfl)
              simp only [Instr.loadAt, Instr.sureAddr, Sem.run_bind, Sem.run_pure, Result.andThen_ok, hx]
            · refine step_none rfl ?_
              have h14 : a.eval (.tmp 14) = a0.val := ha.eval_got (j := 2) (by rw [← hops]; rfl) rfl (hall ⟨2, .data⟩ (by simp) rfl)
              refine opIn_call wideAt_plain (fun c h => by cases h) (f := 44) (args := #[a0.val]) (W' := Wy) ?_ (isRight_any a0 Wy (HLI.out Wy (HBW.out.trans (hi.mono HBW.out.size))) HFI.out) ?_
              · simp only [execOp, h14]
                simp [go_sem]
                simpa [Act.eval] using h14
              · rintro e W1 ⟨rfl, hb⟩
                exact ⟨_, rfl, by rw [HR.out]; rfl, below_own' hi hb⟩
            · refine step_none rfl ?_
              have h15 : a.eval (.tmp 15) = .bool true := ha.eval_got (j := 3) (by rw [← hops]; rfl) rfl (hall ⟨3, .data⟩ (by simp) rfl)
              refine opIn_value wideAt_plain (fun c h => by cases h) (v := .bool true) (W' := Wy) ?_ ⟨rfl, hi⟩
              simp only [execOp, h15]
              simp only [Sem.run_pure]
            · refine step_yes rfl (hy 4 (hall ⟨4, .guard⟩ (by simp) rfl) ⟨_, _, by rw [← hops]; rfl, rfl⟩) ?_
              refine opIn_value wideAt_plain (fun c h => by cases h) (v := .int .i64 ((k + 1 : Nat) : Int)) (W' := Wy) ?_ ⟨rfl, hi⟩
              simp only [execOp, old3]
              simp only [Sem.run_pure]
            · refine step_yes rfl (hy 4 (hall ⟨4, .guard⟩ (by simp) rfl) ⟨_, _, by rw [← hops]; rfl, rfl⟩) ?_
              have h17 : a.eval (.tmp 17) = .int .i64 ((k + 1 : Nat) : Int) := ha.eval_got (j := 5) (by rw [← hops]; rfl) rfl (hall ⟨5, .data⟩ (by simp) rfl)
              refine opIn_value wideAt_plain (fun c h => by cases h) (v := .bool false) (W' := Wy) ?_ ⟨rfl, hi⟩
              simp only [execOp, h17]
              simp [go_sem]
              omega
            · refine step_yes rfl (hy 4 (hall ⟨4, .guard⟩ (by simp) rfl) ⟨_, _, by rw [← hops]; rfl, rfl⟩) ?_
              have h18 : a.eval (.tmp 18) = .bool false := ha.eval_got (j := 6) (by rw [← hops]; rfl) rfl (hall ⟨6, .data⟩ (by simp) rfl)
              refine opIn_value wideAt_plain (fun c h => by cases h) (v := .bool false) (W' := Wy) ?_ ⟨rfl, hi⟩
              simp only [execOp, h18]
              simp only [Sem.run_pure]
            · refine step_yes rfl (hy 7 (hall ⟨7, .guard⟩ (by simp) rfl) ⟨_, _, by rw [← hops]; rfl, rfl⟩) ?_
              refine opIn_value wideAt_plain (fun c h => by cases h) (v := .slice (some ⟨g, off, none⟩) l.length c) (W' := Wy) ?_ ⟨rfl, hi⟩
              simp only [execOp, old1]
              simp [go_sem, blkCell ((hi.block _ hzB).trans hB0)]
            · refine step_yes rfl (hy 7 (hall ⟨7, .guard⟩ (by simp) rfl) ⟨_, _, by rw [← hops]; rfl, rfl⟩) ?_
              refine opIn_value wideAt_plain (fun c h => by cases h) (v := .int .i64 ((k + 1 : Nat) : Int)) (W' := Wy) ?_ ⟨rfl, hi⟩
              simp only [execOp, old3]
              simp only [Sem.run_pure]
            · refine step_yes rfl (hy 7 (hall ⟨7, .guard⟩ (by simp) rfl) ⟨_, _, by rw [← hops]; rfl, rfl⟩) ?_
              have h21 : a.eval (.tmp 21) = .int .i64 ((k + 1 : Nat) : Int) := ha.eval_got (j := 9) (by rw [← hops]; rfl) rfl (hall ⟨9, .data⟩ (by simp) rfl)
              refine opIn_value wideAt_plain (fun c h => by cases h) (v := .int .i64 (k : Int)) (W' := Wy) ?_ ⟨rfl, hi⟩
              simp only [execOp, h21]
              simp [go_sem]
              exact IntWalk.i64_in _ (by omega)
            · refine step_yes rfl (hy 7 (hall ⟨7, .guard⟩ (by simp) rfl) ⟨_, _, by rw [← hops]; rfl, rfl⟩) ?_
              have h20 : a.eval (.tmp 20) = .slice (some ⟨g, off, none⟩) l.length c := ha.eval_got (j := 8) (by rw [← hops]; rfl) rfl (hall ⟨8, .data⟩ (by simp) rfl)
              have h22 : a.eval (.tmp 22) = .int .i64 (k : Int) := ha.eval_got (j := 10) (by rw [← hops]; rfl) rfl (hall ⟨10, .data⟩ (by simp) rfl)
              refine opIn_value wideAt_plain (fun c h => by cases h) (v := .pointer (some ⟨g, off + k * 6, none⟩)) (W' := Wy) ?_ ⟨rfl, hi⟩
              simp only [execOp, h20, h22]
              simp [go_sem, hkl, hk0]
            · refine step_yes rfl (hy 7 (hall ⟨7, .guard⟩ (by simp) rfl) ⟨_, _, by rw [← hops]; rfl, rfl⟩) ?_
              have h23 : a.eval (.tmp 23) = .pointer (some ⟨g, off + k * 6, none⟩) := ha.eval_got (j := 11) (by rw [← hops]; rfl) rfl (hall ⟨11, .data⟩ (by simp) rfl)
              refine opIn_value wideAt_plain (fun c h => by cases h) (v := .pointer (some ⟨g, off + k * 6, none⟩)) (W' := Wy) ?_ ⟨rfl, hi⟩
              simp only [execOp, h23]
              simp [go_sem]
            · refine step_yes rfl (hy 7 (hall ⟨7, .guard⟩ (by simp) rfl) ⟨_, _, by rw [← hops]; rfl, rfl⟩) ?_
              have h24 : a.eval (.tmp 24) = .pointer (some ⟨g, off + k * 6, none⟩) := ha.eval_got (j := 12) (by rw [← hops]; rfl) rfl (hall ⟨12, .data⟩ (by simp) rfl)
              refine opIn_value wideAt_plain (fun c h => by cases h) (v := .string b0.name) (W' := Wy) ?_ ⟨rfl, hi⟩
              simp only [execOp, h24]
              simp [go_sem, rdCell hi g hzg, hprev]
            · refine step_yes rfl (hy 7 (hall ⟨7, .guard⟩ (by simp) rfl) ⟨_, _, by rw [← hops]; rfl, rfl⟩) ?_
              refine opIn_value wideAt_plain (fun c h => by cases h) (v := .pointer (some ⟨wr.heap.size, 0, none⟩)) (W' := Wy) ?_ ⟨rfl, hi⟩
              simp only [execOp, old4]
              simp [go_sem]
            · refine step_yes rfl (hy 7 (hall ⟨7, .guard⟩ (by simp) rfl) ⟨_, _, by rw [← hops]; rfl, rfl⟩) ?_
              have h26 : a.eval (.tmp 26) = .pointer (some ⟨wr.heap.size, 0, none⟩) := ha.eval_got (j := 14) (by rw [← hops]; rfl) rfl (hall ⟨14, .data⟩ (by simp) rfl)
              refine opIn_value wideAt_plain (fun c h => by cases h) (v := .string a0.name) (W' := Wy) ?_ ⟨rfl, hi⟩
              simp only [execOp, h26]
              simp [go_sem, blkCell ((hi.block _ hzc).trans hcW0)]
            · refine step_yes rfl (hy 7 (hall ⟨7, .guard⟩ (by simp) rfl) ⟨_, _, by rw [← hops]; rfl, rfl⟩) ?_
              have h25 : a.eval (.tmp 25) = .string b0.name := ha.eval_got (j := 13) (by rw [← hops]; rfl) rfl (hall ⟨13, .data⟩ (by simp) rfl)
              have h27 : a.eval (.tmp 27) = .string a0.name := ha.eval_got (j := 15) (by rw [← hops]; rfl) rfl (hall ⟨15, .data⟩ (by simp) rfl)
              refine opIn_value wideAt_plain (fun c h => by cases h) (v := .bool (nmLt b0.name a0.name)) (W' := Wy) ?_ ⟨rfl, hi⟩
              simp only [execOp, h25, h27]
              simp [go_sem, nmLt]
            · refine step_yes rfl (hy 4 (hall ⟨4, .guard⟩ (by simp) rfl) ⟨_, _, by rw [← hops]; rfl, rfl⟩) ?_
              have h19 : a.eval (.tmp 19) = .bool false := ha.eval_got (j := 7) (by rw [← hops]; rfl) rfl (hall ⟨7, .data⟩ (by simp) rfl)
              have h28 : a.eval (.tmp 28) = .bool (nmLt b0.name a0.name) := ha.eval_got (j := 16) (by rw [← hops]; rfl) rfl (hall ⟨16, .data⟩ (by simp) rfl)
              refine opIn_value wideAt_plain (fun c h => by cases h) (v := .bool (nmLt b0.name a0.name)) (W' := Wy) ?_ ⟨rfl, hi⟩
              simp only [execOp, h19, h28]
              simp [go_sem]
            · refine step_none rfl ?_
              have h16 : a.eval (.tmp 16) = .bool true := ha.eval_got (j := 4) (by rw [← hops]; rfl) rfl (hall ⟨4, .data⟩ (by simp) rfl)
              have h29 : a.eval (.tmp 29) = .bool (nmLt b0.name a0.name) := ha.eval_got (j := 17) (by rw [← hops]; rfl) rfl (hall ⟨17, .data⟩ (by simp) rfl)
              refine opIn_value wideAt_plain (fun c h => by cases h) (v := .bool (nmLt b0.name a0.name)) (W' := Wy) ?_ ⟨rfl, hi⟩
              simp only [execOp, h16, h29]
              simp [go_sem]
          case tail =>
            intro Wz hz
            subst hops
            have hbz := HBW.out.trans (hz.mono HBW.out.size)
            have hjz := hJ _ _ _ none HJJ.out (grown_below hbz) (fun r e => by cases e)
            have hpz := HP.out.below hbz
            have hyy := hY (List.range (k + 1)) (k + 1) Wz hjz ⟨rfl, hlt⟩
            rw [show risEnc l (k + 1) = #[a0.val, .bool (nmLt b0.name a0.name)] from HE.out] at hyy
            obtain ⟨fn, tmps, assign, body, hy, hR⟩ := hyy
            simp only [frameOf, Act.put, Option.bind_some, List.getElem?_toArray, List.getElem?_cons_zero, List.getElem?_cons_succ, List.setIfInBounds_toArray, List.set_cons_zero, List.set_cons_succ, List.drop_succ_cons, List.drop_zero]
            gi_wp2_with fail
            refine hR.mono ?_
            rintro e W' (⟨rfl, hJ3, hk3⟩ | ⟨rfl, hJx3⟩)
            · have hpw := hk3 hpz
              have HPW := Lib.hid hpw
              rw [← List.range_succ] at hJ3
              clear hpw hpz hk3
              gi_wp2
              go_roundw
              case rel => exact ⟨(k + 1) + 1, by go_num, by omega, HPW.out, hJ3⟩
              case measure => simp [intOf]; omega
            · rw [← List.range_succ] at hJx3
              gi_wp2
              refine bodyPost_ret (results_none rfl _ _ _) rfl ?_
              exact ⟨⟨_, rfl⟩, .inr ⟨_, ⟨_, by omega, rfl⟩, hJx3⟩⟩
    · obtain rfl : j = l.length := by omega
      have HJJ := Lib.hid hjj
      clear hp hjj
      gi_wp2
      go_end0
      exact ⟨⟨_, rfl⟩, .inl ⟨_, rfl, HJJ.out⟩⟩
end Go.Proofs.YtmepjbjmjbpchaaGreatDoor
end
section
/- A labelled statement's scope, in a fence. -/
namespace Go.Proofs.YtmepjbjmjbpchaaGreatDoor
open Go
section
variable {F : Fence} {n : Nat} {P : Program} {Q : Exit → Act → World → Prop} {a : Act} {w : World} {b : Frame} {k : List Item} {cs : List Frame}
theorem stepR_scope {c : Code} : step P (lone (b.atR a (.code (.scope c) :: k)) cs w) = .next (lone (b.atR a (.code c :: .inScope c :: k)) cs w) :=
  step_lone_go (by simp [stepG, stepG.exec, Frame.atR])
theorem stepR_inScope {c : Code} : step P (lone (b.atR a (.inScope c :: k)) cs w) = .next (lone (b.atR a k) cs w) :=
  step_lone_go (by simp [stepG, stepG.exec, Frame.atR])
theorem wpIn_scope {c : Code} (h : c.wpIn F n P (Exit.noGoto Q) a w) : (Code.scope c).wpIn F n P Q a w := by
  intro b k cs hro hb hr
  have h0 : (lone (b.atR a (.code (.scope c) :: k)) cs w).fenced P F := fenced_calm hb hr rfl
  obtain ⟨e, a₁, w₁, hq, harr⟩ := h b (.inScope c :: k) cs hro hb hr
  cases e with
  | normal => exact ⟨.normal, a₁, w₁, hq, .head h0 stepR_scope (StepsIn.trans harr (.one (fenced_calm hb hr rfl) stepR_inScope))⟩
  | exit id' =>
    have hx : exitTo id' (.inScope c :: k) = exitTo id' k := by simp [exitTo]
    exact ⟨.exit id', a₁, w₁, hq, fun k' hk => .head h0 stepR_scope (harr.1 k' (by rw [hx]; exact hk)),
        fun hr' hk => let ⟨k₁, h1, h2⟩ := harr.2 hr' (by rw [hx]; exact hk); ⟨k₁, h1, .head h0 stepR_scope h2⟩⟩
  | goto l => exact hq.elim
  | ret => exact ⟨_, a₁, w₁, hq, .of_steps (.one h0 stepR_scope) harr⟩
  | panic ch => exact ⟨_, a₁, w₁, hq, .of_steps (.one h0 stepR_scope) harr⟩
  | outgrown => exact ⟨_, a₁, w₁, hq, .of_steps (.one h0 stepR_scope) harr⟩
end
end Go.Proofs.YtmepjbjmjbpchaaGreatDoor
end
