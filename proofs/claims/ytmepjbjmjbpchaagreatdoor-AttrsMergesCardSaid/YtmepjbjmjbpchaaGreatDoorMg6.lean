/- Texts of this claim, laid together: Ax7, Ay0, Ay1, AwA, AwB, Ay2, Ay3. -/
import Derived.Lib.AtoiErrMem
import Derived.Deep.RegionHeld3
import Derived.Deep.Cut
import Derived.Test.YtmepjbjmjbpchaaGreatDoorMg1
import Derived.Test.YtmepjbjmjbpchaaGreatDoorMg3
import Derived.Test.YtmepjbjmjbpchaaGreatDoorMg5
section
/- The reference: Print. -/
namespace Go.Proofs.YtmepjbjmjbpchaaGreatDoor
open Go Go.RowKit
set_option linter.unusedVariables false
set_option linter.unusedSimpArgs false
attribute [local go_sem] Oper.semAt_some

theorem joinB_first {ls : List ByteArray} (h : 0 < ls.length) : joinS (ls.take 1) = (ls[0]).data.toList := joinS_first h
set_option maxRecDepth 100000 in
set_option maxHeartbeats 8000000 in
theorem rprint_any (p : Option Addr) (c : Nat) (l : List Atr) (w : World) (hs : AtrSl w p l) (hr : ∀ a ∈ l, rightA a = true) (hl : l.length ≤ 100) :
    Calls Tryz.prog 31 #[.slice p l.length c] w fun e w' => e = .returned (.string ⟨(listD (l.map Atr.dat)).toArray⟩) ∧ Below w.heap.size w w' := by
  by_cases hnil : l = []
  · subst hnil
    clear hs hr
    go_enter Tryz.func31, Tryz.ntmps31
    go_wp2_with fail
    go_ret
    exact ⟨rfl, Below.refl _ _⟩
  · have hpos : 0 < l.length := List.length_pos_iff.2 hnil
    have HS := Lib.hid hs
    have HR := Lib.hid hr
    have HNIL := Lib.hid hnil
    obtain ⟨ls, hls⟩ : ∃ ls, ls = l.map itemB := ⟨_, rfl⟩
    obtain ⟨N, hN⟩ : ∃ N, N = l.length := ⟨_, rfl⟩
    rw [← hN] at hl hpos ⊢
    have HLN : Hid (ls.length = N) := Lib.hid (by rw [hls, hN]; simp)
    have hlen : Hid (∀ j, (joinS (ls.take j)).length ≤ 2000000) := Lib.hid (fun j => by
      have h1 := items_len (l := l.take j) (fun a ha => hr a (List.mem_of_mem_take ha)) (fun a ha => hs.fits a (List.mem_of_mem_take ha)) (by simp; omega)
      rw [hls, ← List.map_take]; exact h1)
    have HLS := Lib.hid hls
    have HN := Lib.hid hN
    have hne : ((N : Int) == 0) = false := by simp; omega
    clear hs hr hls hN hnil
    refine (callsIn_wide (n := 6)).1 ?_
    refine callsIn_of_wp Tryz.func31 rfl trivial ?_ rfl
    simp only [Tryz.ntmps31, List.size_toArray, List.length_cons, List.length_nil, Nat.reduceAdd, Nat.reduceSub, Array.replicate_succ, Array.replicate_zero, List.push_toArray, List.append_toArray, List.nil_append, List.cons_append]
    gi_wp2_with fail
    gi_loopw [3, 4] (fun t i wr => ∃ (j : Nat) (st : ByteArray), i = .int .i64 j ∧ t = .string st ∧ j ≤ N ∧ st.data.toList = 123 :: joinS (ls.take j) ∧ Below w.heap.size w wr) (fun _ i _ => N - (intOf i).toNat)
    case atStart => exact ⟨0, _, rfl, rfl, Nat.zero_le _, rfl, Below.refl _ _⟩
    case round =>
      obtain ⟨j, st, rfl, rfl, hj, hst, hb⟩ := hrel
      have hsts : st.size ≤ 2000001 := by
        have h1 := hlen.out j
        have h3 := congrArg List.length hst
        have h4 : st.data.toList.length = st.size := by simp
        rw [h4, List.length_cons] at h3
        omega
      have HB := Lib.hid hb
      have HST := Lib.hid hst
      clear hst hb
      rcases Nat.lt_or_ge j N with hjn | hge
      · have hl0 : j < l.length := by rw [← HN.out]; exact hjn
        have hll : j < ls.length := by rw [HLN.out]; exact hjn
        have hsw := HS.out.below HB.out
        obtain ⟨g, off, rfl, hg, hrow⟩ := hsw.row hl0
        obtain ⟨a0, ha0⟩ : ∃ a0, a0 = l[j] := ⟨_, rfl⟩
        have hcj := hrow j hl0
        rw [← ha0] at hcj
        have hmem : a0 ∈ l := by rw [ha0]; exact List.getElem_mem _
        have HLI := Lib.hid (fun (W : World) (hb : Below wr.heap.size wr W) => (hsw.lies a0 hmem).below hb)
        have HFI := Lib.hid (hsw.fits a0 hmem)
        have HRI := Lib.hid (HR.out a0 hmem)
        have hj0 : (0 : Int) ≤ (j : Int) := by omega
        have hjl' : (j : Int) < (N : Int) := by omega
        have hn60 := rightA_name HRI.out
        have hv := valD_len HRI.out HFI.out
        have HX : Hid (itemB a0 = ls[j]) := Lib.hid (by simp only [HLS.out, List.getElem_map, ha0])
        obtain ⟨vs, hvs⟩ : ∃ vs : ByteArray, vs = ⟨(valD a0.dat).toArray⟩ := ⟨_, rfl⟩
        have hvl : vs.size ≤ 10002 := by rw [hvs]; simpa [ByteArray.size] using hv
        have HVS := Lib.hid hvs
        clear ha0 hrow hsw hmem hv hvs
        obtain ⟨k0, k1, k2, k3, k4, k5⟩ := hcj
        rcases Nat.eq_zero_or_pos j with h0 | h0
        · have HF := Lib.hid (joinS_first (ls := ls) (by omega))
          subst h0
          simp only [Nat.zero_mul, Nat.add_zero] at k0 k1 k2 k3 k4 k5
          gi_wp2_with fail
          generalize hops : (#[_, _, _, _, _, _, _, _, _, _, _, _, _, _, _] : Array Oper) = ops
          refine wpIn_region_inv_tail 14 (fun i => match i with | 0 => .string (st) | 1 => .slice (some ⟨g, off, none⟩) N c | 2 => .int .i64 ((0 : Nat) : Int) | 3 => .pointer (some ⟨g, off, none⟩) | 4 => .pointer (some ⟨g, off, none⟩) | 5 => .string a0.name | 6 => .string (st ++ a0.name) | 7 => .string (st ++ a0.name ++ ⟨#[32, 61, 32]⟩) | 8 => .slice (some ⟨g, off, none⟩) N c | 9 => .int .i64 ((0 : Nat) : Int) | 10 => .pointer (some ⟨g, off, none⟩) | 11 => a0.val | 12 => .string vs | 13 => .string (st ++ a0.name ++ ⟨#[32, 61, 32]⟩ ++ vs) | _ => undef)
            (fun lst Wy => (Below wr.heap.size wr Wy) ∧ Late 14 lst) (by kernel_rfl) (by rw [← hops]; kernel_rfl) (by rw [← hops]; kernel_rfl) (by rw [← hops]; kernel_rfl) (by rw [← hops]; decide) (by rw [← hops]; kernel_rfl) (⟨(Below.refl _ _).drew, late_start (by rw [← hops]; decide)⟩) ?step ?tail
          case step =>
            intro i o listed a Wy ho hs hu hall ha hi hy hlt
            have hlate := hi.2; replace hi := hi.1
            have old0 : a.eval (.tmp 0) = .slice (some ⟨g, off, none⟩) N c := by rw [ha.eval_old (noDst_spec (by rw [← hops]; kernel_rfl))]; rfl
            have old3 : a.eval (.tmp 3) = .string (st) := by rw [ha.eval_late (k := 14) (by rw [← hops]; kernel_rfl) hlate]; rfl
            have old4 : a.eval (.tmp 4) = .int .i64 ((0 : Nat) : Int) := by rw [ha.eval_old (noDst_spec (by rw [← hops]; kernel_rfl))]; rfl
            have hcase : i = 0 ∨ i = 1 ∨ i = 2 ∨ i = 3 ∨ i = 4 ∨ i = 5 ∨ i = 6 ∨ i = 7 ∨ i = 8 ∨ i = 9 ∨ i = 10 ∨ i = 11 ∨ i = 12 ∨ i = 13 := by omega
            rcases hcase with rfl | rfl | rfl | rfl | rfl | rfl | rfl | rfl | rfl | rfl | rfl | rfl | rfl | rfl
            all_goals (have ho' := ho; rw [← hops] at ho'; simp only [List.getElem?_toArray, List.getElem?_cons_zero, List.getElem?_cons_succ, Option.some.injEq] at ho'; subst ho')
            · refine step_none rfl ?_
              refine opIn_value wideAt_plain (fun c h => by cases h) (v := .string (st)) (W' := Wy) ?_ ⟨rfl, ⟨hi, late_set hlate (by decide)⟩⟩
              simp only [execOp, old3]
              simp only [Sem.run_pure]
            · refine step_none rfl ?_
              refine opIn_value wideAt_plain (fun c h => by cases h) (v := .slice (some ⟨g, off, none⟩) N c) (W' := Wy) ?_ ⟨rfl, ⟨hi, late_set hlate (by decide)⟩⟩
              simp only [execOp, old0]
              simp only [Sem.run_pure]
            · refine step_none rfl ?_
              refine opIn_value wideAt_plain (fun c h => by cases h) (v := .int .i64 ((0 : Nat) : Int)) (W' := Wy) ?_ ⟨rfl, ⟨hi, late_set hlate (by decide)⟩⟩
              simp only [execOp, old4]
              simp only [Sem.run_pure]
            · refine step_none rfl ?_
              have h19 : a.eval (.tmp 19) = .slice (some ⟨g, off, none⟩) N c := ha.eval_got (j := 1) (by rw [← hops]; rfl) rfl (hall ⟨1, .data⟩ (by simp) rfl)
              have h20 : a.eval (.tmp 20) = .int .i64 ((0 : Nat) : Int) := ha.eval_got (j := 2) (by rw [← hops]; rfl) rfl (hall ⟨2, .data⟩ (by simp) rfl)
              refine opIn_value wideAt_plain (fun c h => by cases h) (v := .pointer (some ⟨g, off, none⟩)) (W' := Wy) ?_ ⟨rfl, ⟨hi, late_set hlate (by decide)⟩⟩
              simp only [execOp, h19, h20]
              simp [go_sem, hjl', hj0] <;> (intro h; exfalso; first | omega | (have := h (by omega); omega))
            · refine step_none rfl ?_
              have h21 : a.eval (.tmp 21) = .pointer (some ⟨g, off, none⟩) := ha.eval_got (j := 3) (by rw [← hops]; rfl) rfl (hall ⟨3, .data⟩ (by simp) rfl)
              refine opIn_value wideAt_plain (fun c h => by cases h) (v := .pointer (some ⟨g, off, none⟩)) (W' := Wy) ?_ ⟨rfl, ⟨hi, late_set hlate (by decide)⟩⟩
              simp only [execOp, h21]
              simp [go_sem]
            · refine step_none rfl ?_
              have h22 : a.eval (.tmp 22) = .pointer (some ⟨g, off, none⟩) := ha.eval_got (j := 4) (by rw [← hops]; rfl) rfl (hall ⟨4, .data⟩ (by simp) rfl)
              refine opIn_value wideAt_plain (fun c h => by cases h) (v := .string a0.name) (W' := Wy) ?_ ⟨rfl, ⟨hi, late_set hlate (by decide)⟩⟩
              simp only [execOp, h22]
              simp [go_sem, rdCell hi g hg, k0, k1, k2, k3, k4, k5]
            · refine step_none rfl ?_
              have h18 : a.eval (.tmp 18) = .string (st) := ha.eval_got (j := 0) (by rw [← hops]; rfl) rfl (hall ⟨0, .data⟩ (by simp) rfl)
              have h23 : a.eval (.tmp 23) = .string a0.name := ha.eval_got (j := 5) (by rw [← hops]; rfl) rfl (hall ⟨5, .data⟩ (by simp) rfl)
              refine opIn_value wideAt_plain (fun c h => by cases h) (v := .string (st ++ a0.name)) (W' := Wy) ?_ ⟨rfl, ⟨hi, late_set hlate (by decide)⟩⟩
              simp only [execOp, h18, h23]
              have z3 : (ByteArray.mk #[32, 61, 32]).size = 3 := rfl
              have z2 : (ByteArray.mk #[44, 32]).size = 2 := rfl
              simp [go_sem, ByteArray.size_append]
              omega
            · refine step_none rfl ?_
              have h24 : a.eval (.tmp 24) = .string (st ++ a0.name) := ha.eval_got (j := 6) (by rw [← hops]; rfl) rfl (hall ⟨6, .data⟩ (by simp) rfl)
              refine opIn_value wideAt_plain (fun c h => by cases h) (v := .string (st ++ a0.name ++ ⟨#[32, 61, 32]⟩)) (W' := Wy) ?_ ⟨rfl, ⟨hi, late_set hlate (by decide)⟩⟩
              simp only [execOp, h24]
              have z3 : (ByteArray.mk #[32, 61, 32]).size = 3 := rfl
              have z2 : (ByteArray.mk #[44, 32]).size = 2 := rfl
              simp [go_sem, ByteArray.size_append]
              omega
            · refine step_none rfl ?_
              refine opIn_value wideAt_plain (fun c h => by cases h) (v := .slice (some ⟨g, off, none⟩) N c) (W' := Wy) ?_ ⟨rfl, ⟨hi, late_set hlate (by decide)⟩⟩
              simp only [execOp, old0]
              simp only [Sem.run_pure]
            · refine step_none rfl ?_
              refine opIn_value wideAt_plain (fun c h => by cases h) (v := .int .i64 ((0 : Nat) : Int)) (W' := Wy) ?_ ⟨rfl, ⟨hi, late_set hlate (by decide)⟩⟩
              simp only [execOp, old4]
              simp only [Sem.run_pure]
            · refine step_none rfl ?_
              have h26 : a.eval (.tmp 26) = .slice (some ⟨g, off, none⟩) N c := ha.eval_got (j := 8) (by rw [← hops]; rfl) rfl (hall ⟨8, .data⟩ (by simp) rfl)
              have h27 : a.eval (.tmp 27) = .int .i64 ((0 : Nat) : Int) := ha.eval_got (j := 9) (by rw [← hops]; rfl) rfl (hall ⟨9, .data⟩ (by simp) rfl)
              refine opIn_value wideAt_plain (fun c h => by cases h) (v := .pointer (some ⟨g, off, none⟩)) (W' := Wy) ?_ ⟨rfl, ⟨hi, late_set hlate (by decide)⟩⟩
              simp only [execOp, h26, h27]
              simp [go_sem, hjl', hj0] <;> (intro h; exfalso; first | omega | (have := h (by omega); omega))
            · refine step_none rfl ?_
              have h28 : a.eval (.tmp 28) = .pointer (some ⟨g, off, none⟩) := ha.eval_got (j := 10) (by rw [← hops]; rfl) rfl (hall ⟨10, .data⟩ (by simp) rfl)
              refine opIn_value wideAt_plain (fun c h => by cases h) (v := a0.val) (W' := Wy) ?_ ⟨rfl, ⟨hi, late_set hlate (by decide)⟩⟩
              simp only [execOp, h28]
              simp [go_sem, rdCell hi g hg, k0, k1, k2, k3, k4, k5]
            · refine step_none rfl ?_
              have h29 : a.eval (.tmp 29) = a0.val := ha.eval_got (j := 11) (by rw [← hops]; rfl) rfl (hall ⟨11, .data⟩ (by simp) rfl)
              refine opIn_call wideAt_plain (fun c h => by cases h) (f := 33) (args := #[a0.val]) (W' := Wy) ?_ (rvalue_any a0 Wy (HLI.out Wy hi) HFI.out HRI.out) ?_
              · simp only [execOp, h29]
                simp [go_sem]
                simpa [Act.eval] using h29
              · rintro e W1 ⟨rfl, hb⟩
                exact ⟨_, rfl, by rw [HVS.out]; rfl, below_own' hi hb, late_set hlate (by decide)⟩
            · refine step_none rfl ?_
              have h25 : a.eval (.tmp 25) = .string (st ++ a0.name ++ ⟨#[32, 61, 32]⟩) := ha.eval_got (j := 7) (by rw [← hops]; rfl) rfl (hall ⟨7, .data⟩ (by simp) rfl)
              have h30 : a.eval (.tmp 30) = .string vs := ha.eval_got (j := 12) (by rw [← hops]; rfl) rfl (hall ⟨12, .data⟩ (by simp) rfl)
              refine opIn_value wideAt_plain (fun c h => by cases h) (v := .string (st ++ a0.name ++ ⟨#[32, 61, 32]⟩ ++ vs)) (W' := Wy) ?_ ⟨rfl, ⟨hi, late_set hlate (by decide)⟩⟩
              simp only [execOp, h25, h30]
              have z3 : (ByteArray.mk #[32, 61, 32]).size = 3 := rfl
              have z2 : (ByteArray.mk #[44, 32]).size = 2 := rfl
              simp [go_sem, ByteArray.size_append]
              omega
          case tail =>
            intro Wz hz
            replace hz := hz.1
            subst hops
            simp only [frameOf, Act.put, Option.bind_some, List.getElem?_toArray, List.getElem?_cons_zero, List.getElem?_cons_succ, List.setIfInBounds_toArray, List.set_cons_zero, List.set_cons_succ, List.drop_succ_cons, List.drop_zero]
            have HZ := Lib.hid hz
            clear hz
            gi_wp2_with fail
            go_roundw
            case rel =>
              refine ⟨1, _, by go_num, rfl, by omega, ?_, below_own' HB.out HZ.out⟩
              rw [HF.out, ← HX.out]
              simp [HST.out, itemB, HVS.out, joinS, Lib.join_nil]
            case measure => simp [intOf]; omega
        · have HF := Lib.hid (joinS_snoc (ls := ls) hll h0)
          have h0i : (0 : Int) < (j : Int) := by omega
          gi_wp2_with fail
          generalize hops : (#[_, _, _, _, _, _, _, _, _, _, _, _, _, _, _] : Array Oper) = ops
          refine wpIn_region_inv_tail 14 (fun i => match i with | 0 => .string ((st ++ ⟨#[44, 32]⟩)) | 1 => .slice (some ⟨g, off, none⟩) N c | 2 => .int .i64 (j : Int) | 3 => .pointer (some ⟨g, off + j * 6, none⟩) | 4 => .pointer (some ⟨g, off + j * 6, none⟩) | 5 => .string a0.name | 6 => .string ((st ++ ⟨#[44, 32]⟩) ++ a0.name) | 7 => .string ((st ++ ⟨#[44, 32]⟩) ++ a0.name ++ ⟨#[32, 61, 32]⟩) | 8 => .slice (some ⟨g, off, none⟩) N c | 9 => .int .i64 (j : Int) | 10 => .pointer (some ⟨g, off + j * 6, none⟩) | 11 => a0.val | 12 => .string vs | 13 => .string ((st ++ ⟨#[44, 32]⟩) ++ a0.name ++ ⟨#[32, 61, 32]⟩ ++ vs) | _ => undef)
            (fun lst Wy => (Below wr.heap.size wr Wy) ∧ Late 14 lst) (by kernel_rfl) (by rw [← hops]; kernel_rfl) (by rw [← hops]; kernel_rfl) (by rw [← hops]; kernel_rfl) (by rw [← hops]; decide) (by rw [← hops]; kernel_rfl) (⟨(Below.refl _ _).drew, late_start (by rw [← hops]; decide)⟩) ?step ?tail
          case step =>
            intro i o listed a Wy ho hs hu hall ha hi hy hlt
            have hlate := hi.2; replace hi := hi.1
            have old0 : a.eval (.tmp 0) = .slice (some ⟨g, off, none⟩) N c := by rw [ha.eval_old (noDst_spec (by rw [← hops]; kernel_rfl))]; rfl
            have old3 : a.eval (.tmp 3) = .string ((st ++ ⟨#[44, 32]⟩)) := by rw [ha.eval_late (k := 14) (by rw [← hops]; kernel_rfl) hlate]; rfl
            have old4 : a.eval (.tmp 4) = .int .i64 (j : Int) := by rw [ha.eval_old (noDst_spec (by rw [← hops]; kernel_rfl))]; rfl
            have hcase : i = 0 ∨ i = 1 ∨ i = 2 ∨ i = 3 ∨ i = 4 ∨ i = 5 ∨ i = 6 ∨ i = 7 ∨ i = 8 ∨ i = 9 ∨ i = 10 ∨ i = 11 ∨ i = 12 ∨ i = 13 := by omega
            rcases hcase with rfl | rfl | rfl | rfl | rfl | rfl | rfl | rfl | rfl | rfl | rfl | rfl | rfl | rfl
            all_goals (have ho' := ho; rw [← hops] at ho'; simp only [List.getElem?_toArray, List.getElem?_cons_zero, List.getElem?_cons_succ, Option.some.injEq] at ho'; subst ho')
            · refine step_none rfl ?_
              refine opIn_value wideAt_plain (fun c h => by cases h) (v := .string ((st ++ ⟨#[44, 32]⟩))) (W' := Wy) ?_ ⟨rfl, ⟨hi, late_set hlate (by decide)⟩⟩
              simp only [execOp, old3]
              simp only [Sem.run_pure]
            · refine step_none rfl ?_
              refine opIn_value wideAt_plain (fun c h => by cases h) (v := .slice (some ⟨g, off, none⟩) N c) (W' := Wy) ?_ ⟨rfl, ⟨hi, late_set hlate (by decide)⟩⟩
              simp only [execOp, old0]
              simp only [Sem.run_pure]
            · refine step_none rfl ?_
              refine opIn_value wideAt_plain (fun c h => by cases h) (v := .int .i64 (j : Int)) (W' := Wy) ?_ ⟨rfl, ⟨hi, late_set hlate (by decide)⟩⟩
              simp only [execOp, old4]
              simp only [Sem.run_pure]
            · refine step_none rfl ?_
              have h19 : a.eval (.tmp 19) = .slice (some ⟨g, off, none⟩) N c := ha.eval_got (j := 1) (by rw [← hops]; rfl) rfl (hall ⟨1, .data⟩ (by simp) rfl)
              have h20 : a.eval (.tmp 20) = .int .i64 (j : Int) := ha.eval_got (j := 2) (by rw [← hops]; rfl) rfl (hall ⟨2, .data⟩ (by simp) rfl)
              refine opIn_value wideAt_plain (fun c h => by cases h) (v := .pointer (some ⟨g, off + j * 6, none⟩)) (W' := Wy) ?_ ⟨rfl, ⟨hi, late_set hlate (by decide)⟩⟩
              simp only [execOp, h19, h20]
              simp [go_sem, hjl', hj0] <;> (intro h; exfalso; first | omega | (have := h (by omega); omega))
            · refine step_none rfl ?_
              have h21 : a.eval (.tmp 21) = .pointer (some ⟨g, off + j * 6, none⟩) := ha.eval_got (j := 3) (by rw [← hops]; rfl) rfl (hall ⟨3, .data⟩ (by simp) rfl)
              refine opIn_value wideAt_plain (fun c h => by cases h) (v := .pointer (some ⟨g, off + j * 6, none⟩)) (W' := Wy) ?_ ⟨rfl, ⟨hi, late_set hlate (by decide)⟩⟩
              simp only [execOp, h21]
              simp [go_sem]
            · refine step_none rfl ?_
              have h22 : a.eval (.tmp 22) = .pointer (some ⟨g, off + j * 6, none⟩) := ha.eval_got (j := 4) (by rw [← hops]; rfl) rfl (hall ⟨4, .data⟩ (by simp) rfl)
              refine opIn_value wideAt_plain (fun c h => by cases h) (v := .string a0.name) (W' := Wy) ?_ ⟨rfl, ⟨hi, late_set hlate (by decide)⟩⟩
              simp only [execOp, h22]
              simp [go_sem, rdCell hi g hg, k0, k1, k2, k3, k4, k5]
            · refine step_none rfl ?_
              have h18 : a.eval (.tmp 18) = .string ((st ++ ⟨#[44, 32]⟩)) := ha.eval_got (j := 0) (by rw [← hops]; rfl) rfl (hall ⟨0, .data⟩ (by simp) rfl)
              have h23 : a.eval (.tmp 23) = .string a0.name := ha.eval_got (j := 5) (by rw [← hops]; rfl) rfl (hall ⟨5, .data⟩ (by simp) rfl)
              refine opIn_value wideAt_plain (fun c h => by cases h) (v := .string ((st ++ ⟨#[44, 32]⟩) ++ a0.name)) (W' := Wy) ?_ ⟨rfl, ⟨hi, late_set hlate (by decide)⟩⟩
              simp only [execOp, h18, h23]
              have z3 : (ByteArray.mk #[32, 61, 32]).size = 3 := rfl
              have z2 : (ByteArray.mk #[44, 32]).size = 2 := rfl
              simp [go_sem, ByteArray.size_append]
              omega
            · refine step_none rfl ?_
              have h24 : a.eval (.tmp 24) = .string ((st ++ ⟨#[44, 32]⟩) ++ a0.name) := ha.eval_got (j := 6) (by rw [← hops]; rfl) rfl (hall ⟨6, .data⟩ (by simp) rfl)
              refine opIn_value wideAt_plain (fun c h => by cases h) (v := .string ((st ++ ⟨#[44, 32]⟩) ++ a0.name ++ ⟨#[32, 61, 32]⟩)) (W' := Wy) ?_ ⟨rfl, ⟨hi, late_set hlate (by decide)⟩⟩
              simp only [execOp, h24]
              have z3 : (ByteArray.mk #[32, 61, 32]).size = 3 := rfl
              have z2 : (ByteArray.mk #[44, 32]).size = 2 := rfl
              simp [go_sem, ByteArray.size_append]
              omega
            · refine step_none rfl ?_
              refine opIn_value wideAt_plain (fun c h => by cases h) (v := .slice (some ⟨g, off, none⟩) N c) (W' := Wy) ?_ ⟨rfl, ⟨hi, late_set hlate (by decide)⟩⟩
              simp only [execOp, old0]
              simp only [Sem.run_pure]
            · refine step_none rfl ?_
              refine opIn_value wideAt_plain (fun c h => by cases h) (v := .int .i64 (j : Int)) (W' := Wy) ?_ ⟨rfl, ⟨hi, late_set hlate (by decide)⟩⟩
              simp only [execOp, old4]
              simp only [Sem.run_pure]
            · refine step_none rfl ?_
              have h26 : a.eval (.tmp 26) = .slice (some ⟨g, off, none⟩) N c := ha.eval_got (j := 8) (by rw [← hops]; rfl) rfl (hall ⟨8, .data⟩ (by simp) rfl)
              have h27 : a.eval (.tmp 27) = .int .i64 (j : Int) := ha.eval_got (j := 9) (by rw [← hops]; rfl) rfl (hall ⟨9, .data⟩ (by simp) rfl)
              refine opIn_value wideAt_plain (fun c h => by cases h) (v := .pointer (some ⟨g, off + j * 6, none⟩)) (W' := Wy) ?_ ⟨rfl, ⟨hi, late_set hlate (by decide)⟩⟩
              simp only [execOp, h26, h27]
              simp [go_sem, hjl', hj0] <;> (intro h; exfalso; first | omega | (have := h (by omega); omega))
            · refine step_none rfl ?_
              have h28 : a.eval (.tmp 28) = .pointer (some ⟨g, off + j * 6, none⟩) := ha.eval_got (j := 10) (by rw [← hops]; rfl) rfl (hall ⟨10, .data⟩ (by simp) rfl)
              refine opIn_value wideAt_plain (fun c h => by cases h) (v := a0.val) (W' := Wy) ?_ ⟨rfl, ⟨hi, late_set hlate (by decide)⟩⟩
              simp only [execOp, h28]
              simp [go_sem, rdCell hi g hg, k0, k1, k2, k3, k4, k5]
            · refine step_none rfl ?_
              have h29 : a.eval (.tmp 29) = a0.val := ha.eval_got (j := 11) (by rw [← hops]; rfl) rfl (hall ⟨11, .data⟩ (by simp) rfl)
              refine opIn_call wideAt_plain (fun c h => by cases h) (f := 33) (args := #[a0.val]) (W' := Wy) ?_ (rvalue_any a0 Wy (HLI.out Wy hi) HFI.out HRI.out) ?_
              · simp only [execOp, h29]
                simp [go_sem]
                simpa [Act.eval] using h29
              · rintro e W1 ⟨rfl, hb⟩
                exact ⟨_, rfl, by rw [HVS.out]; rfl, below_own' hi hb, late_set hlate (by decide)⟩
            · refine step_none rfl ?_
              have h25 : a.eval (.tmp 25) = .string ((st ++ ⟨#[44, 32]⟩) ++ a0.name ++ ⟨#[32, 61, 32]⟩) := ha.eval_got (j := 7) (by rw [← hops]; rfl) rfl (hall ⟨7, .data⟩ (by simp) rfl)
              have h30 : a.eval (.tmp 30) = .string vs := ha.eval_got (j := 12) (by rw [← hops]; rfl) rfl (hall ⟨12, .data⟩ (by simp) rfl)
              refine opIn_value wideAt_plain (fun c h => by cases h) (v := .string ((st ++ ⟨#[44, 32]⟩) ++ a0.name ++ ⟨#[32, 61, 32]⟩ ++ vs)) (W' := Wy) ?_ ⟨rfl, ⟨hi, late_set hlate (by decide)⟩⟩
              simp only [execOp, h25, h30]
              have z3 : (ByteArray.mk #[32, 61, 32]).size = 3 := rfl
              have z2 : (ByteArray.mk #[44, 32]).size = 2 := rfl
              simp [go_sem, ByteArray.size_append]
              omega
          case tail =>
            intro Wz hz
            replace hz := hz.1
            subst hops
            simp only [frameOf, Act.put, Option.bind_some, List.getElem?_toArray, List.getElem?_cons_zero, List.getElem?_cons_succ, List.setIfInBounds_toArray, List.set_cons_zero, List.set_cons_succ, List.drop_succ_cons, List.drop_zero]
            have HZ := Lib.hid hz
            clear hz
            gi_wp2_with fail
            go_roundw
            case rel =>
              refine ⟨j + 1, _, by go_num, rfl, by omega, ?_, below_own' HB.out HZ.out⟩
              rw [HF.out, ← HX.out]
              simp [HST.out, itemB, HVS.out, joinS, Lib.join_nil]
            case measure => simp [intOf]; omega
      · have HJ : Hid (j = N) := Lib.hid (by omega)
        gi_wp2_with fail
        go_ret
        refine ⟨?_, HB.out⟩
        have e1 : st ++ ⟨#[125]⟩ = ⟨(listD (l.map Atr.dat)).toArray⟩ := by
          apply ByteArray.ext
          apply Array.ext'
          have h1 := HST.out
          rw [List.take_of_length_le (by rw [HLN.out, HJ.out]; exact Nat.le_refl _)] at h1
          have hm : ls.map (fun x => x.data.toList) = (l.map Atr.dat).map itemD := by
            rw [HLS.out, List.map_map, List.map_map]; apply List.map_congr_left; intro a _; exact itemB_list a
          rw [listD, if_neg (by simpa using HNIL.out), ← hm]
          simp [h1, joinS]
        exact congrArg (fun t => Ending.returned (.string t)) e1
end Go.Proofs.YtmepjbjmjbpchaaGreatDoor
end
section
/- Comparing kinds, the first that is not 0, the reference's cmp. -/
namespace Go.Proofs.YtmepjbjmjbpchaaGreatDoor
open Go Go.RowKit
set_option linter.unusedVariables false
set_option linter.unusedSimpArgs false

/-- cmp.Compare at kinds. -/
def kCmp (a b : Int) : Int := if a < b then -1 else if b < a then 1 else 0
theorem isNaNK_any (k : Int) (w : World) : Calls Tryz.prog 81 #[.int .i64 k] w fun e w' => e = .returned (.bool false) ∧ w = w' := by
  go_enter Tryz.func81, Tryz.ntmps81
  go_wp2_with fail
  go_ret
  exact ⟨by simp, rfl⟩
theorem compareK_any (a b : Int) (w : World) : Calls Tryz.prog 57 #[.int .i64 a, .int .i64 b] w fun e w' => e = .returned (.int .i64 (kCmp a b)) ∧ w = w' := by
  have h3 : a < b ∨ (¬ a < b ∧ b < a) ∨ (¬ a < b ∧ ¬ b < a) := by omega
  rcases h3 with h | ⟨h, h2⟩ | ⟨h, h2⟩
  · have hv : Hid (kCmp a b = -1) := Lib.hid (by unfold kCmp; rw [if_pos h])
    go_enter Tryz.func57, Tryz.ntmps57
    go_wp2_with (go_at_call 81; refine (isNaNK_any _ _).mono ?_; rintro e w1 ⟨rfl, rfl⟩)
    go_ret
    exact ⟨by rw [hv.out]; rfl, rfl⟩
  · have hv : Hid (kCmp a b = 1) := Lib.hid (by unfold kCmp; rw [if_neg h, if_pos h2])
    go_enter Tryz.func57, Tryz.ntmps57
    go_wp2_with (go_at_call 81; refine (isNaNK_any _ _).mono ?_; rintro e w1 ⟨rfl, rfl⟩)
    go_ret
    exact ⟨by rw [hv.out]; rfl, rfl⟩
  · have hv : Hid (kCmp a b = 0) := Lib.hid (by unfold kCmp; rw [if_neg h, if_neg h2])
    go_enter Tryz.func57, Tryz.ntmps57
    go_wp2_with (go_at_call 81; refine (isNaNK_any _ _).mono ?_; rintro e w1 ⟨rfl, rfl⟩)
    go_ret
    exact ⟨by rw [hv.out]; rfl, rfl⟩
theorem rcmp_any (s t : ByteArray) (w : World) : Calls Tryz.prog 58 #[.string s, .string t] w fun e w' => e = .returned (.int .i64 (nmCmp s t)) ∧ w = w' := by
  have h3 : (nmLt s t = true) ∨ (nmLt s t = false ∧ nmLt t s = true) ∨ (nmLt s t = false ∧ nmLt t s = false) := by
    cases h : nmLt s t
    · cases h2 : nmLt t s
      · exact .inr (.inr ⟨rfl, rfl⟩)
      · exact .inr (.inl ⟨rfl, rfl⟩)
    · exact .inl rfl
  have hd : nmCmp s t = if nmLt s t then -1 else if nmLt t s then 1 else 0 := rfl
  rcases h3 with h | ⟨h, h2⟩ | ⟨h, h2⟩
  · have hv : Hid (nmCmp s t = -1) := Lib.hid (by rw [hd, h]; rfl)
    have hb : Op.bytesLess s.toList t.toList = true := h
    clear h hd
    go_enter Tryz.func58, Tryz.ntmps58
    go_wp2_with fail
    go_ret
    exact ⟨by rw [hv.out]; rfl, rfl⟩
  · have hv : Hid (nmCmp s t = 1) := Lib.hid (by rw [hd, h, h2]; rfl)
    have hb : Op.bytesLess s.toList t.toList = false := h
    have hb2 : Op.bytesLess t.toList s.toList = true := h2
    have he : (s.toList == t.toList) = false := by
      rw [toList_beq, decide_eq_false_iff_not]; rintro rfl; rw [nm_irrefl] at h2; cases h2
    clear h h2 hd
    go_enter Tryz.func58, Tryz.ntmps58
    go_wp2_with fail
    go_ret
    exact ⟨by rw [hv.out]; rfl, rfl⟩
  · have hv : Hid (nmCmp s t = 0) := Lib.hid (by rw [hd, h, h2]; rfl)
    obtain rfl := nm_total h h2
    have hb : Op.bytesLess s.toList s.toList = false := h
    clear h h2 hd
    go_enter Tryz.func58, Tryz.ntmps58
    go_wp2_with fail
    go_ret
    exact ⟨by rw [hv.out]; rfl, rfl⟩
/-- The first of three that is not 0. -/
def orI (x y z : Int) : Int := if x ≠ 0 then x else if y ≠ 0 then y else z
set_option maxRecDepth 100000 in
theorem or_any (g : Nat) (x y z : Int) (w : World) (h0 : w.cell? ⟨g, 0, none⟩ = some (.int .i64 x)) (h1 : w.cell? ⟨g, 1, none⟩ = some (.int .i64 y)) (h2 : w.cell? ⟨g, 2, none⟩ = some (.int .i64 z)) :
    Calls Tryz.prog 55 #[.slice (some ⟨g, 0, none⟩) 3 3] w fun e w' => e = .returned (.int .i64 (orI x y z)) ∧ w = w' := by
  go_enter Tryz.func55, Tryz.ntmps55
  go_wp2_with fail
  go_loop [8] (fun i => (i = .int .i64 0) ∨ (i = .int .i64 1 ∧ x = 0) ∨ (i = .int .i64 2 ∧ x = 0 ∧ y = 0) ∨ (i = .int .i64 3 ∧ x = 0 ∧ y = 0 ∧ z = 0)) (fun i => 3 - (intOf i).toNat)
  case atStart => exact .inl rfl
  case round =>
    rcases hrel with rfl | ⟨rfl, hx⟩ | ⟨rfl, hx, hy⟩ | ⟨rfl, hx, hy, hz⟩
    · by_cases hx : x = 0
      · have HX := Lib.hid hx
        have hb : (x != 0) = false := by simpa using hx
        clear hx
        go_wp2_with fail
        go_round
        case rel => exact .inr (.inl ⟨rfl, HX.out⟩)
        case measure => simp [intOf]
      · have hb : (x != 0) = true := by simpa using hx
        have HX := Lib.hid hx
        clear hx
        go_wp2_with fail
        go_ret
        exact ⟨by rw [orI, if_pos HX.out]; rfl, rfl⟩
    · have HX := Lib.hid hx
      clear hx
      by_cases hy : y = 0
      · have HY := Lib.hid hy
        have hb : (y != 0) = false := by simpa using hy
        clear hy
        go_wp2_with fail
        go_round
        case rel => exact .inr (.inr (.inl ⟨rfl, HX.out, HY.out⟩))
        case measure => simp [intOf]
      · have hb : (y != 0) = true := by simpa using hy
        have HY := Lib.hid hy
        clear hy
        go_wp2_with fail
        go_ret
        exact ⟨by rw [orI, if_neg (by simpa using HX.out), if_pos HY.out]; rfl, rfl⟩
    · have HX := Lib.hid hx
      have HY := Lib.hid hy
      clear hx hy
      by_cases hz : z = 0
      · have HZ := Lib.hid hz
        have hb : (z != 0) = false := by simpa using hz
        clear hz
        go_wp2_with fail
        go_round
        case rel => exact .inr (.inr (.inr ⟨rfl, HX.out, HY.out, HZ.out⟩))
        case measure => simp [intOf]
      · have hb : (z != 0) = true := by simpa using hz
        have HZ := Lib.hid hz
        clear hz
        go_wp2_with fail
        go_ret
        exact ⟨by rw [orI, if_neg (by simpa using HX.out), if_neg (by simpa using HY.out)]; rfl, rfl⟩
    · have HX : Hid (orI x y z = 0) := Lib.hid (by rw [orI, if_neg (by simpa using hx), if_neg (by simpa using hy), hz])
      clear hx hy hz
      go_wp2_with fail
      go_ret
      exact ⟨by rw [HX.out]; rfl, rfl⟩
end Go.Proofs.YtmepjbjmjbpchaaGreatDoor
end
section
/- attrs.Cmp, attrs.Equal. -/
namespace Go.Proofs.YtmepjbjmjbpchaaGreatDoor
open Go Go.RowKit
set_option linter.unusedVariables false
set_option linter.unusedSimpArgs false
attribute [local go_sem] Oper.semAt_some

def valB (a : Atr) : ByteArray := ⟨(valD a.dat).toArray⟩
/-- The order of attributes. -/
def cmpA (a b : Atr) : Int := orI (nmCmp a.name b.name) (kCmp a.kind b.kind) (nmCmp (valB a) (valB b))
def CmpPost (a b : Atr) (w : World) (e : Ending) (w' : World) : Prop :=
  e = .returned (.tuple #[.int .i64 (if rightA a && rightA b then cmpA a b else 0), .int .i64 (if rightA a && rightA b then 0 else 20)]) ∧ Below w.heap.size w w'
set_option maxRecDepth 100000 in
set_option maxHeartbeats 8000000 in
theorem cmpA_any (x y : Atr) (w : World) (ha : x.Lies w) (hb : y.Lies w) (fa : x.Fits) (fb : y.Fits) (hp : Pow w) :
    Calls Tryz.prog 28 #[x.val, y.val] w (CmpPost x y w) := by
  have HA := Lib.hid (fun (W : World) (h : Below w.heap.size w W) => ha.below h)
  have HB := Lib.hid (fun (W : World) (h : Below w.heap.size w W) => hb.below h)
  have HP := Lib.hid hp
  have FA := Lib.hid fa
  have FB := Lib.hid fb
  unfold CmpPost
  obtain ⟨ra, hra⟩ : ∃ ra, ra = rightA x := ⟨_, rfl⟩
  obtain ⟨rb, hrb⟩ : ∃ rb, rb = rightA y := ⟨_, rfl⟩
  rw [← hra, ← hrb]
  have RA := Lib.hid hra
  have RB := Lib.hid hrb
  clear ha hb hp fa fb hra hrb
  cases ra with
  | false =>
    go_enter Tryz.func28, Tryz.ntmps28
    go_wp2_with (go_at_call 44; refine (isRight_any x _ (HA.out _ ?_) FA.out).mono ?_; (focus ((repeat (first | (with_reducible refine below_set ?_ (by first | exact Nat.le_refl _ | omega) _ _) | with_reducible exact Below.refl _ _ | with_reducible refine belowA ?_ _ | with_reducible refine belowD ?_ | with_reducible refine belowN ?_ _)); done)); rintro e w1 ⟨rfl, hb1⟩; rw [← RA.out])
    go_ret2
    exact ⟨rfl, by (repeat (first | (with_reducible refine below_set ?_ (by first | exact Nat.le_refl _ | omega) _ _) | with_reducible exact Below.refl _ _ | with_reducible refine belowA ?_ _ | with_reducible refine below_own' ?_ hb1 | with_reducible refine belowD ?_ | with_reducible refine belowN ?_ _))⟩
  | true =>
    cases rb with
    | false =>
      go_enter Tryz.func28, Tryz.ntmps28
      go_wp2_with (first
        | (have tok := tok1; clear tok tok1; go_at_call 44; refine (isRight_any y _ (HB.out _ ?_) FB.out).mono ?_; (focus ((repeat (first | (with_reducible refine below_set ?_ (by first | exact Nat.le_refl _ | omega) _ _) | with_reducible exact Below.refl _ _ | with_reducible refine belowA ?_ _ | with_reducible refine below_own' ?_ hb1 | with_reducible refine belowD ?_ | with_reducible refine belowN ?_ _)); done)); rintro e w2 ⟨rfl, hb2⟩; rw [← RB.out])
        | (go_at_call 44; refine (isRight_any x _ (HA.out _ ?_) FA.out).mono ?_; (focus ((repeat (first | (with_reducible refine below_set ?_ (by first | exact Nat.le_refl _ | omega) _ _) | with_reducible exact Below.refl _ _ | with_reducible refine belowA ?_ _ | with_reducible refine belowD ?_ | with_reducible refine belowN ?_ _)); done)); rintro e w1 ⟨rfl, hb1⟩; rw [← RA.out]; have tok1 : True := trivial; have c1 := rdCell hb1 (w.heap.size + 1) (by first | (simp; done) | (simp; omega))))
      go_ret2
      exact ⟨rfl, by (repeat (first | (with_reducible refine below_set ?_ (by first | exact Nat.le_refl _ | omega) _ _) | with_reducible exact Below.refl _ _ | with_reducible refine belowA ?_ _ | with_reducible refine below_own' ?_ hb2 | with_reducible refine below_own' ?_ hb1 | with_reducible refine belowD ?_ | with_reducible refine belowN ?_ _))⟩
    | true =>
      obtain ⟨vs, hvs⟩ : ∃ vs, vs = valB x := ⟨_, rfl⟩
      obtain ⟨vt, hvt⟩ : ∃ vt, vt = valB y := ⟨_, rfl⟩
      have VS := Lib.hid hvs
      have VT := Lib.hid hvt
      have hcm : Hid (cmpA x y = orI (nmCmp x.name y.name) (kCmp x.kind y.kind) (nmCmp vs vt)) := Lib.hid (by rw [cmpA, hvs, hvt])
      clear hvs hvt
      refine (callsIn_wide (n := 6)).1 ?_
      refine callsIn_of_wp Tryz.func28 rfl trivial ?_ rfl
      simp only [Tryz.ntmps28, List.size_toArray, List.length_cons, List.length_nil, Nat.reduceAdd, Nat.reduceSub, Array.replicate_succ, Array.replicate_zero, List.push_toArray, List.append_toArray, List.nil_append, List.cons_append]
      gi_wp2_with (first
        | (have tok := tok1; clear tok tok1; refine ⟨trivial, ?_⟩; gi_at_call 44; refine (callsIn_wide.2 (isRight_any y _ (HB.out _ ?_) FB.out)).mono ?_; (focus ((repeat (first | (with_reducible refine below_set ?_ (by first | exact Nat.le_refl _ | omega) _ _) | with_reducible exact Below.refl _ _ | with_reducible refine belowA ?_ _ | with_reducible refine below_own' ?_ hb1 | with_reducible refine belowD ?_ | with_reducible refine belowN ?_ _)); done)); rintro e w2 ⟨rfl, hb2⟩; rw [← RB.out])
        | (refine ⟨trivial, ?_⟩; gi_at_call 44; refine (callsIn_wide.2 (isRight_any x _ (HA.out _ ?_) FA.out)).mono ?_; (focus ((repeat (first | (with_reducible refine below_set ?_ (by first | exact Nat.le_refl _ | omega) _ _) | with_reducible exact Below.refl _ _ | with_reducible refine belowA ?_ _ | with_reducible refine belowD ?_ | with_reducible refine belowN ?_ _)); done)); rintro e w1 ⟨rfl, hb1⟩; rw [← RA.out]; have tok1 : True := trivial; have c1 := rdCell hb1 (w.heap.size + 1) (by first | (simp; done) | (simp; omega))))
      have HZZ : Hid (Below w.heap.size w w2) := Lib.hid (by (repeat (first | (with_reducible refine below_set ?_ (by first | exact Nat.le_refl _ | omega) _ _) | with_reducible exact Below.refl _ _ | with_reducible refine belowA ?_ _ | with_reducible refine below_own' ?_ hb2 | with_reducible refine below_own' ?_ hb1 | with_reducible refine belowD ?_ | with_reducible refine belowN ?_ _)))
      have hs1 : w.heap.size + 1 < w1.heap.size := (by have := Below.size hb1; simp at this; omega)
      have hs2 : w.heap.size + 1 < w2.heap.size := by have := hb2.size; omega
      have hsa : w.heap.size < w2.heap.size := by omega
      have kk : w2.cell? ⟨w.heap.size, 0, none⟩ = some (.string x.name) ∧ w2.cell? ⟨w.heap.size, 0 + 1, none⟩ = some (.int .i64 x.kind) ∧ w2.cell? ⟨w.heap.size, 0 + 2, none⟩ = some (.int .i64 x.num) ∧ w2.cell? ⟨w.heap.size, 0 + 3, none⟩ = some (.string x.text) ∧ w2.cell? ⟨w.heap.size, 0 + 4, none⟩ = some (.slice x.ia x.ints.length x.ic) ∧ w2.cell? ⟨w.heap.size, 0 + 5, none⟩ = some (.slice x.ta x.texts.length x.tc) := by
        refine ⟨?_, ?_, ?_, ?_, ?_, ?_⟩ <;> (rw [rdCell hb2 w.heap.size (by omega), rdCell hb1 w.heap.size (by simp; omega)]; simp [go_sem])
      have qq : w2.cell? ⟨w.heap.size + 1, 0, none⟩ = some (.string y.name) ∧ w2.cell? ⟨w.heap.size + 1, 0 + 1, none⟩ = some (.int .i64 y.kind) ∧ w2.cell? ⟨w.heap.size + 1, 0 + 2, none⟩ = some (.int .i64 y.num) ∧ w2.cell? ⟨w.heap.size + 1, 0 + 3, none⟩ = some (.string y.text) ∧ w2.cell? ⟨w.heap.size + 1, 0 + 4, none⟩ = some (.slice y.ia y.ints.length y.ic) ∧ w2.cell? ⟨w.heap.size + 1, 0 + 5, none⟩ = some (.slice y.ta y.texts.length y.tc) := by
        refine ⟨?_, ?_, ?_, ?_, ?_, ?_⟩ <;> (rw [rdCell hb2 (w.heap.size + 1) (by omega), rdCell hb1 (w.heap.size + 1) (by simp)]; simp [go_sem])
      obtain ⟨k0, k1, k2, k3, k4, k5⟩ := kk
      obtain ⟨q0, q1, q2, q3, q4, q5⟩ := qq
      clear hb1 hb2
      generalize hops : (#[_, _, _, _, _, _, _, _, _, _, _, _, _, _, _, _, _, _, _] : Array Oper) = ops
      refine wpIn_region_inv_tail 15 (fun i => match i with | 0 => .pointer (some ⟨w.heap.size, 0, none⟩) | 1 => .string x.name | 2 => .pointer (some ⟨w.heap.size + 1, 0, none⟩) | 3 => .string y.name | 4 => .int .i64 (nmCmp x.name y.name) | 5 => .pointer (some ⟨w.heap.size, 1, none⟩) | 6 => .int .i64 x.kind | 7 => .pointer (some ⟨w.heap.size + 1, 1, none⟩) | 8 => .int .i64 y.kind | 9 => .int .i64 (kCmp x.kind y.kind) | 10 => x.val | 11 => .string vs | 12 => y.val | 13 => .string vt | 14 => .int .i64 (nmCmp vs vt) | _ => undef)
        (fun lst Wy => Below w2.heap.size w2 Wy) (by kernel_rfl) (by rw [← hops]; kernel_rfl) (by rw [← hops]; kernel_rfl) (by rw [← hops]; kernel_rfl) (by rw [← hops]; decide) (by rw [← hops]; kernel_rfl) ((Below.refl _ _).drew) ?step ?tail
      case step =>
        intro i o listed a Wy ho hs hu hall ha hi hy hlt
        have old2 : a.eval (.tmp 2) = .pointer (some ⟨w.heap.size, 0, none⟩) := by rw [ha.eval_old (noDst_spec (by rw [← hops]; kernel_rfl))]; rfl
        have old3 : a.eval (.tmp 3) = .pointer (some ⟨w.heap.size + 1, 0, none⟩) := by rw [ha.eval_old (noDst_spec (by rw [← hops]; kernel_rfl))]; rfl
        have hcase : i = 0 ∨ i = 1 ∨ i = 2 ∨ i = 3 ∨ i = 4 ∨ i = 5 ∨ i = 6 ∨ i = 7 ∨ i = 8 ∨ i = 9 ∨ i = 10 ∨ i = 11 ∨ i = 12 ∨ i = 13 ∨ i = 14 := by omega
        rcases hcase with rfl | rfl | rfl | rfl | rfl | rfl | rfl | rfl | rfl | rfl | rfl | rfl | rfl | rfl | rfl
        all_goals (have ho' := ho; rw [← hops] at ho'; simp only [List.getElem?_toArray, List.getElem?_cons_zero, List.getElem?_cons_succ, Option.some.injEq] at ho'; subst ho')
        · refine step_none rfl ?_
          refine opIn_value wideAt_plain (fun c h => by cases h) (v := .pointer (some ⟨w.heap.size, 0, none⟩)) (W' := Wy) ?_ ⟨rfl, hi⟩
          simp only [execOp, old2]
          simp [go_sem]
        · refine step_none rfl ?_
          have h14 : a.eval (.tmp 14) = .pointer (some ⟨w.heap.size, 0, none⟩) := ha.eval_got (j := 0) (by rw [← hops]; rfl) rfl (hall ⟨0, .data⟩ (by simp) rfl)
          refine opIn_value wideAt_plain (fun c h => by cases h) (v := .string x.name) (W' := Wy) ?_ ⟨rfl, hi⟩
          simp only [execOp, h14]
          simp [go_sem, rdCell hi w.heap.size hsa, k0, k1, k2, k3, k4, k5]
        · refine step_none rfl ?_
          refine opIn_value wideAt_plain (fun c h => by cases h) (v := .pointer (some ⟨w.heap.size + 1, 0, none⟩)) (W' := Wy) ?_ ⟨rfl, hi⟩
          simp only [execOp, old3]
          simp [go_sem]
        · refine step_none rfl ?_
          have h16 : a.eval (.tmp 16) = .pointer (some ⟨w.heap.size + 1, 0, none⟩) := ha.eval_got (j := 2) (by rw [← hops]; rfl) rfl (hall ⟨2, .data⟩ (by simp) rfl)
          refine opIn_value wideAt_plain (fun c h => by cases h) (v := .string y.name) (W' := Wy) ?_ ⟨rfl, hi⟩
          simp only [execOp, h16]
          simp [go_sem, rdCell hi (w.heap.size + 1) hs2, q0, q1, q2, q3, q4, q5]
        · refine step_none rfl ?_
          have h15 : a.eval (.tmp 15) = .string x.name := ha.eval_got (j := 1) (by rw [← hops]; rfl) rfl (hall ⟨1, .data⟩ (by simp) rfl)
          have h17 : a.eval (.tmp 17) = .string y.name := ha.eval_got (j := 3) (by rw [← hops]; rfl) rfl (hall ⟨3, .data⟩ (by simp) rfl)
          refine opIn_call wideAt_plain (fun c h => by cases h) (f := 56) (args := #[.string x.name, .string y.name]) (W' := Wy) ?_ (compare_any x.name y.name Wy) ?_
          · simp only [execOp, h15, h17]
            simp [go_sem]
            try (simpa [Act.eval] using (⟨h15, h17⟩ : _ ∧ _))
          · rintro e W1 ⟨rfl, rfl⟩
            exact ⟨_, rfl, rfl, hi⟩
        · refine step_none rfl ?_
          refine opIn_value wideAt_plain (fun c h => by cases h) (v := .pointer (some ⟨w.heap.size, 1, none⟩)) (W' := Wy) ?_ ⟨rfl, hi⟩
          simp only [execOp, old2]
          simp [go_sem]
        · refine step_none rfl ?_
          have h19 : a.eval (.tmp 19) = .pointer (some ⟨w.heap.size, 1, none⟩) := ha.eval_got (j := 5) (by rw [← hops]; rfl) rfl (hall ⟨5, .data⟩ (by simp) rfl)
          refine opIn_value wideAt_plain (fun c h => by cases h) (v := .int .i64 x.kind) (W' := Wy) ?_ ⟨rfl, hi⟩
          simp only [execOp, h19]
          simp [go_sem, rdCell hi w.heap.size hsa, k0, k1, k2, k3, k4, k5]
        · refine step_none rfl ?_
          refine opIn_value wideAt_plain (fun c h => by cases h) (v := .pointer (some ⟨w.heap.size + 1, 1, none⟩)) (W' := Wy) ?_ ⟨rfl, hi⟩
          simp only [execOp, old3]
          simp [go_sem]
        · refine step_none rfl ?_
          have h21 : a.eval (.tmp 21) = .pointer (some ⟨w.heap.size + 1, 1, none⟩) := ha.eval_got (j := 7) (by rw [← hops]; rfl) rfl (hall ⟨7, .data⟩ (by simp) rfl)
          refine opIn_value wideAt_plain (fun c h => by cases h) (v := .int .i64 y.kind) (W' := Wy) ?_ ⟨rfl, hi⟩
          simp only [execOp, h21]
          simp [go_sem, rdCell hi (w.heap.size + 1) hs2, q0, q1, q2, q3, q4, q5]
        · refine step_none rfl ?_
          have h20 : a.eval (.tmp 20) = .int .i64 x.kind := ha.eval_got (j := 6) (by rw [← hops]; rfl) rfl (hall ⟨6, .data⟩ (by simp) rfl)
          have h22 : a.eval (.tmp 22) = .int .i64 y.kind := ha.eval_got (j := 8) (by rw [← hops]; rfl) rfl (hall ⟨8, .data⟩ (by simp) rfl)
          refine opIn_call wideAt_plain (fun c h => by cases h) (f := 57) (args := #[.int .i64 x.kind, .int .i64 y.kind]) (W' := Wy) ?_ (compareK_any x.kind y.kind Wy) ?_
          · simp only [execOp, h20, h22]
            simp [go_sem]
            try (simpa [Act.eval] using (⟨h20, h22⟩ : _ ∧ _))
          · rintro e W1 ⟨rfl, rfl⟩
            exact ⟨_, rfl, rfl, hi⟩
        · refine step_none rfl ?_
          refine opIn_value wideAt_plain (fun c h => by cases h) (v := x.val) (W' := Wy) ?_ ⟨rfl, hi⟩
          simp only [execOp, old2]
          simp [go_sem, rdCell hi w.heap.size hsa, k0, k1, k2, k3, k4, k5]
        · refine step_none rfl ?_
          have h24 : a.eval (.tmp 24) = x.val := ha.eval_got (j := 10) (by rw [← hops]; rfl) rfl (hall ⟨10, .data⟩ (by simp) rfl)
          refine opIn_call wideAt_plain (fun c h => by cases h) (f := 45) (args := #[x.val]) (W' := Wy) ?_ (textA_any x Wy (HA.out Wy (below_own' HZZ.out hi)) FA.out RA.out.symm (pow_below HP.out (below_own' HZZ.out hi))) ?_
          · simp only [execOp, h24]
            simp [go_sem]
            try (simpa [Act.eval] using h24)
          · rintro e W1 ⟨rfl, hb⟩
            exact ⟨_, rfl, by rw [VS.out]; rfl, below_own' hi hb⟩
        · refine step_none rfl ?_
          refine opIn_value wideAt_plain (fun c h => by cases h) (v := y.val) (W' := Wy) ?_ ⟨rfl, hi⟩
          simp only [execOp, old3]
          simp [go_sem, rdCell hi (w.heap.size + 1) hs2, q0, q1, q2, q3, q4, q5]
        · refine step_none rfl ?_
          have h26 : a.eval (.tmp 26) = y.val := ha.eval_got (j := 12) (by rw [← hops]; rfl) rfl (hall ⟨12, .data⟩ (by simp) rfl)
          refine opIn_call wideAt_plain (fun c h => by cases h) (f := 45) (args := #[y.val]) (W' := Wy) ?_ (textA_any y Wy (HB.out Wy (below_own' HZZ.out hi)) FB.out RB.out.symm (pow_below HP.out (below_own' HZZ.out hi))) ?_
          · simp only [execOp, h26]
            simp [go_sem]
            try (simpa [Act.eval] using h26)
          · rintro e W1 ⟨rfl, hb⟩
            exact ⟨_, rfl, by rw [VT.out]; rfl, below_own' hi hb⟩
        · refine step_none rfl ?_
          have h25 : a.eval (.tmp 25) = .string vs := ha.eval_got (j := 11) (by rw [← hops]; rfl) rfl (hall ⟨11, .data⟩ (by simp) rfl)
          have h27 : a.eval (.tmp 27) = .string vt := ha.eval_got (j := 13) (by rw [← hops]; rfl) rfl (hall ⟨13, .data⟩ (by simp) rfl)
          refine opIn_call wideAt_plain (fun c h => by cases h) (f := 56) (args := #[.string vs, .string vt]) (W' := Wy) ?_ (compare_any vs vt Wy) ?_
          · simp only [execOp, h25, h27]
            simp [go_sem]
            try (simpa [Act.eval] using (⟨h25, h27⟩ : _ ∧ _))
          · rintro e W1 ⟨rfl, rfl⟩
            exact ⟨_, rfl, rfl, hi⟩
      case tail =>
        intro Wz hz
        subst hops
        simp only [frameOf, Act.put, Option.bind_some, List.getElem?_toArray, List.getElem?_cons_zero, List.getElem?_cons_succ, List.setIfInBounds_toArray, List.set_cons_zero, List.set_cons_succ, List.drop_succ_cons, List.drop_zero]
        have HZ := Lib.hid hz
        clear hz
        gi_wp2_with (refine ⟨trivial, ?_⟩; gi_at_call 55; refine (callsIn_wide.2 (or_any Wz.heap.size (nmCmp x.name y.name) (kCmp x.kind y.kind) (nmCmp vs vt) _ (by simp [go_sem]) (by simp [go_sem]) (by simp [go_sem]))).mono ?_; rintro e w3 ⟨rfl, rfl⟩)
        go_ret2
        exact ⟨by rw [hcm.out]; rfl, belowA (below_own' HZZ.out HZ.out) _⟩
end Go.Proofs.YtmepjbjmjbpchaaGreatDoor
end
section
/- What the constants of `awake` are. -/
namespace Go.Proofs.YtmepjbjmjbpchaaGreatDoor
open Go Go.RowKit Go.Sort
set_option linter.unusedVariables false
set_option linter.unusedSectionVars false
set_option linter.unusedSimpArgs false

def aD1 : Dat := ⟨⟨#[97]⟩, 0, 5, ⟨#[]⟩, [], []⟩
def aD2 : Dat := ⟨⟨#[98]⟩, 1, 0, ⟨#[120, 34, 121, 10, 128]⟩, [], []⟩
def aD3 : Dat := ⟨⟨#[99]⟩, 2, 0, ⟨#[102]⟩, [], []⟩
def aD4 : Dat := ⟨⟨#[100]⟩, 3, 0, ⟨#[105, 51, 50]⟩, [], []⟩
def aD5 : Dat := ⟨⟨#[101]⟩, 4, 0, ⟨#[]⟩, [1, -2], []⟩
def aD6 : Dat := ⟨⟨#[102]⟩, 5, 0, ⟨#[]⟩, [], [⟨#[105, 49]⟩, ⟨#[105, 110, 100, 101, 120]⟩]⟩
def aDs : List Dat := [aD1, aD2, aD3, aD4, aD5, aD6]
abbrev awL (H : Nat) : List Atr :=
  [⟨⟨#[97]⟩, 0, 5, ⟨#[]⟩, none, [], 0, none, [], 0⟩, ⟨⟨#[98]⟩, 1, 0, ⟨#[120, 34, 121, 10, 128]⟩, none, [], 0, none, [], 0⟩, ⟨⟨#[99]⟩, 2, 0, ⟨#[102]⟩, none, [], 0, none, [], 0⟩,
   ⟨⟨#[100]⟩, 3, 0, ⟨#[105, 51, 50]⟩, none, [], 0, none, [], 0⟩, ⟨⟨#[101]⟩, 4, 0, ⟨#[]⟩, some ⟨H, 0, none⟩, [1, -2], 2, none, [], 0⟩, ⟨⟨#[102]⟩, 5, 0, ⟨#[]⟩, none, [], 0, some ⟨H + 1, 0, none⟩, [⟨#[105, 49]⟩, ⟨#[105, 110, 100, 101, 120]⟩], 2⟩]
theorem awL_dat (H : Nat) : (awL H).map Atr.dat = aDs := rfl
abbrev awT : ByteArray := ⟨#[123, 97, 32, 61, 32, 53, 44, 32, 98, 32, 61, 32, 34, 120, 92, 34, 121, 92, 110, 92, 120, 56, 48, 34, 44, 32, 99, 32, 61, 32, 64, 102, 44, 32, 100, 32, 61, 32, 105, 51, 50, 44, 32, 101, 32, 61, 32, 91, 49, 44, 32, 45, 50, 93, 44, 32, 102, 32, 61, 32, 40, 105, 49, 44, 32, 105, 110, 100, 101, 120, 41, 125]⟩
abbrev awS : ByteArray := ⟨#[123, 97, 32, 61, 32, 53, 44, 32, 99, 32, 61, 32, 64, 102, 125]⟩
theorem awR (H : Nat) : rightL (awL H) = true := by kernel_rfl
theorem awP : (⟨(listD aDs).toArray⟩ : ByteArray) = awT := by kernel_rfl
theorem awPl : (listD aDs).length ≤ 262144 := by
  have : (listD aDs).length = awT.size := by rw [← awP]; rfl
  rw [this]; decide
/-- The list of the examples in memory. -/
structure AwAt (W : World) (H : Nat) : Prop where
  ints : W.heap[H]? = some (.cells #[.int .i64 1, .int .i64 (-2)] 2 (0, 0))
  texts : W.heap[H + 1]? = some (.cells #[.string ⟨#[105, 49]⟩, .string ⟨#[105, 110, 100, 101, 120]⟩] 9 (0, 0))
  row : W.heap[H + 2]? = some (.cells ((awL H).flatMap Atr.cells).toArray 27 (0, 0))
theorem AwAt.below {W W1 : World} {H : Nat} (h : AwAt W H) (hb : Below W.heap.size W W1) : AwAt W1 H := ⟨blkBelow h.ints hb, blkBelow h.texts hb, blkBelow h.row hb⟩
theorem AwAt.sl {W : World} {H : Nat} (h : AwAt W H) : AtrSl W (some ⟨H + 2, 0, none⟩) (awL H) := by
  refine ⟨.inr ⟨H + 2, 0, rfl, blkLt h.row, fun j hj i hi => ?_⟩, fun a ha => ?_, fun a ha => ?_⟩
  · rw [blkCell h.row, Nat.zero_add, ← flat_at hj hi]
    simp
  · simp only [List.mem_cons, List.not_mem_nil, or_false] at ha
    have hi : IntSl W (some ⟨H, 0, none⟩) [1, -2] := .inr ⟨H, 0, rfl, blkLt h.ints, fun j hj => by
      rw [blkCell h.ints]
      match j, hj with
      | 0, _ => rfl
      | 1, _ => rfl⟩
    have ht : StrSl W (some ⟨H + 1, 0, none⟩) [⟨#[105, 49]⟩, ⟨#[105, 110, 100, 101, 120]⟩] := .inr ⟨H + 1, 0, rfl, blkLt h.texts, fun j hj => by
      rw [blkCell h.texts]
      match j, hj with
      | 0, _ => rfl
      | 1, _ => rfl⟩
    rcases ha with rfl | rfl | rfl | rfl | rfl | rfl
    · exact ⟨.inl rfl, .inl rfl⟩
    · exact ⟨.inl rfl, .inl rfl⟩
    · exact ⟨.inl rfl, .inl rfl⟩
    · exact ⟨.inl rfl, .inl rfl⟩
    · exact ⟨hi, .inl rfl⟩
    · exact ⟨.inl rfl, ht⟩
  · simp only [List.mem_cons, List.not_mem_nil, or_false] at ha
    rcases ha with rfl | rfl | rfl | rfl | rfl | rfl
    all_goals (constructor <;> dsimp only <;> decide)
section
variable (W : World) (H : Nat) (hat : AwAt W H) (hg : Glob W)
include hat hg
theorem aw_print : Calls Tryz.prog 30 #[.slice (some ⟨H + 2, 0, none⟩) 6 6] W fun e w' => e = .returned (.tuple #[.string awT, .int .i64 0]) ∧ Below W.heap.size W w' :=
  (print_any _ 6 (awL H) W hat.sl (by simp) hg.pow).mono fun e w' h => by
    have h2 := h.1
    rw [awR, awL_dat, if_pos rfl, if_pos awPl, awP] at h2
    exact ⟨h2, h.2⟩
theorem aw_get : Calls Tryz.prog 34 #[.slice (some ⟨H + 2, 0, none⟩) 6 6, .string ⟨#[101]⟩] W fun e w' => ∃ nm k n tx ia ic ta tl tc, e = .returned (.tuple #[.agg #[.string nm, .int .i64 k, .int .i64 n, .string tx, .slice ia 2 ic, .slice ta tl tc], .int .i64 0]) ∧ Below W.heap.size W w' :=
  (get_any _ 6 (awL H) ⟨#[101]⟩ W hat.sl (by simp) (by simp)).mono fun e w' h => by
    obtain ⟨hb, h2⟩ := h
    rw [awR, if_pos rfl, if_pos (show foundB (awL H) ⟨#[101]⟩ = true by kernel_rfl)] at h2
    obtain ⟨b, he, -, -, hd⟩ := h2
    rw [awL_dat, show lowerB (awL H) ⟨#[101]⟩ = 4 by kernel_rfl] at hd
    have hd2 : aD5 = b.dat := Option.some.inj hd
    have hl : b.ints.length = 2 := by
      have : b.dat.ints = [1, -2] := by rw [← hd2]; rfl
      show b.dat.ints.length = 2
      rw [this]; rfl
    exact ⟨b.name, b.kind, b.num, b.text, b.ia, b.ic, b.ta, b.texts.length, b.tc, by rw [he, ← hl], hb⟩
theorem aw_cmp : Calls Tryz.prog 28 #[av ⟨#[97]⟩ 0 5 ⟨#[]⟩ none 0 0 none 0 0, av ⟨#[98]⟩ 1 0 ⟨#[120, 34, 121, 10, 128]⟩ none 0 0 none 0 0] W fun e w' => e = .returned (.tuple #[.int .i64 (-1), .int .i64 0]) ∧ Below W.heap.size W w' := by
  have hs := hat.sl
  refine (cmpA_any ⟨⟨#[97]⟩, 0, 5, ⟨#[]⟩, none, [], 0, none, [], 0⟩ ⟨⟨#[98]⟩, 1, 0, ⟨#[120, 34, 121, 10, 128]⟩, none, [], 0, none, [], 0⟩ W (hs.lies _ (by simp)) (hs.lies _ (by simp)) (hs.fits _ (by simp)) (hs.fits _ (by simp)) hg.pow).mono fun e w' h => ?_
  obtain ⟨he, hb⟩ := h
  refine ⟨?_, hb⟩
  rw [he]
  kernel_rfl
theorem aw_merge : Calls Tryz.prog 18 #[.slice (some ⟨H + 2, 0, none⟩) 6 6, .slice none 0 0] W fun e w' => ∃ sa c, e = .returned (.tuple #[.slice sa 6 c, .int .i64 0]) ∧ Below W.heap.size W w' :=
  (merge_any _ none 6 0 (awL H) [] W hat.sl ⟨.inl rfl, by simp, by simp⟩ (by simp) (by simp)).mono fun e w' h => by
    obtain ⟨hb, h2⟩ := h
    rw [awR, show rightL [] = true from rfl, if_pos (show (true && true) = true from rfl), awL_dat, show mergeD aDs (([] : List Atr).map Atr.dat) = aDs from rfl, if_neg (by decide)] at h2
    obtain ⟨v, l', he, ho, hd⟩ := h2
    obtain ⟨sa, c, rfl, -⟩ := own_form ho.own
    have : l'.length = 6 := by have := congrArg List.length hd; simpa [aDs] using this
    exact ⟨sa, c, by rw [he, this], hb⟩
end
section
variable (W : World) (hg : Glob W)
include hg
theorem aw_parse : Calls Tryz.prog 25 #[.string awS] W fun e w' => ∃ g c l, e = .returned (.tuple #[.slice (some ⟨g, 0, none⟩) 2 c, .int .i64 0]) ∧ AtrSl w' (some ⟨g, 0, none⟩) l ∧ l.map Atr.dat = [aD1, aD3] ∧ g < w'.heap.size ∧ w'.cell? ⟨g, 9, none⟩ = some (.string ⟨#[102]⟩) ∧ Below W.heap.size W w' := by
  have hpcs : piecesB (awS.extract 1 (awS.size - 1)) = [⟨#[97, 32, 61, 32, 53]⟩, ⟨#[32, 99, 32, 61, 32, 64, 102]⟩] := by kernel_rfl
  have hp := parse_of (fun p => if p = ⟨#[97, 32, 61, 32, 53]⟩ then some aD1 else some aD3) awS W (by decide) (by decide) (by kernel_rfl) (by kernel_rfl) hg (by
    rw [hpcs]
    intro p hp
    simp only [List.mem_cons, List.not_mem_nil, or_false] at hp
    rcases hp with rfl | rfl
    · refine ⟨by decide, fun W1 hb => ?_⟩
      rw [show nmOf ⟨#[97, 32, 61, 32, 53]⟩ = ⟨#[97]⟩ by kernel_rfl, show vlOf ⟨#[97, 32, 61, 32, 53]⟩ = ⟨#[53]⟩ by kernel_rfl, if_pos rfl]
      refine (read_of ⟨#[97]⟩ ⟨#[53]⟩ aD1 W1 (by kernel_rfl) (fun W2 hb2 => ?_) (hg.below hb).pow).mono fun e w' h => ⟨70, by decide, by rwa [if_pos (by kernel_rfl)] at h⟩
      refine (guess_num ⟨#[97]⟩ ⟨#[53]⟩ W2 (by decide) (.inr (by decide)) (by decide) 5 fun W3 hb3 => ?_).mono fun e w' h => ⟨⟨⟨#[97]⟩, 0, 5, ⟨#[]⟩, none, [], 0, none, [], 0⟩, h.1, rfl, ⟨.inl rfl, .inl rfl⟩, ⟨by decide, by decide, by decide, by decide, by decide, by decide, by decide, by decide, by decide, by decide⟩, by simp, h.2⟩
      exact (Tryz.strconv_ParseInt_10_at64_ok ⟨#[53]⟩ (by decide) 5 (by kernel_rfl) W3).mono fun e w' ⟨he, hw⟩ => ⟨_, he, by
        rcases hw with rfl | ⟨t, rfl⟩
        · exact Below.refl _ _
        · exact Lib.bytesWorld_below _ _ _⟩
    · refine ⟨by decide, fun W1 hb => ?_⟩
      rw [show nmOf ⟨#[32, 99, 32, 61, 32, 64, 102]⟩ = ⟨#[99]⟩ by kernel_rfl, show vlOf ⟨#[32, 99, 32, 61, 32, 64, 102]⟩ = ⟨#[64, 102]⟩ by kernel_rfl, if_neg (by decide)]
      refine (read_of ⟨#[99]⟩ ⟨#[64, 102]⟩ aD3 W1 (by kernel_rfl) (fun W2 hb2 => ?_) (hg.below hb).pow).mono fun e w' h => ⟨70, by decide, by rwa [if_pos (by kernel_rfl)] at h⟩
      refine (guess_sym ⟨#[99]⟩ ⟨#[64, 102]⟩ W2 (by decide) (by decide) (by decide)).mono fun e w' h => ⟨⟨⟨#[99]⟩, 2, 0, ⟨#[102]⟩, none, [], 0, none, [], 0⟩, h.1.trans (by kernel_rfl), rfl, ⟨.inl rfl, .inl rfl⟩, ⟨by decide, by decide, by decide, by decide, by decide, by decide, by decide, by decide, by decide, by decide⟩, by simp, h.2⟩)
  rw [hpcs, show parseOk (readAll (fun p => if p = ⟨#[97, 32, 61, 32, 53]⟩ then some aD1 else some aD3) [⟨#[97, 32, 61, 32, 53]⟩, ⟨#[32, 99, 32, 61, 32, 64, 102]⟩]) awS = some [aD1, aD3] by kernel_rfl] at hp
  refine hp.mono fun e w' h => ?_
  obtain ⟨hb, v, l, he, ho, hd⟩ := h
  have hl : l.length = 2 := by have := congrArg List.length hd; simpa using this
  obtain ⟨g, c, cur, rfl, -, hgc, -⟩ := ho.form (by omega)
  obtain ⟨g', off, h1, -, hrow⟩ := ho.sl.row (j := 1) (by omega)
  cases h1
  have h3 := (hrow 1 (by omega)).c3
  have h4 : l[1].text = ⟨#[102]⟩ := by
    have : (l.map Atr.dat)[1]? = some aD3 := by rw [hd]; rfl
    rw [List.getElem?_map, List.getElem?_eq_getElem (by omega)] at this
    have := Option.some.inj this
    show l[1].dat.text = _
    rw [this]; rfl
  rw [h4] at h3
  exact ⟨g, c, l, by rw [he, hl], ho.sl, hd, blkLt hgc, h3, hb⟩
theorem aw_read : Calls Tryz.prog 22 #[.string ⟨#[97]⟩, .string ⟨#[91, 93]⟩] W fun e w' => ∃ nm n tx ia il ic ta tl tc, e = .returned (.tuple #[.agg #[.string nm, .int .i64 4, .int .i64 n, .string tx, .slice ia il ic, .slice ta tl tc], .int .i64 0]) ∧ Below W.heap.size W w' := by
  refine (read_of ⟨#[97]⟩ ⟨#[91, 93]⟩ ⟨⟨#[97]⟩, 4, 0, ⟨#[]⟩, [], []⟩ W (by kernel_rfl) (fun W2 hb2 => ?_) hg.pow).mono fun e w' h => ?_
  · exact (guess_ints0 ⟨#[97]⟩ W2).mono fun e w' h => ⟨⟨⟨#[97]⟩, 4, 0, ⟨#[]⟩, none, [], 0, none, [], 0⟩, h.1, rfl, ⟨.inl rfl, .inl rfl⟩, ⟨by decide, by decide, by decide, by decide, by decide, by decide, by decide, by decide, by decide, by decide⟩, by simp, h.2⟩
  · rw [if_pos (by kernel_rfl)] at h
    obtain ⟨a, he, hd, -, -, -, hb⟩ := h
    have hk : a.kind = 4 := by show a.dat.kind = 4; rw [hd]
    exact ⟨a.name, a.num, a.text, a.ia, a.ints.length, a.ic, a.ta, a.texts.length, a.tc, by rw [he, ← hk], hb⟩
theorem aw_set (g c : Nat) (l : List Atr) (hs : AtrSl W (some ⟨g, 0, none⟩) l) (hd : l.map Atr.dat = [aD1, aD3]) : Calls Tryz.prog 13 #[.slice (some ⟨g, 0, none⟩) 2 c, av ⟨#[98]⟩ 0 7 ⟨#[]⟩ none 0 0 none 0 0] W fun e w' => ∃ g' c', e = .returned (.tuple #[.slice (some ⟨g', 0, none⟩) 3 c', .int .i64 0]) ∧ g' < w'.heap.size ∧ w'.cell? ⟨g', 8, none⟩ = some (.int .i64 7) ∧ Below W.heap.size W w' := by
  have hl : l.length = 2 := by have := congrArg List.length hd; simpa using this
  have h := set_any (some ⟨g, 0, none⟩) c l ⟨⟨#[98]⟩, 0, 7, ⟨#[]⟩, none, [], 0, none, [], 0⟩ W hs (by omega) ⟨.inl rfl, .inl rfl⟩ ⟨by decide, by decide, by decide, by decide, by decide, by decide, by decide, by decide, by decide, by decide⟩
  rw [hl] at h
  refine h.mono fun e w' h => ?_
  obtain ⟨hb, h2⟩ := h
  rw [rightL_D, hd, if_pos (by kernel_rfl), show mergeD [aD1, aD3] ([(⟨⟨#[98]⟩, 0, 7, ⟨#[]⟩, none, [], 0, none, [], 0⟩ : Atr)].map Atr.dat) = [aD1, ⟨⟨#[98]⟩, 0, 7, ⟨#[]⟩, [], []⟩, aD3] by kernel_rfl, if_neg (by decide)] at h2
  obtain ⟨v, l', he, ho, hd'⟩ := h2
  have hl' : l'.length = 3 := by have := congrArg List.length hd'; simpa using this
  obtain ⟨g', c', cur, rfl, -, hgc, -⟩ := ho.form (by omega)
  obtain ⟨g2, off, h1, -, hrow⟩ := ho.sl.row (j := 1) (by omega)
  cases h1
  have h3 := (hrow 1 (by omega)).c2
  have h4 : l'[1].num = 7 := by
    have : (l'.map Atr.dat)[1]? = some ⟨⟨#[98]⟩, 0, 7, ⟨#[]⟩, [], []⟩ := by rw [hd']; rfl
    rw [List.getElem?_map, List.getElem?_eq_getElem (by omega)] at this
    have := Option.some.inj this
    show l'[1].dat.num = _
    rw [this]
  rw [h4] at h3
  exact ⟨g', c', by rw [he, hl'], blkLt hgc, h3, hb⟩
theorem aw_chk (g : Nat) (h : W.heap[g]? = some (.cells #[.string ⟨#[98]⟩, .int .i64 0, .int .i64 0, .string ⟨#[]⟩, .slice none 0 0, .slice none 0 0, .string ⟨#[97]⟩, .int .i64 0, .int .i64 0, .string ⟨#[]⟩, .slice none 0 0, .slice none 0 0] 27 (0, 0))) :
    Calls Tryz.prog 19 #[.slice (some ⟨g, 0, none⟩) 2 2] W fun e w' => e = .returned (.int .i64 20) ∧ Below W.heap.size W w' := by
  let l : List Atr := [⟨⟨#[98]⟩, 0, 0, ⟨#[]⟩, none, [], 0, none, [], 0⟩, ⟨⟨#[97]⟩, 0, 0, ⟨#[]⟩, none, [], 0, none, [], 0⟩]
  have hs : AtrSl W (some ⟨g, 0, none⟩) l := by
    refine ⟨.inr ⟨g, 0, rfl, blkLt h, fun j hj i hi => ?_⟩, fun a ha => ?_, fun a ha => ?_⟩
    · rw [blkCell h, Nat.zero_add, ← flat_at hj hi]
      show (l.flatMap Atr.cells).toArray[j * 6 + i]? = _
      simp
    · simp only [l, List.mem_cons, List.not_mem_nil, or_false] at ha
      rcases ha with rfl | rfl <;> exact ⟨.inl rfl, .inl rfl⟩
    · simp only [l, List.mem_cons, List.not_mem_nil, or_false] at ha
      rcases ha with rfl | rfl <;> exact ⟨by decide, by decide, by decide, by decide, by decide, by decide, by decide, by decide, by decide, by decide⟩
  exact (check_any' (some ⟨g, 0, none⟩) 2 l W hs (by simp [l])).mono fun e w' h => ⟨by rw [h.1]; kernel_rfl, h.2⟩
end
end Go.Proofs.YtmepjbjmjbpchaaGreatDoor
end
section
/- What every statement asks of a program whatever the input is: it is so. -/
namespace Go.Proofs.YtmepjbjmjbpchaaGreatDoor
open Go Go.RowKit Go.Sort
set_option linter.unusedVariables false
set_option linter.unusedSimpArgs false

theorem aw_at (w : World) (C : Array Value) (hC : C = ((awL w.heap.size).flatMap Atr.cells).toArray) : AwAt (((w.alloc (.cells #[.int .i64 1, .int .i64 (-2)] 2)).alloc (.cells #[.string ⟨#[105, 49]⟩, .string ⟨#[105, 110, 100, 101, 120]⟩] 9)).alloc (.cells C 27)) w.heap.size := by
  refine ⟨heap_alloc_old (heap_alloc_old (heap_alloc_new _ _) _) _, heap_alloc_old (heap_alloc_new' _ _ (by simp)) _, ?_⟩
  rw [hC]
  exact heap_alloc_new' _ _ (by simp)
theorem AwAt.cells {W : World} {H : Nat} (h : AwAt W H) : ∀ j, W.cell? ⟨H + 1 + 1, j, none⟩ = ((awL H).flatMap Atr.cells).toArray[j]? := fun j => blkCell h.row j
set_option maxRecDepth 100000 in
set_option maxHeartbeats 16000000 in
theorem awake02 (w : World) (hg : Glob w) : Calls Tryz.prog 20 #[] w fun e w' => e = .returned (.bool true) ∧ Below w.heap.size w w' := by
  have HG := Lib.hid hg
  clear hg
  go_enter Tryz.func20, Tryz.ntmps20
  go_wp2_with (first
    | (go_at_call 34; refine Calls.mono (aw_get _ w.heap.size (HA6.out.below ?_) (HG.out.below ?_)) ?_; (focus ((repeat (first | (with_reducible refine below_set ?_ (by first | exact Nat.le_refl _ | omega) _ _) | with_reducible exact Below.refl _ _ | with_reducible refine belowA ?_ _ | with_reducible refine belowD ?_ | with_reducible refine belowN ?_ _)); done)); (focus ((repeat (first | (with_reducible refine below_set ?_ (by first | exact Nat.le_refl _ | omega) _ _) | with_reducible exact Below.refl _ _ | with_reducible refine belowA ?_ _ | with_reducible refine below_own' ?_ HB6.out | with_reducible refine belowD ?_ | with_reducible refine belowN ?_ _)); done)); rintro e w7 ⟨nm7, k7, n7, tx7, ia7, ic7, ta7, tl7, tc7, rfl, hb7⟩; have HX6 : Hid (w7.cell? ⟨w6.heap.size, 1, none⟩ = some (.int .i64 4)) := Lib.hid (by rw [rdCell hb7 w6.heap.size (by simp)]; simp [go_sem]); have HB67 : Hid (Below w6.heap.size w6 w7) := Lib.hid (by (repeat (first | (with_reducible refine below_set ?_ (by first | exact Nat.le_refl _ | omega) _ _) | with_reducible exact Below.refl _ _ | with_reducible refine belowA ?_ _ | with_reducible refine below_own' ?_ hb7 | with_reducible refine belowD ?_ | with_reducible refine belowN ?_ _))); have HA7 := Lib.hid (HA6.out.below HB67.out); have HB7 := Lib.hid (below_own' HB6.out HB67.out); have hz7 : w6.heap.size < w7.heap.size := (by have := Below.size hb7; simp at this; omega); clear hb7)
    | (go_at_call 22; refine Calls.mono (aw_read _ (HG.out.below HB5.out)) ?_; rintro e w6 ⟨nm6, n6, tx6, ia6, il6, ic6, ta6, tl6, tc6, rfl, hb6⟩; have HA6 := Lib.hid (HA5.out.below hb6); have HB6 := Lib.hid (below_own' HB5.out hb6); have HB56 := Lib.hid hb6; clear hb6)
    | (go_at_call 25; refine Calls.mono (aw_parse _ (HG.out.below HB4.out)) ?_; rintro e w5 ⟨g5, c5, l5, rfl, hs5, hd5, hz5, ht5, hb5⟩; have HA5 := Lib.hid (HA4.out.below hb5); have HB5 := Lib.hid (below_own' HB4.out hb5); have HS5 := Lib.hid hs5; have HD5 := Lib.hid hd5; have HT5 := Lib.hid ht5; clear hs5 hd5 ht5 hb5)
    | (go_at_call 30; refine Calls.mono (aw_print _ w.heap.size (aw_at w _ (by rfl)) (HG.out.below ?_)) ?_; (focus ((repeat (first | (with_reducible refine below_set ?_ (by first | exact Nat.le_refl _ | omega) _ _) | with_reducible exact Below.refl _ _ | with_reducible refine belowA ?_ _ | with_reducible refine belowD ?_ | with_reducible refine belowN ?_ _)); done)); rintro e w4 ⟨rfl, hb4⟩; have HB4 : Hid (Below w.heap.size w w4) := Lib.hid (by (repeat (first | (with_reducible refine below_set ?_ (by first | exact Nat.le_refl _ | omega) _ _) | with_reducible exact Below.refl _ _ | with_reducible refine belowA ?_ _ | with_reducible refine below_own' ?_ hb4 | with_reducible refine belowD ?_ | with_reducible refine belowN ?_ _))); have HA4 := Lib.hid ((aw_at w _ (by rfl)).below hb4); clear hb4))
  have k0 : w7.cell? ⟨w.heap.size + 1 + 1, 0, none⟩ = some (.string ⟨#[97]⟩) := HA7.out.cells 0
  have k1 : w7.cell? ⟨w.heap.size + 1 + 1, 1, none⟩ = some (.int .i64 0) := HA7.out.cells 1
  have k2 : w7.cell? ⟨w.heap.size + 1 + 1, 2, none⟩ = some (.int .i64 5) := HA7.out.cells 2
  have k3 : w7.cell? ⟨w.heap.size + 1 + 1, 3, none⟩ = some (.string ⟨#[]⟩) := HA7.out.cells 3
  have k4 : w7.cell? ⟨w.heap.size + 1 + 1, 4, none⟩ = some (.slice none 0 0) := HA7.out.cells 4
  have k5 : w7.cell? ⟨w.heap.size + 1 + 1, 5, none⟩ = some (.slice none 0 0) := HA7.out.cells 5
  have k6 : w7.cell? ⟨w.heap.size + 1 + 1, 6, none⟩ = some (.string ⟨#[98]⟩) := HA7.out.cells 6
  have k7 : w7.cell? ⟨w.heap.size + 1 + 1, 7, none⟩ = some (.int .i64 1) := HA7.out.cells 7
  have k8 : w7.cell? ⟨w.heap.size + 1 + 1, 8, none⟩ = some (.int .i64 0) := HA7.out.cells 8
  have k9 : w7.cell? ⟨w.heap.size + 1 + 1, 9, none⟩ = some (.string ⟨#[120, 34, 121, 10, 128]⟩) := HA7.out.cells 9
  have k10 : w7.cell? ⟨w.heap.size + 1 + 1, 10, none⟩ = some (.slice none 0 0) := HA7.out.cells 10
  have k11 : w7.cell? ⟨w.heap.size + 1 + 1, 11, none⟩ = some (.slice none 0 0) := HA7.out.cells 11
  have hzr : w.heap.size + 1 + 1 < w7.heap.size := blkLt HA7.out.row
  go_region_held3 (fun w' => w'.cell? ⟨w.heap.size + 1 + 1, 0, none⟩ = some (.string ⟨#[97]⟩) ∧ w'.cell? ⟨w.heap.size + 1 + 1, 1, none⟩ = some (.int .i64 0) ∧ w'.cell? ⟨w.heap.size + 1 + 1, 2, none⟩ = some (.int .i64 5) ∧ w'.cell? ⟨w.heap.size + 1 + 1, 3, none⟩ = some (.string ⟨#[]⟩) ∧ w'.cell? ⟨w.heap.size + 1 + 1, 4, none⟩ = some (.slice none 0 0) ∧ w'.cell? ⟨w.heap.size + 1 + 1, 5, none⟩ = some (.slice none 0 0) ∧ w'.cell? ⟨w.heap.size + 1 + 1, 6, none⟩ = some (.string ⟨#[98]⟩) ∧ w'.cell? ⟨w.heap.size + 1 + 1, 7, none⟩ = some (.int .i64 1) ∧ w'.cell? ⟨w.heap.size + 1 + 1, 8, none⟩ = some (.int .i64 0) ∧ w'.cell? ⟨w.heap.size + 1 + 1, 9, none⟩ = some (.string ⟨#[120, 34, 121, 10, 128]⟩) ∧ w'.cell? ⟨w.heap.size + 1 + 1, 10, none⟩ = some (.slice none 0 0) ∧ w'.cell? ⟨w.heap.size + 1 + 1, 11, none⟩ = some (.slice none 0 0)) (go_keep)
    ((go_at_call 28; refine Calls.mono (aw_cmp _ w.heap.size (HA7.out.below ?_) (HG.out.below ?_)) ?_; (focus ((repeat (first | (with_reducible refine below_set ?_ (by first | exact Nat.le_refl _ | omega) _ _) | with_reducible exact Below.refl _ _ | with_reducible refine belowA ?_ _ | with_reducible refine belowD ?_ | with_reducible refine belowN ?_ _)); done)); (focus ((repeat (first | (with_reducible refine below_set ?_ (by first | exact Nat.le_refl _ | omega) _ _) | with_reducible exact Below.refl _ _ | with_reducible refine belowA ?_ _ | with_reducible refine below_own' ?_ HB7.out | with_reducible refine belowD ?_ | with_reducible refine belowN ?_ _)); done)); rintro e w8 ⟨rfl, hb8⟩; have c8 := rdCell hb8 (w.heap.size + 1 + 1) (by first | (simp; done) | (simp; omega)); have HX8 : Hid (w8.cell? ⟨w6.heap.size, 1, none⟩ = some (.int .i64 4)) := Lib.hid (by rw [rdCell hb8 w6.heap.size (by simp; omega)]; simp [go_sem, hz7, HX6.out]); have HY8 : Hid (w8.cell? ⟨w7.heap.size, 4, none⟩ = some (.slice ia7 2 ic7)) := Lib.hid (by rw [rdCell hb8 w7.heap.size (by simp)]; simp [go_sem]); have HB78 : Hid (Below w7.heap.size w7 w8) := Lib.hid (by (repeat (first | (with_reducible refine below_set ?_ (by first | exact Nat.le_refl _ | omega) _ _) | with_reducible exact Below.refl _ _ | with_reducible refine belowA ?_ _ | with_reducible refine below_own' ?_ hb8 | with_reducible refine belowD ?_ | with_reducible refine belowN ?_ _))); have hzw8 : w7.heap.size < w8.heap.size := (by have := Below.size hb8; simp at this; omega)))
  have HB8 := Lib.hid (below_own' HB7.out HB78.out)
  have HA8 := Lib.hid (HA7.out.below HB78.out)
  have HB58 : Hid (Below w5.heap.size w5 w8) := Lib.hid (below_own' (below_own' HB56.out HB67.out) HB78.out)
  clear k0 k1 k2 k3 k4 k5 k6 k7 k8 k9 k10 k11 c8
  try clear hb8
  go_wp2_with (first
    | (go_at_call 19; refine Calls.mono (aw_chk _ (HG.out.below ?_) w10.heap.size ?_) ?_; (focus ((repeat (first | (with_reducible refine below_set ?_ (by first | exact Nat.le_refl _ | omega) _ _) | with_reducible exact Below.refl _ _ | with_reducible refine belowA ?_ _ | with_reducible refine below_own' ?_ HB10.out | with_reducible refine belowD ?_ | with_reducible refine belowN ?_ _)); done)); (focus (exact heap_alloc_new _ _)); rintro e w11 ⟨rfl, hb11⟩)
    | (go_at_call 18; refine Calls.mono (aw_merge _ w.heap.size (HA9.out) (HG.out.below HB9.out)) ?_; rintro e w10 ⟨sa10, c10, rfl, hb10⟩; have HB10 := Lib.hid (below_own' HB9.out hb10); have hb8x : Below w8.heap.size w8 w10 := below_own' HBX9.out hb10; have m5 : w10.cell? ⟨g5, 9, none⟩ = some (.string ⟨#[102]⟩) := (rdCell (below_own' HB58.out hb8x) g5 hz5 9).trans HT5.out; have x6 : w10.cell? ⟨w6.heap.size, 1, none⟩ = some (.int .i64 4) := (rdCell hb8x w6.heap.size (by omega) 1).trans HX8.out; have y7 : w10.cell? ⟨w7.heap.size, 4, none⟩ = some (.slice ia7 2 ic7) := (rdCell hb8x w7.heap.size (by omega) 4).trans HY8.out; have t9 : w10.cell? ⟨g9, 8, none⟩ = some (.int .i64 7) := (rdCell hb10 g9 hz9 8).trans HT9.out; clear hb10 hb8x)
    | (go_at_call 13; refine Calls.mono (aw_set _ (HG.out.below HB8.out) g5 c5 l5 (HS5.out.below HB58.out) HD5.out) ?_; rintro e w9 ⟨g9, c9, rfl, hz9, ht9, hb9⟩; have HA9 := Lib.hid (HA8.out.below hb9); have HB9 := Lib.hid (below_own' HB8.out hb9); have HT9 := Lib.hid ht9; have HBX9 := Lib.hid hb9; clear ht9 hb9))
  go_ret
  exact ⟨rfl, by (repeat (first | (with_reducible refine below_set ?_ (by first | exact Nat.le_refl _ | omega) _ _) | with_reducible exact Below.refl _ _ | with_reducible refine belowA ?_ _ | with_reducible refine below_own' ?_ hb11 | with_reducible refine below_own' ?_ HB10.out | with_reducible refine belowD ?_ | with_reducible refine belowN ?_ _))⟩
end Go.Proofs.YtmepjbjmjbpchaaGreatDoor
end
section
/- attrs.Equal, the reference's Cmp. -/
namespace Go.Proofs.YtmepjbjmjbpchaaGreatDoor
open Go Go.RowKit
set_option linter.unusedVariables false
set_option linter.unusedSimpArgs false
attribute [local go_sem] Oper.semAt_some

def EqPost (x y : Atr) (w : World) (e : Ending) (w' : World) : Prop :=
  e = .returned (.tuple #[.bool ((rightA x && rightA y) && decide (cmpA x y = 0)), .int .i64 (if rightA x && rightA y then 0 else 20)]) ∧ Below w.heap.size w w'
set_option maxRecDepth 100000 in
set_option maxHeartbeats 4000000 in
theorem equalA_any (x y : Atr) (w : World) (hx : x.Lies w) (hy : y.Lies w) (fx : x.Fits) (fy : y.Fits) (hp : Pow w) :
    Calls Tryz.prog 27 #[x.val, y.val] w (EqPost x y w) := by
  have HC := Lib.hid (fun (W : World) (h : Below w.heap.size w W) => cmpA_any x y W (hx.below h) (hy.below h) fx fy (pow_below hp h))
  clear hx hy fx fy hp
  unfold EqPost
  have hcs : (rightA x && rightA y) = false ∨ ((rightA x && rightA y) = true ∧ cmpA x y = 0) ∨ ((rightA x && rightA y) = true ∧ cmpA x y ≠ 0) := by
    cases (rightA x && rightA y)
    · exact .inl rfl
    · by_cases h : cmpA x y = 0
      · exact .inr (.inl ⟨rfl, h⟩)
      · exact .inr (.inr ⟨rfl, h⟩)
  rcases hcs with hr | ⟨hr, hc⟩ | ⟨hr, hc⟩
  · have HR := Lib.hid hr
    have hp1 : ((rightA x && rightA y) && decide (cmpA x y = 0)) = false := by rw [hr]; rfl
    have hp2 : (if (rightA x && rightA y) = true then (0 : Int) else 20) = 20 := by rw [hr]; rfl
    rw [hp1, hp2]
    clear hp1 hp2
    clear hr
    go_enter Tryz.func27, Tryz.ntmps27
    go_wp2_with (go_at_call 28; refine (HC.out _ (by (repeat (first | (with_reducible refine below_set ?_ (by first | exact Nat.le_refl _ | omega) _ _) | with_reducible exact Below.refl _ _ | with_reducible refine belowA ?_ _ | with_reducible refine belowD ?_ | with_reducible refine belowN ?_ _)))).mono ?_; rintro e w1 ⟨he, hb1⟩; rw [HR.out] at he; simp only [Bool.false_eq_true, if_false] at he; subst he)
    go_ret2
    exact ⟨rfl, by (repeat (first | (with_reducible refine below_set ?_ (by first | exact Nat.le_refl _ | omega) _ _) | with_reducible exact Below.refl _ _ | with_reducible refine belowA ?_ _ | with_reducible refine below_own' ?_ hb1 | with_reducible refine belowD ?_ | with_reducible refine belowN ?_ _))⟩
  · have HR := Lib.hid hr
    have HX := Lib.hid hc
    have hp1 : ((rightA x && rightA y) && decide (cmpA x y = 0)) = true := by rw [hr]; simp [hc]
    have hp2 : (if (rightA x && rightA y) = true then (0 : Int) else 20) = 0 := by rw [hr]; rfl
    rw [hp1, hp2]
    clear hp1 hp2
    clear hr hc
    go_enter Tryz.func27, Tryz.ntmps27
    go_wp2_with (go_at_call 28; refine (HC.out _ (by (repeat (first | (with_reducible refine below_set ?_ (by first | exact Nat.le_refl _ | omega) _ _) | with_reducible exact Below.refl _ _ | with_reducible refine belowA ?_ _ | with_reducible refine belowD ?_ | with_reducible refine belowN ?_ _)))).mono ?_; rintro e w1 ⟨he, hb1⟩; rw [HR.out] at he; simp only [if_true, HX.out] at he; subst he)
    go_ret2
    exact ⟨rfl, by (repeat (first | (with_reducible refine below_set ?_ (by first | exact Nat.le_refl _ | omega) _ _) | with_reducible exact Below.refl _ _ | with_reducible refine belowA ?_ _ | with_reducible refine below_own' ?_ hb1 | with_reducible refine belowD ?_ | with_reducible refine belowN ?_ _))⟩
  · have HR := Lib.hid hr
    have HX := Lib.hid hc
    have hp1 : ((rightA x && rightA y) && decide (cmpA x y = 0)) = false := by rw [hr]; simp [hc]
    have hp2 : (if (rightA x && rightA y) = true then (0 : Int) else 20) = 0 := by rw [hr]; rfl
    rw [hp1, hp2]
    clear hp1 hp2
    obtain ⟨z, hz⟩ : ∃ z, z = cmpA x y := ⟨_, rfl⟩
    have HZ := Lib.hid hz
    have hb0 : (z == 0) = false := by rw [hz]; simpa using hc
    clear hr hc hz
    go_enter Tryz.func27, Tryz.ntmps27
    go_wp2_with (go_at_call 28; refine (HC.out _ (by (repeat (first | (with_reducible refine below_set ?_ (by first | exact Nat.le_refl _ | omega) _ _) | with_reducible exact Below.refl _ _ | with_reducible refine belowA ?_ _ | with_reducible refine belowD ?_ | with_reducible refine belowN ?_ _)))).mono ?_; rintro e w1 ⟨he, hb1⟩; rw [HR.out] at he; simp only [if_true, ← HZ.out] at he; subst he)
    go_ret2
    exact ⟨rfl, by (repeat (first | (with_reducible refine below_set ?_ (by first | exact Nat.le_refl _ | omega) _ _) | with_reducible exact Below.refl _ _ | with_reducible refine belowA ?_ _ | with_reducible refine below_own' ?_ hb1 | with_reducible refine belowD ?_ | with_reducible refine belowN ?_ _))⟩
end Go.Proofs.YtmepjbjmjbpchaaGreatDoor
end
section
/- The reference's Cmp. -/
namespace Go.Proofs.YtmepjbjmjbpchaaGreatDoor
open Go Go.RowKit
set_option linter.unusedVariables false
set_option linter.unusedSimpArgs false
attribute [local go_sem] Oper.semAt_some

theorem nmCmp_ne {s t : ByteArray} (h : s ≠ t) : nmCmp s t ≠ 0 := by
  unfold nmCmp
  cases h1 : nmLt s t
  · cases h2 : nmLt t s
    · exact absurd (nm_total h1 h2) h
    · simp
  · simp
theorem nmCmp_self (s : ByteArray) : nmCmp s s = 0 := by unfold nmCmp; rw [nm_irrefl]; simp
theorem cmpA_name {x y : Atr} (h : x.name ≠ y.name) : cmpA x y = nmCmp x.name y.name := by
  unfold cmpA orI; rw [if_pos (nmCmp_ne h)]
theorem cmpA_kind {x y : Atr} (h : x.name = y.name) (hk : x.kind ≠ y.kind) : cmpA x y = kCmp x.kind y.kind := by
  have h2 : kCmp x.kind y.kind ≠ 0 := by unfold kCmp; split; simp; split; simp; omega
  unfold cmpA orI; rw [h, nmCmp_self, if_neg (by simp), if_pos h2]
theorem cmpA_value {x y : Atr} (h : x.name = y.name) (hk : x.kind = y.kind) : cmpA x y = nmCmp (valB x) (valB y) := by
  unfold cmpA orI kCmp; rw [h, nmCmp_self, hk]; simp
set_option maxRecDepth 100000 in
set_option maxHeartbeats 8000000 in
theorem rcmpA_any (x y : Atr) (w : World) (hx : x.Lies w) (hy : y.Lies w) (fx : x.Fits) (fy : y.Fits) (rx : rightA x = true) (ry : rightA y = true) :
    Calls Tryz.prog 29 #[x.val, y.val] w fun e w' => e = .returned (.int .i64 (cmpA x y)) ∧ Below w.heap.size w w' := by
  have HA := Lib.hid (fun (W : World) (h : Below w.heap.size w W) => hx.below h)
  have HB := Lib.hid (fun (W : World) (h : Below w.heap.size w W) => hy.below h)
  have hcs : x.name ≠ y.name ∨ (x.name = y.name ∧ x.kind < y.kind) ∨ (x.name = y.name ∧ y.kind < x.kind) ∨ (x.name = y.name ∧ x.kind = y.kind) := by
    by_cases h : x.name = y.name
    · have : x.kind < y.kind ∨ y.kind < x.kind ∨ x.kind = y.kind := by omega
      rcases this with h2 | h2 | h2
      · exact .inr (.inl ⟨h, h2⟩)
      · exact .inr (.inr (.inl ⟨h, h2⟩))
      · exact .inr (.inr (.inr ⟨h, h2⟩))
    · exact .inl h
  clear hx hy
  rcases hcs with h | ⟨h, hk⟩ | ⟨h, hk⟩ | ⟨h, hk⟩
  · have HE := Lib.hid (cmpA_name h)
    have hb : (x.name.toList == y.name.toList) = false := by rw [toList_beq]; simpa using h
    have hb2 : (x.name.toList != y.name.toList) = true := by rw [bne, hb]; rfl
    clear h
    go_enter Tryz.func29, Tryz.ntmps29
    go_wp2_with (go_at_call 58; refine (rcmp_any _ _ _).mono ?_; rintro e w1 ⟨rfl, rfl⟩)
    go_ret
    exact ⟨by rw [HE.out]; rfl, by (repeat (first | (with_reducible refine below_set ?_ (by first | exact Nat.le_refl _ | omega) _ _) | with_reducible exact Below.refl _ _ | with_reducible refine belowA ?_ _ | with_reducible refine belowD ?_ | with_reducible refine belowN ?_ _))⟩
  · have HE : Hid (cmpA x y = -1) := Lib.hid (by rw [cmpA_kind h (by omega)]; unfold kCmp; rw [if_pos hk])
    have hb : (x.name.toList == y.name.toList) = true := by rw [toList_beq]; simpa using h
    have hb2 : (x.name.toList != y.name.toList) = false := by rw [bne, hb]; rfl
    clear h
    go_enter Tryz.func29, Tryz.ntmps29
    go_wp2_with fail
    go_ret
    exact ⟨by rw [HE.out]; rfl, by (repeat (first | (with_reducible refine below_set ?_ (by first | exact Nat.le_refl _ | omega) _ _) | with_reducible exact Below.refl _ _ | with_reducible refine belowA ?_ _ | with_reducible refine belowD ?_ | with_reducible refine belowN ?_ _))⟩
  · have HE : Hid (cmpA x y = 1) := Lib.hid (by rw [cmpA_kind h (by omega)]; unfold kCmp; rw [if_neg (by omega), if_pos hk])
    have hb : (x.name.toList == y.name.toList) = true := by rw [toList_beq]; simpa using h
    have hb2 : (x.name.toList != y.name.toList) = false := by rw [bne, hb]; rfl
    have hk2 : ¬ x.kind < y.kind := by omega
    clear h
    go_enter Tryz.func29, Tryz.ntmps29
    go_wp2_with fail
    go_ret
    exact ⟨by rw [HE.out]; rfl, by (repeat (first | (with_reducible refine below_set ?_ (by first | exact Nat.le_refl _ | omega) _ _) | with_reducible exact Below.refl _ _ | with_reducible refine belowA ?_ _ | with_reducible refine belowD ?_ | with_reducible refine belowN ?_ _))⟩
  · obtain ⟨vs, hvs⟩ : ∃ vs, vs = valB x := ⟨_, rfl⟩
    obtain ⟨vt, hvt⟩ : ∃ vt, vt = valB y := ⟨_, rfl⟩
    have VS := Lib.hid hvs
    have VT := Lib.hid hvt
    have HE : Hid (cmpA x y = nmCmp vs vt) := Lib.hid (by rw [cmpA_value h hk, hvs, hvt])
    have hb : (x.name.toList == y.name.toList) = true := by rw [toList_beq]; simpa using h
    have hb2 : (x.name.toList != y.name.toList) = false := by rw [bne, hb]; rfl
    have hk2 : ¬ x.kind < y.kind := by omega
    have hk3 : ¬ y.kind < x.kind := by omega
    clear h hk hvs hvt
    refine (callsIn_wide (n := 6)).1 ?_
    refine callsIn_of_wp Tryz.func29 rfl trivial ?_ rfl
    simp only [Tryz.ntmps29, List.size_toArray, List.length_cons, List.length_nil, Nat.reduceAdd, Nat.reduceSub, Array.replicate_succ, Array.replicate_zero, List.push_toArray, List.append_toArray, List.nil_append, List.cons_append]
    gi_wp2_with fail
    obtain ⟨w2, hw2⟩ : ∃ w2, w2 = ((w.alloc (.cells #[.string x.name, .int .i64 x.kind, .int .i64 x.num, .string x.text, .slice x.ia x.ints.length x.ic, .slice x.ta x.texts.length x.tc] 27)).alloc (.cells #[.string y.name, .int .i64 y.kind, .int .i64 y.num, .string y.text, .slice y.ia y.ints.length y.ic, .slice y.ta y.texts.length y.tc] 27)) := ⟨_, rfl⟩
    have HZZ : Hid (Below w.heap.size w w2) := Lib.hid (by rw [hw2]; (repeat (first | (with_reducible refine below_set ?_ (by first | exact Nat.le_refl _ | omega) _ _) | with_reducible exact Below.refl _ _ | with_reducible refine belowA ?_ _ | with_reducible refine belowD ?_ | with_reducible refine belowN ?_ _)))
    have hs2 : w.heap.size + 1 < w2.heap.size := by rw [hw2]; simp
    have hsa : w.heap.size < w2.heap.size := by omega
    have kk : w2.cell? ⟨w.heap.size, 0, none⟩ = some (.string x.name) ∧ w2.cell? ⟨w.heap.size, 0 + 1, none⟩ = some (.int .i64 x.kind) ∧ w2.cell? ⟨w.heap.size, 0 + 2, none⟩ = some (.int .i64 x.num) ∧ w2.cell? ⟨w.heap.size, 0 + 3, none⟩ = some (.string x.text) ∧ w2.cell? ⟨w.heap.size, 0 + 4, none⟩ = some (.slice x.ia x.ints.length x.ic) ∧ w2.cell? ⟨w.heap.size, 0 + 5, none⟩ = some (.slice x.ta x.texts.length x.tc) := by
      refine ⟨?_, ?_, ?_, ?_, ?_, ?_⟩ <;> (rw [hw2]; simp [go_sem])
    have qq : w2.cell? ⟨w.heap.size + 1, 0, none⟩ = some (.string y.name) ∧ w2.cell? ⟨w.heap.size + 1, 0 + 1, none⟩ = some (.int .i64 y.kind) ∧ w2.cell? ⟨w.heap.size + 1, 0 + 2, none⟩ = some (.int .i64 y.num) ∧ w2.cell? ⟨w.heap.size + 1, 0 + 3, none⟩ = some (.string y.text) ∧ w2.cell? ⟨w.heap.size + 1, 0 + 4, none⟩ = some (.slice y.ia y.ints.length y.ic) ∧ w2.cell? ⟨w.heap.size + 1, 0 + 5, none⟩ = some (.slice y.ta y.texts.length y.tc) := by
      refine ⟨?_, ?_, ?_, ?_, ?_, ?_⟩ <;> (rw [hw2]; simp [go_sem])
    rw [← hw2]
    obtain ⟨k0, k1, k2, k3, k4, k5⟩ := kk
    obtain ⟨q0, q1, q2, q3, q4, q5⟩ := qq
    clear hw2
    generalize hops : (#[_, _, _, _, _, _] : Array Oper) = ops
    refine wpIn_region_inv_tail 5 (fun i => match i with | 0 => x.val | 1 => .string vs | 2 => y.val | 3 => .string vt | 4 => .int .i64 (nmCmp vs vt) | _ => undef)
      (fun lst Wy => Below w2.heap.size w2 Wy) (by kernel_rfl) (by rw [← hops]; kernel_rfl) (by rw [← hops]; kernel_rfl) (by rw [← hops]; kernel_rfl) (by rw [← hops]; decide) (by rw [← hops]; kernel_rfl) ((Below.refl _ _).drew) ?step ?tail
    case step =>
      intro i o listed a Wy ho hs hu hall ha hi hy hlt
      have old2 : a.eval (.tmp 2) = .pointer (some ⟨w.heap.size, 0, none⟩) := by rw [ha.eval_old (noDst_spec (by rw [← hops]; kernel_rfl))]; rfl
      have old3 : a.eval (.tmp 3) = .pointer (some ⟨w.heap.size + 1, 0, none⟩) := by rw [ha.eval_old (noDst_spec (by rw [← hops]; kernel_rfl))]; rfl
      have hcase : i = 0 ∨ i = 1 ∨ i = 2 ∨ i = 3 ∨ i = 4 := by omega
      rcases hcase with rfl | rfl | rfl | rfl | rfl
      all_goals (have ho' := ho; rw [← hops] at ho'; simp only [List.getElem?_toArray, List.getElem?_cons_zero, List.getElem?_cons_succ, Option.some.injEq] at ho'; subst ho')
      · refine step_none rfl ?_
        refine opIn_value wideAt_plain (fun c h => by cases h) (v := x.val) (W' := Wy) ?_ ⟨rfl, hi⟩
        simp only [execOp, old2]
        simp [go_sem, rdCell hi w.heap.size hsa, k0, k1, k2, k3, k4, k5]
      · refine step_none rfl ?_
        have h28 : a.eval (.tmp 28) = x.val := ha.eval_got (j := 0) (by rw [← hops]; rfl) rfl (hall ⟨0, .data⟩ (by simp) rfl)
        refine opIn_call wideAt_plain (fun c h => by cases h) (f := 33) (args := #[x.val]) (W' := Wy) ?_ (rvalue_any x Wy (HA.out Wy (below_own' HZZ.out hi)) fx rx) ?_
        · simp only [execOp, h28]
          simp [go_sem]
          try (simpa [Act.eval] using h28)
        · rintro e W1 ⟨rfl, hb⟩
          exact ⟨_, rfl, by rw [VS.out]; rfl, below_own' hi hb⟩
      · refine step_none rfl ?_
        refine opIn_value wideAt_plain (fun c h => by cases h) (v := y.val) (W' := Wy) ?_ ⟨rfl, hi⟩
        simp only [execOp, old3]
        simp [go_sem, rdCell hi (w.heap.size + 1) hs2, q0, q1, q2, q3, q4, q5]
      · refine step_none rfl ?_
        have h30 : a.eval (.tmp 30) = y.val := ha.eval_got (j := 2) (by rw [← hops]; rfl) rfl (hall ⟨2, .data⟩ (by simp) rfl)
        refine opIn_call wideAt_plain (fun c h => by cases h) (f := 33) (args := #[y.val]) (W' := Wy) ?_ (rvalue_any y Wy (HB.out Wy (below_own' HZZ.out hi)) fy ry) ?_
        · simp only [execOp, h30]
          simp [go_sem]
          try (simpa [Act.eval] using h30)
        · rintro e W1 ⟨rfl, hb⟩
          exact ⟨_, rfl, by rw [VT.out]; rfl, below_own' hi hb⟩
      · refine step_none rfl ?_
        have h29 : a.eval (.tmp 29) = .string vs := ha.eval_got (j := 1) (by rw [← hops]; rfl) rfl (hall ⟨1, .data⟩ (by simp) rfl)
        have h31 : a.eval (.tmp 31) = .string vt := ha.eval_got (j := 3) (by rw [← hops]; rfl) rfl (hall ⟨3, .data⟩ (by simp) rfl)
        refine opIn_call wideAt_plain (fun c h => by cases h) (f := 58) (args := #[.string vs, .string vt]) (W' := Wy) ?_ (rcmp_any vs vt Wy) ?_
        · simp only [execOp, h29, h31]
          simp [go_sem]
          try (simpa [Act.eval] using (⟨h29, h31⟩ : _ ∧ _))
        · rintro e W1 ⟨rfl, rfl⟩
          exact ⟨_, rfl, rfl, hi⟩
    case tail =>
      intro Wz hz
      subst hops
      simp only [frameOf, Act.put, Option.bind_some, List.getElem?_toArray, List.getElem?_cons_zero, List.getElem?_cons_succ, List.setIfInBounds_toArray, List.set_cons_zero, List.set_cons_succ, List.drop_succ_cons, List.drop_zero]
      have HZ := Lib.hid hz
      clear hz
      gi_wp2_with fail
      go_ret
      exact ⟨by rw [HE.out]; rfl, below_own' HZZ.out HZ.out⟩
end Go.Proofs.YtmepjbjmjbpchaaGreatDoor
end
