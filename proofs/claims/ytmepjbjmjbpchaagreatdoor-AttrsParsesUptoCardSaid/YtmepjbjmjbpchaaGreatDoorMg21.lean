/- Texts of this claim, laid together: Ax7, Ay0. -/
import Derived.Test.YtmepjbjmjbpchaaGreatDoorMg4
import Derived.Test.YtmepjbjmjbpchaaGreatDoorMg20
section
/- The reference: Print. -/
namespace Go.Proofs.YtmepjbjmjbpchaaGreatDoor
open Go Go.RowKit
set_option linter.unusedVariables false
set_option linter.unusedSimpArgs false
attribute [local go_sem] Oper.semAt_some

set_option maxRecDepth 100000 in
set_option maxHeartbeats 8000000 in
theorem rprint_any (p : Option Addr) (c : Nat) (l : List Atr) (w : World) (hs : AtrSl w p l) (hr : ∀ a ∈ l, rightA a = true) (hl : l.length ≤ 100) :
    Calls Tryz.prog 31 #[.slice p l.length c] w fun e w' => e = .returned (.string ⟨(listD (l.map Atr.dat)).toArray⟩) ∧ Below w.heap.size w w' := by
  by_cases hnil : l = []
  · subst hnil
    clear hs hr
    go_enter Tryz.func31, Tryz.ntmps31
    go_wp2_with fail
    go_ret
    exact ⟨rfl, Below.refl _ _⟩
  · have hpos : 0 < l.length := List.length_pos_iff.2 hnil
    have HS := Lib.hid hs
    have HR := Lib.hid hr
    have HNIL := Lib.hid hnil
    obtain ⟨ls, hls⟩ : ∃ ls, ls = l.map itemB := ⟨_, rfl⟩
    obtain ⟨N, hN⟩ : ∃ N, N = l.length := ⟨_, rfl⟩
    rw [← hN] at hl hpos ⊢
    have HLN : Hid (ls.length = N) := Lib.hid (by rw [hls, hN]; simp)
    have hlen : Hid (∀ j, (joinS (ls.take j)).length ≤ 2000000) := Lib.hid (fun j => by
      have h1 := items_len (l := l.take j) (fun a ha => hr a (List.mem_of_mem_take ha)) (fun a ha => hs.fits a (List.mem_of_mem_take ha)) (by simp; omega)
      rw [hls, ← List.map_take]; exact h1)
    have HLS := Lib.hid hls
    have HN := Lib.hid hN
    have hne : ((N : Int) == 0) = false := by simp; omega
    clear hs hr hls hN hnil
    refine (callsIn_wide (n := 6)).1 ?_
    refine callsIn_of_wp Tryz.func31 rfl trivial ?_ rfl
    simp only [Tryz.ntmps31, List.size_toArray, List.length_cons, List.length_nil, Nat.reduceAdd, Nat.reduceSub, Array.replicate_succ, Array.replicate_zero, List.push_toArray, List.append_toArray, List.nil_append, List.cons_append]
    gi_wp2_with fail
    gi_loopw [3, 4] (fun t i wr => ∃ (j : Nat) (st : ByteArray), i = .int .i64 j ∧ t = .string st ∧ j ≤ N ∧ st.data.toList = 123 :: joinS (ls.take j) ∧ Below w.heap.size w wr) (fun _ i _ => N - (intOf i).toNat)
    case atStart => exact ⟨0, _, rfl, rfl, Nat.zero_le _, rfl, Below.refl _ _⟩
    case round =>
      obtain ⟨j, st, rfl, rfl, hj, hst, hb⟩ := hrel
      have hsts : st.size ≤ 2000001 := by
        have h1 := hlen.out j
        have h3 := congrArg List.length hst
        have h4 : st.data.toList.length = st.size := by simp
        rw [h4, List.length_cons] at h3
        omega
      have HB := Lib.hid hb
      have HST := Lib.hid hst
      clear hst hb
      rcases Nat.lt_or_ge j N with hjn | hge
      · have hl0 : j < l.length := by rw [← HN.out]; exact hjn
        have hll : j < ls.length := by rw [HLN.out]; exact hjn
        have hsw := HS.out.below HB.out
        obtain ⟨g, off, rfl, hg, hrow⟩ := hsw.row hl0
        obtain ⟨a0, ha0⟩ : ∃ a0, a0 = l[j] := ⟨_, rfl⟩
        have hcj := hrow j hl0
        rw [← ha0] at hcj
        have hmem : a0 ∈ l := by rw [ha0]; exact List.getElem_mem _
        have HLI := Lib.hid (fun (W : World) (hb : Below wr.heap.size wr W) => (hsw.lies a0 hmem).below hb)
        have HFI := Lib.hid (hsw.fits a0 hmem)
        have HRI := Lib.hid (HR.out a0 hmem)
        have hj0 : (0 : Int) ≤ (j : Int) := by omega
        have hjl' : (j : Int) < (N : Int) := by omega
        have hn60 := rightA_name HRI.out
        have hv := valD_len HRI.out HFI.out
        have HX : Hid (itemB a0 = ls[j]) := Lib.hid (by simp only [HLS.out, List.getElem_map, ha0])
        obtain ⟨vs, hvs⟩ : ∃ vs : ByteArray, vs = ⟨(valD a0.dat).toArray⟩ := ⟨_, rfl⟩
        have hvl : vs.size ≤ 10002 := by rw [hvs]; simpa [ByteArray.size] using hv
        have HVS := Lib.hid hvs
        clear ha0 hrow hsw hmem hv hvs
        obtain ⟨k0, k1, k2, k3, k4, k5⟩ := hcj
        rcases Nat.eq_zero_or_pos j with h0 | h0
        · have HF := Lib.hid (joinS_first (ls := ls) (by omega))
          subst h0
          simp only [Nat.zero_mul, Nat.add_zero] at k0 k1 k2 k3 k4 k5
          gi_wp2_with fail
          generalize hops : (#[_, _, _, _, _, _, _, _, _, _, _, _, _, _, _] : Array Oper) = ops
          refine wpIn_region_inv_tail 14 (fun i => match i with | 0 => .string (st) | 1 => .slice (some ⟨g, off, none⟩) N c | 2 => .int .i64 ((0 : Nat) : Int) | 3 => .pointer (some ⟨g, off, none⟩) | 4 => .pointer (some ⟨g, off, none⟩) | 5 => .string a0.name | 6 => .string (st ++ a0.name) | 7 => .string (st ++ a0.name ++ ⟨#[32, 61, 32]⟩) | 8 => .slice (some ⟨g, off, none⟩) N c | 9 => .int .i64 ((0 : Nat) : Int) | 10 => .pointer (some ⟨g, off, none⟩) | 11 => a0.val | 12 => .string vs | 13 => .string (st ++ a0.name ++ ⟨#[32, 61, 32]⟩ ++ vs) | _ => undef)
            (fun lst Wy => (Below wr.heap.size wr Wy) ∧ Late 14 lst) (by kernel_rfl) (by rw [← hops]; kernel_rfl) (by rw [← hops]; kernel_rfl) (by rw [← hops]; kernel_rfl) (by rw [← hops]; decide) (by rw [← hops]; kernel_rfl) (⟨(Below.refl _ _).drew, late_start (by rw [← hops]; decide)⟩) ?step ?tail
          case step =>
            intro i o listed a Wy ho hs hu hall ha hi hy hlt
            have hlate := hi.2; replace hi := hi.1
            have old0 : a.eval (.tmp 0) = .slice (some ⟨g, off, none⟩) N c := by rw [ha.eval_old (noDst_spec (by rw [← hops]; kernel_rfl))]; rfl
            have old3 : a.eval (.tmp 3) = .string (st) := by rw [ha.eval_late (k := 14) (by rw [← hops]; kernel_rfl) hlate]; rfl
            have old4 : a.eval (.tmp 4) = .int .i64 ((0 : Nat) : Int) := by rw [ha.eval_old (noDst_spec (by rw [← hops]; kernel_rfl))]; rfl
            have hcase : i = 0 ∨ i = 1 ∨ i = 2 ∨ i = 3 ∨ i = 4 ∨ i = 5 ∨ i = 6 ∨ i = 7 ∨ i = 8 ∨ i = 9 ∨ i = 10 ∨ i = 11 ∨ i = 12 ∨ i = 13 := by omega
            rcases hcase with rfl | rfl | rfl | rfl | rfl | rfl | rfl | rfl | rfl | rfl | rfl | rfl | rfl | rfl
            all_goals (have ho' := ho; rw [← hops] at ho'; simp only [List.getElem?_toArray, List.getElem?_cons_zero, List.getElem?_cons_succ, Option.some.injEq] at ho'; subst ho')
            · refine step_none rfl ?_
              refine opIn_value wideAt_plain (fun c h => by cases h) (v := .string (st)) (W' := Wy) ?_ ⟨rfl, ⟨hi, late_set hlate (by decide)⟩⟩
              simp only [execOp, old3]
              simp only [Sem.run_pure]
            · refine step_none rfl ?_
              refine opIn_value wideAt_plain (fun c h => by cases h) (v := .slice (some ⟨g, off, none⟩) N c) (W' := Wy) ?_ ⟨rfl, ⟨hi, late_set hlate (by decide)⟩⟩
              simp only [execOp, old0]
              simp only [Sem.run_pure]
            · refine step_none rfl ?_
              refine opIn_value wideAt_plain (fun c h => by cases h) (v := .int .i64 ((0 : Nat) : Int)) (W' := Wy) ?_ ⟨rfl, ⟨hi, late_set hlate (by decide)⟩⟩
              simp only [execOp, old4]
              simp only [Sem.run_pure]
            · refine step_none rfl ?_
              have h19 : a.eval (.tmp 19) = .slice (some ⟨g, off, none⟩) N c := ha.eval_got (j := 1) (by rw [← hops]; rfl) rfl (hall ⟨1, .data⟩ (by simp) rfl)
              have h20 : a.eval (.tmp 20) = .int .i64 ((0 : Nat) : Int) := ha.eval_got (j := 2) (by rw [← hops]; rfl) rfl (hall ⟨2, .data⟩ (by simp) rfl)
              refine opIn_value wideAt_plain (fun c h => by cases h) (v := .pointer (some ⟨g, off, none⟩)) (W' := Wy) ?_ ⟨rfl, ⟨hi, late_set hlate (by decide)⟩⟩
              simp only [execOp, h19, h20]
              simp [go_sem, hjl', hj0] <;> (intro h; exfalso; first | omega | (have := h (by omega); omega))
            · refine step_none rfl ?_
              have h21 : a.eval (.tmp 21) = .pointer (some ⟨g, off, none⟩) := ha.eval_got (j := 3) (by rw [← hops]; rfl) rfl (hall ⟨3, .data⟩ (by simp) rfl)
              refine opIn_value wideAt_plain (fun c h => by cases h) (v := .pointer (some ⟨g, off, none⟩)) (W' := Wy) ?_ ⟨rfl, ⟨hi, late_set hlate (by decide)⟩⟩
              simp only [execOp, h21]
              simp [go_sem]
            · refine step_none rfl ?_
              have h22 : a.eval (.tmp 22) = .pointer (some ⟨g, off, none⟩) := ha.eval_got (j := 4) (by rw [← hops]; rfl) rfl (hall ⟨4, .data⟩ (by simp) rfl)
              refine opIn_value wideAt_plain (fun c h => by cases h) (v := .string a0.name) (W' := Wy) ?_ ⟨rfl, ⟨hi, late_set hlate (by decide)⟩⟩
              simp only [execOp, h22]
              simp [go_sem, rdCell hi g hg, k0, k1, k2, k3, k4, k5]
            · refine step_none rfl ?_
              have h18 : a.eval (.tmp 18) = .string (st) := ha.eval_got (j := 0) (by rw [← hops]; rfl) rfl (hall ⟨0, .data⟩ (by simp) rfl)
              have h23 : a.eval (.tmp 23) = .string a0.name := ha.eval_got (j := 5) (by rw [← hops]; rfl) rfl (hall ⟨5, .data⟩ (by simp) rfl)
              refine opIn_value wideAt_plain (fun c h => by cases h) (v := .string (st ++ a0.name)) (W' := Wy) ?_ ⟨rfl, ⟨hi, late_set hlate (by decide)⟩⟩
              simp only [execOp, h18, h23]
              have z3 : (ByteArray.mk #[32, 61, 32]).size = 3 := rfl
              have z2 : (ByteArray.mk #[44, 32]).size = 2 := rfl
              simp [go_sem, ByteArray.size_append]
              omega
            · refine step_none rfl ?_
              have h24 : a.eval (.tmp 24) = .string (st ++ a0.name) := ha.eval_got (j := 6) (by rw [← hops]; rfl) rfl (hall ⟨6, .data⟩ (by simp) rfl)
              refine opIn_value wideAt_plain (fun c h => by cases h) (v := .string (st ++ a0.name ++ ⟨#[32, 61, 32]⟩)) (W' := Wy) ?_ ⟨rfl, ⟨hi, late_set hlate (by decide)⟩⟩
              simp only [execOp, h24]
              have z3 : (ByteArray.mk #[32, 61, 32]).size = 3 := rfl
              have z2 : (ByteArray.mk #[44, 32]).size = 2 := rfl
              simp [go_sem, ByteArray.size_append]
              omega
            · refine step_none rfl ?_
              refine opIn_value wideAt_plain (fun c h => by cases h) (v := .slice (some ⟨g, off, none⟩) N c) (W' := Wy) ?_ ⟨rfl, ⟨hi, late_set hlate (by decide)⟩⟩
              simp only [execOp, old0]
              simp only [Sem.run_pure]
            · refine step_none rfl ?_
              refine opIn_value wideAt_plain (fun c h => by cases h) (v := .int .i64 ((0 : Nat) : Int)) (W' := Wy) ?_ ⟨rfl, ⟨hi, late_set hlate (by decide)⟩⟩
              simp only [execOp, old4]
              simp only [Sem.run_pure]
            · refine step_none rfl ?_
              have h26 : a.eval (.tmp 26) = .slice (some ⟨g, off, none⟩) N c := ha.eval_got (j := 8) (by rw [← hops]; rfl) rfl (hall ⟨8, .data⟩ (by simp) rfl)
              have h27 : a.eval (.tmp 27) = .int .i64 ((0 : Nat) : Int) := ha.eval_got (j := 9) (by rw [← hops]; rfl) rfl (hall ⟨9, .data⟩ (by simp) rfl)
              refine opIn_value wideAt_plain (fun c h => by cases h) (v := .pointer (some ⟨g, off, none⟩)) (W' := Wy) ?_ ⟨rfl, ⟨hi, late_set hlate (by decide)⟩⟩
              simp only [execOp, h26, h27]
              simp [go_sem, hjl', hj0] <;> (intro h; exfalso; first | omega | (have := h (by omega); omega))
            · refine step_none rfl ?_
              have h28 : a.eval (.tmp 28) = .pointer (some ⟨g, off, none⟩) := ha.eval_got (j := 10) (by rw [← hops]; rfl) rfl (hall ⟨10, .data⟩ (by simp) rfl)
              refine opIn_value wideAt_plain (fun c h => by cases h) (v := a0.val) (W' := Wy) ?_ ⟨rfl, ⟨hi, late_set hlate (by decide)⟩⟩
              simp only [execOp, h28]
              simp [go_sem, rdCell hi g hg, k0, k1, k2, k3, k4, k5]
            · refine step_none rfl ?_
              have h29 : a.eval (.tmp 29) = a0.val := ha.eval_got (j := 11) (by rw [← hops]; rfl) rfl (hall ⟨11, .data⟩ (by simp) rfl)
              refine opIn_call wideAt_plain (fun c h => by cases h) (f := 33) (args := #[a0.val]) (W' := Wy) ?_ (rvalue_any a0 Wy (HLI.out Wy hi) HFI.out HRI.out) ?_
              · simp only [execOp, h29]
                simp [go_sem]
                simpa [Act.eval] using h29
              · rintro e W1 ⟨rfl, hb⟩
                exact ⟨_, rfl, by rw [HVS.out]; rfl, below_own' hi hb, late_set hlate (by decide)⟩
            · refine step_none rfl ?_
              have h25 : a.eval (.tmp 25) = .string (st ++ a0.name ++ ⟨#[32, 61, 32]⟩) := ha.eval_got (j := 7) (by rw [← hops]; rfl) rfl (hall ⟨7, .data⟩ (by simp) rfl)
              have h30 : a.eval (.tmp 30) = .string vs := ha.eval_got (j := 12) (by rw [← hops]; rfl) rfl (hall ⟨12, .data⟩ (by simp) rfl)
              refine opIn_value wideAt_plain (fun c h => by cases h) (v := .string (st ++ a0.name ++ ⟨#[32, 61, 32]⟩ ++ vs)) (W' := Wy) ?_ ⟨rfl, ⟨hi, late_set hlate (by decide)⟩⟩
              simp only [execOp, h25, h30]
              have z3 : (ByteArray.mk #[32, 61, 32]).size = 3 := rfl
              have z2 : (ByteArray.mk #[44, 32]).size = 2 := rfl
              simp [go_sem, ByteArray.size_append]
              omega
          case tail =>
            intro Wz hz
            replace hz := hz.1
            subst hops
            simp only [frameOf, Act.put, Option.bind_some, List.getElem?_toArray, List.getElem?_cons_zero, List.getElem?_cons_succ, List.setIfInBounds_toArray, List.set_cons_zero, List.set_cons_succ, List.drop_succ_cons, List.drop_zero]
            have HZ := Lib.hid hz
            clear hz
            gi_wp2_with fail
            go_roundw
            case rel =>
              refine ⟨1, _, by go_num, rfl, by omega, ?_, below_own' HB.out HZ.out⟩
              rw [HF.out, ← HX.out]
              simp [HST.out, itemB, HVS.out, joinS, Lib.join_nil]
            case measure => simp [intOf]; omega
        · have HF := Lib.hid (joinS_snoc (ls := ls) hll h0)
          have h0i : (0 : Int) < (j : Int) := by omega
          gi_wp2_with fail
          generalize hops : (#[_, _, _, _, _, _, _, _, _, _, _, _, _, _, _] : Array Oper) = ops
          refine wpIn_region_inv_tail 14 (fun i => match i with | 0 => .string ((st ++ ⟨#[44, 32]⟩)) | 1 => .slice (some ⟨g, off, none⟩) N c | 2 => .int .i64 (j : Int) | 3 => .pointer (some ⟨g, off + j * 6, none⟩) | 4 => .pointer (some ⟨g, off + j * 6, none⟩) | 5 => .string a0.name | 6 => .string ((st ++ ⟨#[44, 32]⟩) ++ a0.name) | 7 => .string ((st ++ ⟨#[44, 32]⟩) ++ a0.name ++ ⟨#[32, 61, 32]⟩) | 8 => .slice (some ⟨g, off, none⟩) N c | 9 => .int .i64 (j : Int) | 10 => .pointer (some ⟨g, off + j * 6, none⟩) | 11 => a0.val | 12 => .string vs | 13 => .string ((st ++ ⟨#[44, 32]⟩) ++ a0.name ++ ⟨#[32, 61, 32]⟩ ++ vs) | _ => undef)
            (fun lst Wy => (Below wr.heap.size wr Wy) ∧ Late 14 lst) (by kernel_rfl) (by rw [← hops]; kernel_rfl) (by rw [← hops]; kernel_rfl) (by rw [← hops]; kernel_rfl) (by rw [← hops]; decide) (by rw [← hops]; kernel_rfl) (⟨(Below.refl _ _).drew, late_start (by rw [← hops]; decide)⟩) ?step ?tail
          case step =>
            intro i o listed a Wy ho hs hu hall ha hi hy hlt
            have hlate := hi.2; replace hi := hi.1
            have old0 : a.eval (.tmp 0) = .slice (some ⟨g, off, none⟩) N c := by rw [ha.eval_old (noDst_spec (by rw [← hops]; kernel_rfl))]; rfl
            have old3 : a.eval (.tmp 3) = .string ((st ++ ⟨#[44, 32]⟩)) := by rw [ha.eval_late (k := 14) (by rw [← hops]; kernel_rfl) hlate]; rfl
            have old4 : a.eval (.tmp 4) = .int .i64 (j : Int) := by rw [ha.eval_old (noDst_spec (by rw [← hops]; kernel_rfl))]; rfl
            have hcase : i = 0 ∨ i = 1 ∨ i = 2 ∨ i = 3 ∨ i = 4 ∨ i = 5 ∨ i = 6 ∨ i = 7 ∨ i = 8 ∨ i = 9 ∨ i = 10 ∨ i = 11 ∨ i = 12 ∨ i = 13 := by omega
            rcases hcase with rfl | rfl | rfl | rfl | rfl | rfl | rfl | rfl | rfl | rfl | rfl | rfl | rfl | rfl
            all_goals (have ho' := ho; rw [← hops] at ho'; simp only [List.getElem?_toArray, List.getElem?_cons_zero, List.getElem?_cons_succ, Option.some.injEq] at ho'; subst ho')
            · refine step_none rfl ?_
              refine opIn_value wideAt_plain (fun c h => by cases h) (v := .string ((st ++ ⟨#[44, 32]⟩))) (W' := Wy) ?_ ⟨rfl, ⟨hi, late_set hlate (by decide)⟩⟩
              simp only [execOp, old3]
              simp only [Sem.run_pure]
            · refine step_none rfl ?_
              refine opIn_value wideAt_plain (fun c h => by cases h) (v := .slice (some ⟨g, off, none⟩) N c) (W' := Wy) ?_ ⟨rfl, ⟨hi, late_set hlate (by decide)⟩⟩
              simp only [execOp, old0]
              simp only [Sem.run_pure]
            · refine step_none rfl ?_
              refine opIn_value wideAt_plain (fun c h => by cases h) (v := .int .i64 (j : Int)) (W' := Wy) ?_ ⟨rfl, ⟨hi, late_set hlate (by decide)⟩⟩
              simp only [execOp, old4]
              simp only [Sem.run_pure]
            · refine step_none rfl ?_
              have h19 : a.eval (.tmp 19) = .slice (some ⟨g, off, none⟩) N c := ha.eval_got (j := 1) (by rw [← hops]; rfl) rfl (hall ⟨1, .data⟩ (by simp) rfl)
              have h20 : a.eval (.tmp 20) = .int .i64 (j : Int) := ha.eval_got (j := 2) (by rw [← hops]; rfl) rfl (hall ⟨2, .data⟩ (by simp) rfl)
              refine opIn_value wideAt_plain (fun c h => by cases h) (v := .pointer (some ⟨g, off + j * 6, none⟩)) (W' := Wy) ?_ ⟨rfl, ⟨hi, late_set hlate (by decide)⟩⟩
              simp only [execOp, h19, h20]
              simp [go_sem, hjl', hj0] <;> (intro h; exfalso; first | omega | (have := h (by omega); omega))
            · refine step_none rfl ?_
              have h21 : a.eval (.tmp 21) = .pointer (some ⟨g, off + j * 6, none⟩) := ha.eval_got (j := 3) (by rw [← hops]; rfl) rfl (hall ⟨3, .data⟩ (by simp) rfl)
              refine opIn_value wideAt_plain (fun c h => by cases h) (v := .pointer (some ⟨g, off + j * 6, none⟩)) (W' := Wy) ?_ ⟨rfl, ⟨hi, late_set hlate (by decide)⟩⟩
              simp only [execOp, h21]
              simp [go_sem]
            · refine step_none rfl ?_
              have h22 : a.eval (.tmp 22) = .pointer (some ⟨g, off + j * 6, none⟩) := ha.eval_got (j := 4) (by rw [← hops]; rfl) rfl (hall ⟨4, .data⟩ (by simp) rfl)
              refine opIn_value wideAt_plain (fun c h => by cases h) (v := .string a0.name) (W' := Wy) ?_ ⟨rfl, ⟨hi, late_set hlate (by decide)⟩⟩
              simp only [execOp, h22]
              simp [go_sem, rdCell hi g hg, k0, k1, k2, k3, k4, k5]
            · refine step_none rfl ?_
              have h18 : a.eval (.tmp 18) = .string ((st ++ ⟨#[44, 32]⟩)) := ha.eval_got (j := 0) (by rw [← hops]; rfl) rfl (hall ⟨0, .data⟩ (by simp) rfl)
              have h23 : a.eval (.tmp 23) = .string a0.name := ha.eval_got (j := 5) (by rw [← hops]; rfl) rfl (hall ⟨5, .data⟩ (by simp) rfl)
              refine opIn_value wideAt_plain (fun c h => by cases h) (v := .string ((st ++ ⟨#[44, 32]⟩) ++ a0.name)) (W' := Wy) ?_ ⟨rfl, ⟨hi, late_set hlate (by decide)⟩⟩
              simp only [execOp, h18, h23]
              have z3 : (ByteArray.mk #[32, 61, 32]).size = 3 := rfl
              have z2 : (ByteArray.mk #[44, 32]).size = 2 := rfl
              simp [go_sem, ByteArray.size_append]
              omega
            · refine step_none rfl ?_
              have h24 : a.eval (.tmp 24) = .string ((st ++ ⟨#[44, 32]⟩) ++ a0.name) := ha.eval_got (j := 6) (by rw [← hops]; rfl) rfl (hall ⟨6, .data⟩ (by simp) rfl)
              refine opIn_value wideAt_plain (fun c h => by cases h) (v := .string ((st ++ ⟨#[44, 32]⟩) ++ a0.name ++ ⟨#[32, 61, 32]⟩)) (W' := Wy) ?_ ⟨rfl, ⟨hi, late_set hlate (by decide)⟩⟩
              simp only [execOp, h24]
              have z3 : (ByteArray.mk #[32, 61, 32]).size = 3 := rfl
              have z2 : (ByteArray.mk #[44, 32]).size = 2 := rfl
              simp [go_sem, ByteArray.size_append]
              omega
            · refine step_none rfl ?_
              refine opIn_value wideAt_plain (fun c h => by cases h) (v := .slice (some ⟨g, off, none⟩) N c) (W' := Wy) ?_ ⟨rfl, ⟨hi, late_set hlate (by decide)⟩⟩
              simp only [execOp, old0]
              simp only [Sem.run_pure]
            · refine step_none rfl ?_
              refine opIn_value wideAt_plain (fun c h => by cases h) (v := .int .i64 (j : Int)) (W' := Wy) ?_ ⟨rfl, ⟨hi, late_set hlate (by decide)⟩⟩
              simp only [execOp, old4]
              simp only [Sem.run_pure]
            · refine step_none rfl ?_
              have h26 : a.eval (.tmp 26) = .slice (some ⟨g, off, none⟩) N c := ha.eval_got (j := 8) (by rw [← hops]; rfl) rfl (hall ⟨8, .data⟩ (by simp) rfl)
              have h27 : a.eval (.tmp 27) = .int .i64 (j : Int) := ha.eval_got (j := 9) (by rw [← hops]; rfl) rfl (hall ⟨9, .data⟩ (by simp) rfl)
              refine opIn_value wideAt_plain (fun c h => by cases h) (v := .pointer (some ⟨g, off + j * 6, none⟩)) (W' := Wy) ?_ ⟨rfl, ⟨hi, late_set hlate (by decide)⟩⟩
              simp only [execOp, h26, h27]
              simp [go_sem, hjl', hj0] <;> (intro h; exfalso; first | omega | (have := h (by omega); omega))
            · refine step_none rfl ?_
              have h28 : a.eval (.tmp 28) = .pointer (some ⟨g, off + j * 6, none⟩) := ha.eval_got (j := 10) (by rw [← hops]; rfl) rfl (hall ⟨10, .data⟩ (by simp) rfl)
              refine opIn_value wideAt_plain (fun c h => by cases h) (v := a0.val) (W' := Wy) ?_ ⟨rfl, ⟨hi, late_set hlate (by decide)⟩⟩
              simp only [execOp, h28]
              simp [go_sem, rdCell hi g hg, k0, k1, k2, k3, k4, k5]
            · refine step_none rfl ?_
              have h29 : a.eval (.tmp 29) = a0.val := ha.eval_got (j := 11) (by rw [← hops]; rfl) rfl (hall ⟨11, .data⟩ (by simp) rfl)
              refine opIn_call wideAt_plain (fun c h => by cases h) (f := 33) (args := #[a0.val]) (W' := Wy) ?_ (rvalue_any a0 Wy (HLI.out Wy hi) HFI.out HRI.out) ?_
              · simp only [execOp, h29]
                simp [go_sem]
                simpa [Act.eval] using h29
              · rintro e W1 ⟨rfl, hb⟩
                exact ⟨_, rfl, by rw [HVS.out]; rfl, below_own' hi hb, late_set hlate (by decide)⟩
            · refine step_none rfl ?_
              have h25 : a.eval (.tmp 25) = .string ((st ++ ⟨#[44, 32]⟩) ++ a0.name ++ ⟨#[32, 61, 32]⟩) := ha.eval_got (j := 7) (by rw [← hops]; rfl) rfl (hall ⟨7, .data⟩ (by simp) rfl)
              have h30 : a.eval (.tmp 30) = .string vs := ha.eval_got (j := 12) (by rw [← hops]; rfl) rfl (hall ⟨12, .data⟩ (by simp) rfl)
              refine opIn_value wideAt_plain (fun c h => by cases h) (v := .string ((st ++ ⟨#[44, 32]⟩) ++ a0.name ++ ⟨#[32, 61, 32]⟩ ++ vs)) (W' := Wy) ?_ ⟨rfl, ⟨hi, late_set hlate (by decide)⟩⟩
              simp only [execOp, h25, h30]
              have z3 : (ByteArray.mk #[32, 61, 32]).size = 3 := rfl
              have z2 : (ByteArray.mk #[44, 32]).size = 2 := rfl
              simp [go_sem, ByteArray.size_append]
              omega
          case tail =>
            intro Wz hz
            replace hz := hz.1
            subst hops
            simp only [frameOf, Act.put, Option.bind_some, List.getElem?_toArray, List.getElem?_cons_zero, List.getElem?_cons_succ, List.setIfInBounds_toArray, List.set_cons_zero, List.set_cons_succ, List.drop_succ_cons, List.drop_zero]
            have HZ := Lib.hid hz
            clear hz
            gi_wp2_with fail
            go_roundw
            case rel =>
              refine ⟨j + 1, _, by go_num, rfl, by omega, ?_, below_own' HB.out HZ.out⟩
              rw [HF.out, ← HX.out]
              simp [HST.out, itemB, HVS.out, joinS, Lib.join_nil]
            case measure => simp [intOf]; omega
      · have HJ : Hid (j = N) := Lib.hid (by omega)
        gi_wp2_with fail
        go_ret
        refine ⟨?_, HB.out⟩
        have e1 : st ++ ⟨#[125]⟩ = ⟨(listD (l.map Atr.dat)).toArray⟩ := by
          apply ByteArray.ext
          apply Array.ext'
          have h1 := HST.out
          rw [List.take_of_length_le (by rw [HLN.out, HJ.out]; exact Nat.le_refl _)] at h1
          have hm : ls.map (fun x => x.data.toList) = (l.map Atr.dat).map itemD := by
            rw [HLS.out, List.map_map, List.map_map]; apply List.map_congr_left; intro a _; exact itemB_list a
          rw [listD, if_neg (by simpa using HNIL.out), ← hm]
          simp [h1, joinS]
        exact congrArg (fun t => Ending.returned (.string t)) e1
end Go.Proofs.YtmepjbjmjbpchaaGreatDoor
end
section
/- Comparing kinds, the first that is not 0, the reference's cmp. -/
namespace Go.Proofs.YtmepjbjmjbpchaaGreatDoor
open Go Go.RowKit
set_option linter.unusedVariables false
set_option linter.unusedSimpArgs false

/-- cmp.Compare at kinds. -/
def kCmp (a b : Int) : Int := if a < b then -1 else if b < a then 1 else 0
theorem isNaNK_any (k : Int) (w : World) : Calls Tryz.prog 81 #[.int .i64 k] w fun e w' => e = .returned (.bool false) ∧ w = w' := by
  go_enter Tryz.func81, Tryz.ntmps81
  go_wp2_with fail
  go_ret
  exact ⟨by simp, rfl⟩
theorem compareK_any (a b : Int) (w : World) : Calls Tryz.prog 57 #[.int .i64 a, .int .i64 b] w fun e w' => e = .returned (.int .i64 (kCmp a b)) ∧ w = w' := by
  have h3 : a < b ∨ (¬ a < b ∧ b < a) ∨ (¬ a < b ∧ ¬ b < a) := by omega
  rcases h3 with h | ⟨h, h2⟩ | ⟨h, h2⟩
  · have hv : Hid (kCmp a b = -1) := Lib.hid (by unfold kCmp; rw [if_pos h])
    go_enter Tryz.func57, Tryz.ntmps57
    go_wp2_with (go_at_call 81; refine (isNaNK_any _ _).mono ?_; rintro e w1 ⟨rfl, rfl⟩)
    go_ret
    exact ⟨by rw [hv.out]; rfl, rfl⟩
  · have hv : Hid (kCmp a b = 1) := Lib.hid (by unfold kCmp; rw [if_neg h, if_pos h2])
    go_enter Tryz.func57, Tryz.ntmps57
    go_wp2_with (go_at_call 81; refine (isNaNK_any _ _).mono ?_; rintro e w1 ⟨rfl, rfl⟩)
    go_ret
    exact ⟨by rw [hv.out]; rfl, rfl⟩
  · have hv : Hid (kCmp a b = 0) := Lib.hid (by unfold kCmp; rw [if_neg h, if_neg h2])
    go_enter Tryz.func57, Tryz.ntmps57
    go_wp2_with (go_at_call 81; refine (isNaNK_any _ _).mono ?_; rintro e w1 ⟨rfl, rfl⟩)
    go_ret
    exact ⟨by rw [hv.out]; rfl, rfl⟩
/-- The first of three that is not 0. -/
def orI (x y z : Int) : Int := if x ≠ 0 then x else if y ≠ 0 then y else z
set_option maxRecDepth 100000 in
theorem or_any (g : Nat) (x y z : Int) (w : World) (h0 : w.cell? ⟨g, 0, none⟩ = some (.int .i64 x)) (h1 : w.cell? ⟨g, 1, none⟩ = some (.int .i64 y)) (h2 : w.cell? ⟨g, 2, none⟩ = some (.int .i64 z)) :
    Calls Tryz.prog 55 #[.slice (some ⟨g, 0, none⟩) 3 3] w fun e w' => e = .returned (.int .i64 (orI x y z)) ∧ w = w' := by
  go_enter Tryz.func55, Tryz.ntmps55
  go_wp2_with fail
  go_loop [8] (fun i => (i = .int .i64 0) ∨ (i = .int .i64 1 ∧ x = 0) ∨ (i = .int .i64 2 ∧ x = 0 ∧ y = 0) ∨ (i = .int .i64 3 ∧ x = 0 ∧ y = 0 ∧ z = 0)) (fun i => 3 - (intOf i).toNat)
  case atStart => exact .inl rfl
  case round =>
    rcases hrel with rfl | ⟨rfl, hx⟩ | ⟨rfl, hx, hy⟩ | ⟨rfl, hx, hy, hz⟩
    · by_cases hx : x = 0
      · have HX := Lib.hid hx
        have hb : (x != 0) = false := by simpa using hx
        clear hx
        go_wp2_with fail
        go_round
        case rel => exact .inr (.inl ⟨rfl, HX.out⟩)
        case measure => simp [intOf]
      · have hb : (x != 0) = true := by simpa using hx
        have HX := Lib.hid hx
        clear hx
        go_wp2_with fail
        go_ret
        exact ⟨by rw [orI, if_pos HX.out]; rfl, rfl⟩
    · have HX := Lib.hid hx
      clear hx
      by_cases hy : y = 0
      · have HY := Lib.hid hy
        have hb : (y != 0) = false := by simpa using hy
        clear hy
        go_wp2_with fail
        go_round
        case rel => exact .inr (.inr (.inl ⟨rfl, HX.out, HY.out⟩))
        case measure => simp [intOf]
      · have hb : (y != 0) = true := by simpa using hy
        have HY := Lib.hid hy
        clear hy
        go_wp2_with fail
        go_ret
        exact ⟨by rw [orI, if_neg (by simpa using HX.out), if_pos HY.out]; rfl, rfl⟩
    · have HX := Lib.hid hx
      have HY := Lib.hid hy
      clear hx hy
      by_cases hz : z = 0
      · have HZ := Lib.hid hz
        have hb : (z != 0) = false := by simpa using hz
        clear hz
        go_wp2_with fail
        go_round
        case rel => exact .inr (.inr (.inr ⟨rfl, HX.out, HY.out, HZ.out⟩))
        case measure => simp [intOf]
      · have hb : (z != 0) = true := by simpa using hz
        have HZ := Lib.hid hz
        clear hz
        go_wp2_with fail
        go_ret
        exact ⟨by rw [orI, if_neg (by simpa using HX.out), if_neg (by simpa using HY.out)]; rfl, rfl⟩
    · have HX : Hid (orI x y z = 0) := Lib.hid (by rw [orI, if_neg (by simpa using hx), if_neg (by simpa using hy), hz])
      clear hx hy hz
      go_wp2_with fail
      go_ret
      exact ⟨by rw [HX.out]; rfl, rfl⟩
end Go.Proofs.YtmepjbjmjbpchaaGreatDoor
end
