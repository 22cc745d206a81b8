/- Texts of this claim, laid together: Ax1, TyK, Sp0. -/
import Derived.Test.YtmepjbjmjbpchaaGreatDoorMg4
import Derived.Test.YtmepjbjmjbpchaaGreatDoorMg6
import Derived.Test.YtmepjbjmjbpchaaGreatDoorMg7
import Derived.Test.YtmepjbjmjbpchaaGreatDoorMg14
section
/- graph.Quote. -/
namespace Go.Proofs.YtmepjbjmjbpchaaGreatDoor
open Go Go.RowKit
set_option linter.unusedVariables false
set_option linter.unusedSimpArgs false
attribute [local go_sem] Oper.semAt_some

structure QtI (w : World) (pre : List UInt8) (W : World) : Prop where
  bld : IsB w.heap.size w.heap.size (Lib.byteCells pre) W
  below : Below w.heap.size w W
theorem QtI.on {w W W1 : World} {pre : List UInt8} (h : QtI w pre W) (hb : Below W.heap.size W W1) : QtI w pre W1 := ⟨isB_below h.bld hb, below_own' h.below hb⟩
theorem QtI.put {w W W1 : World} {pre m : List UInt8} (h : QtI w pre W) (h1 : IsB w.heap.size w.heap.size (Lib.byteCells pre ++ Lib.byteCells m) W1) (hb : Below w.heap.size W W1) : QtI w (pre ++ m) W1 :=
  ⟨by rw [Lib.byteCells_append]; exact h1, h.below.trans hb⟩
theorem qt_byte {w W : World} {pre : List UInt8} (h : QtI w pre W) (c : UInt8) (hl : pre.length + 1 ≤ 140737488355328) :
    Calls Tryz.prog 92 #[.pointer (some ⟨w.heap.size, 0, none⟩), .int .u8 (c.toNat : Int)] W fun e w' => e = .returned .nilIface ∧ QtI w (pre ++ [c]) w' :=
  (bld_byte w.heap.size w.heap.size _ (c.toNat : Int) W h.bld (by rw [Lib.byteCells_length]; exact hl) h.below.size).mono fun e w' ⟨he, h1, h2⟩ => ⟨he, h.put h1 h2⟩
theorem qt_str {w W : World} {pre : List UInt8} (h : QtI w pre W) (s : ByteArray) (m : List UInt8) (hs : s.data.toList = m) (hl : pre.length + m.length ≤ 140737488355328) :
    Calls Tryz.prog 118 #[.pointer (some ⟨w.heap.size, 0, none⟩), .string s] W fun e w' => e = .returned (.tuple #[.int .i64 s.size, .nilIface]) ∧ QtI w (pre ++ m) w' :=
  (bld_write w.heap.size w.heap.size _ s W h.bld (by rw [Lib.byteCells_length]; subst hs; simpa using hl) h.below.size).mono fun e w' ⟨he, h1, h2⟩ => ⟨he, h.put (by rw [← hs]; exact h1) h2⟩
theorem qt_out {w W : World} {pre : List UInt8} (h : QtI w pre W) :
    Calls Tryz.prog 93 #[.pointer (some ⟨w.heap.size, 0, none⟩)] W fun e w' => e = .returned (.string ⟨pre.toArray⟩) ∧ Below w.heap.size w w' :=
  (Tryz.Builder_String_any w.heap.size w.heap.size pre W h.bld h.below.size).mono fun e w' ⟨he, hb⟩ => ⟨he, h.below.trans hb⟩

theorem u8_keep (z : Int) (h0 : 0 ≤ z) (h1 : z < 256) : IntKind.u8.wrap z = z := by
  exact IntWalk.u8_in _ (by omega)
theorem hex_cut (n : Nat) (h : n < 16) : (ByteArray.mk #[48, 49, 50, 51, 52, 53, 54, 55, 56, 57, 97, 98, 99, 100, 101, 102]).extract n (n + 1) = ⟨#[hexOf n]⟩ := by
  have : n = 0 ∨ n = 1 ∨ n = 2 ∨ n = 3 ∨ n = 4 ∨ n = 5 ∨ n = 6 ∨ n = 7 ∨ n = 8 ∨ n = 9 ∨ n = 10 ∨ n = 11 ∨ n = 12 ∨ n = 13 ∨ n = 14 ∨ n = 15 := by omega
  rcases this with rfl | rfl | rfl | rfl | rfl | rfl | rfl | rfl | rfl | rfl | rfl | rfl | rfl | rfl | rfl | rfl <;> rfl

theorem hex_cutI (z : Int) (n : Nat) (hz : z = (n : Int)) (h : n < 16) : (ByteArray.mk #[48, 49, 50, 51, 52, 53, 54, 55, 56, 57, 97, 98, 99, 100, 101, 102]).extract z.toNat (z + 1).toNat = ⟨#[hexOf n]⟩ := by
  have e1 : z.toNat = n := by omega
  have e2 : (z + 1).toNat = n + 1 := by omega
  rw [e1, e2, hex_cut n h]

set_option maxRecDepth 100000 in
set_option maxHeartbeats 8000000 in
theorem quote_any (s : ByteArray) (w : World) (hs : 4 * s.size + 2 ≤ 140737488355328) :
    Calls Tryz.prog 137 #[.string s] w fun e w' => e = .returned (.string ⟨(quoteL s.data.toList).toArray⟩) ∧ Below w.heap.size w w' := by
  have h0 : QtI w [] (w.alloc (.cells #[.pointer none, .slice none 0 0] 136)) := ⟨Lib.fresh_isBuilder _ _ w, (Below.refl _ w).alloc (Nat.le_refl _) _⟩
  have hq : ∀ i, (escL (s.data.toList.take i)).length ≤ 4 * i := fun i => by
    have := escL_len (s.data.toList.take i)
    have h2 : (s.data.toList.take i).length ≤ i := by simp; omega
    omega
  have HQ := Lib.hid hq
  have H0 := Lib.hid h0
  clear h0 hq
  refine (callsIn_wide (n := 6)).1 ?_
  refine callsIn_of_wp Tryz.func137 rfl trivial ?_ rfl
  simp only [Tryz.ntmps137, List.size_toArray, List.length_cons, List.length_nil, Nat.reduceAdd, Nat.reduceSub, Array.replicate_succ, Array.replicate_zero, List.push_toArray, List.append_toArray, List.nil_append, List.cons_append]
  gi_wp2_with (refine ⟨trivial, ?_⟩; gi_at_call 92; refine (callsIn_wide.2 (qt_byte H0.out 34 (by simp))).mono ?_; rintro e w1 ⟨rfl, hq1⟩)
  have HI := Lib.hid hq1
  clear hq1
  gi_loopw [9] (fun i wr => ∃ j : Nat, i = .int .i64 j ∧ j ≤ s.size ∧ QtI w (34 :: escL (s.data.toList.take j)) wr) (fun i _ => s.size - (intOf i).toNat)
  case atStart => exact ⟨0, rfl, Nat.zero_le _, HI.out⟩
  case round =>
    clear HI H0
    obtain ⟨j, rfl, hj, hI⟩ := hrel
    have HI := Lib.hid hI
    clear hI
    have hq := HQ.out j
    obtain ⟨pre, hpre⟩ : ∃ pre, pre = 34 :: escL (s.data.toList.take j) := ⟨_, rfl⟩
    have hpl : pre.length ≤ 4 * j + 1 := by rw [hpre]; simp; omega
    rw [← hpre] at HI
    have HPRE := Lib.hid hpre
    clear hpre hq
    rcases Nat.lt_or_ge j s.size with hjs | hge
    · have hll : j < s.data.toList.length := by simpa using hjs
      have HS : Hid (34 :: escL (s.data.toList.take (j + 1)) = pre ++ escOf (s[j]'hjs)) := Lib.hid (by rw [HPRE.out, escL_snoc hll]; rfl)
      have go : ∀ (W : World) (m : List UInt8), escOf (s[j]'hjs) = m → QtI w (pre ++ m) W → QtI w (34 :: escL (s.data.toList.take (j + 1))) W := fun W m hm h => by rw [HS.out, hm]; exact h
      have GO := Lib.hid go
      clear go hll
      have hx := (s[j]'hjs).toNat_lt
      by_cases c34 : (s[j]'hjs).toNat = 34
      · have hc : s[j]'hjs = 34 := UInt8.toNat_inj.1 c34
        have he : Hid (escOf (s[j]'hjs) = [92, 34]) := Lib.hid (by rw [hc]; rfl)
        clear hc
        gi_wp2_with (refine ⟨trivial, ?_⟩; gi_at_call 118; refine (callsIn_wide.2 (qt_str HI.out _ [92, 34] (by rfl) (by simp; omega))).mono ?_; rintro e w2 ⟨rfl, hq2⟩)
        go_roundw
        case rel => exact ⟨j + 1, by go_num, by omega, GO.out _ _ he.out hq2⟩
        case measure => simp [intOf]; omega
      · by_cases c92 : (s[j]'hjs).toNat = 92
        · have hc : s[j]'hjs = 92 := UInt8.toNat_inj.1 c92
          have he : Hid (escOf (s[j]'hjs) = [92, 92]) := Lib.hid (by rw [hc]; rfl)
          clear hc
          gi_wp2_with (refine ⟨trivial, ?_⟩; gi_at_call 118; refine (callsIn_wide.2 (qt_str HI.out _ [92, 92] (by rfl) (by simp; omega))).mono ?_; rintro e w2 ⟨rfl, hq2⟩)
          go_roundw
          case rel => exact ⟨j + 1, by go_num, by omega, GO.out _ _ he.out hq2⟩
          case measure => simp [intOf]; omega
        · have b34 : (((s[j]'hjs).toNat : Int) == 34) = false := by simp; omega
          have b92 : (((s[j]'hjs).toNat : Int) == 92) = false := by simp; omega
          have n34 : ¬ s[j]'hjs = 34 := fun h => c34 (by rw [h]; rfl)
          have n92 : ¬ s[j]'hjs = 92 := fun h => c92 (by rw [h]; rfl)
          by_cases c10 : (s[j]'hjs).toNat = 10
          · have hc : s[j]'hjs = 10 := UInt8.toNat_inj.1 c10
            have he : Hid (escOf (s[j]'hjs) = [92, 110]) := Lib.hid (by rw [hc]; rfl)
            clear hc n34 n92
            gi_wp2_with (refine ⟨trivial, ?_⟩; gi_at_call 118; refine (callsIn_wide.2 (qt_str HI.out _ [92, 110] (by rfl) (by simp; omega))).mono ?_; rintro e w2 ⟨rfl, hq2⟩)
            go_roundw
            case rel => exact ⟨j + 1, by go_num, by omega, GO.out _ _ he.out hq2⟩
            case measure => simp [intOf]; omega
          · have b10 : (((s[j]'hjs).toNat : Int) == 10) = false := by simp; omega
            have n10 : ¬ s[j]'hjs = 10 := fun h => c10 (by rw [h]; rfl)
            by_cases cx : (s[j]'hjs).toNat < 32 ∨ 126 < (s[j]'hjs).toNat
            · have he : Hid (escOf (s[j]'hjs) = [92, 120, hexOf ((s[j]'hjs).toNat / 16), hexOf ((s[j]'hjs).toNat % 16)]) := Lib.hid (by unfold escOf; rw [if_neg n34, if_neg n92, if_neg n10, if_pos cx])
              clear n34 n92 n10
              have CX := Lib.hid cx
              clear cx
              rcases CX.out with c32 | c126
              all_goals
                gi_wp2_with fail
                have hd : (s[j]'hjs).toNat / 16 < 16 := by omega
                have hm : (s[j]'hjs).toNat % 16 < 16 := by omega
                generalize hops : (#[_, _, _, _, _, _, _, _, _, _, _, _, _, _, _] : Array Oper) = ops
                refine wpIn_region_inv_tail 14 (fun i => match i with | 0 => .int .u8 (((s[j]'hjs).toNat : Nat) : Int) | 1 => .int .u8 (((s[j]'hjs).toNat / 16 : Nat) : Int) | 2 => .int .u8 (((s[j]'hjs).toNat : Nat) : Int) | 3 => .int .u8 (((s[j]'hjs).toNat / 16 : Nat) : Int) | 4 => .int .u8 (((s[j]'hjs).toNat / 16 + 1 : Nat) : Int) | 5 => .string ⟨#[hexOf ((s[j]'hjs).toNat / 16)]⟩ | 6 => .string (⟨#[92, 120]⟩ ++ ⟨#[hexOf ((s[j]'hjs).toNat / 16)]⟩) | 7 => .int .u8 (((s[j]'hjs).toNat : Nat) : Int) | 8 => .int .u8 (((s[j]'hjs).toNat % 16 : Nat) : Int) | 9 => .int .u8 (((s[j]'hjs).toNat : Nat) : Int) | 10 => .int .u8 (((s[j]'hjs).toNat % 16 : Nat) : Int) | 11 => .int .u8 (((s[j]'hjs).toNat % 16 + 1 : Nat) : Int) | 12 => .string ⟨#[hexOf ((s[j]'hjs).toNat % 16)]⟩ | 13 => .string (⟨#[92, 120]⟩ ++ ⟨#[hexOf ((s[j]'hjs).toNat / 16)]⟩ ++ ⟨#[hexOf ((s[j]'hjs).toNat % 16)]⟩) | _ => undef)
                  (fun _ Wy => Below wr.heap.size wr Wy) (by kernel_rfl) (by rw [← hops]; kernel_rfl) (by rw [← hops]; kernel_rfl) (by rw [← hops]; kernel_rfl) (by rw [← hops]; decide) (by rw [← hops]; kernel_rfl) ((Below.refl _ _).drew) ?step ?tail
                case step =>
                  intro i o listed a Wy ho hs hu hall ha hi hy hlt
                  have old5 : a.eval (.tmp 5) = .int .u8 (((s[j]'hjs).toNat : Nat) : Int) := by rw [ha.eval_old (noDst_spec (by rw [← hops]; kernel_rfl))]; rfl
                  have hcase : i = 0 ∨ i = 1 ∨ i = 2 ∨ i = 3 ∨ i = 4 ∨ i = 5 ∨ i = 6 ∨ i = 7 ∨ i = 8 ∨ i = 9 ∨ i = 10 ∨ i = 11 ∨ i = 12 ∨ i = 13 := by omega
                  rcases hcase with rfl | rfl | rfl | rfl | rfl | rfl | rfl | rfl | rfl | rfl | rfl | rfl | rfl | rfl
                  all_goals (have ho' := ho; rw [← hops] at ho'; simp only [List.getElem?_toArray, List.getElem?_cons_zero, List.getElem?_cons_succ, Option.some.injEq] at ho'; subst ho')
                  · refine step_none rfl ?_
                    refine opIn_value wideAt_plain (fun c h => by cases h) (v := .int .u8 (((s[j]'hjs).toNat : Nat) : Int)) (W' := Wy) ?_ ⟨rfl, hi⟩
                    simp only [execOp, old5]
                    simp only [Sem.run_pure]
                  · refine step_none rfl ?_
                    have h40 : a.eval (.tmp 40) = .int .u8 (((s[j]'hjs).toNat : Nat) : Int) := ha.eval_got (j := 0) (by rw [← hops]; rfl) rfl (hall ⟨0, .data⟩ (by simp) rfl)
                    refine opIn_value wideAt_plain (fun c h => by cases h) (v := .int .u8 (((s[j]'hjs).toNat / 16 : Nat) : Int)) (W' := Wy) ?_ ⟨rfl, hi⟩
                    simp only [execOp, h40]
                    simp [go_sem]
                    exact u8_keep _ (by omega) (by omega)
                  · refine step_none rfl ?_
                    refine opIn_value wideAt_plain (fun c h => by cases h) (v := .int .u8 (((s[j]'hjs).toNat : Nat) : Int)) (W' := Wy) ?_ ⟨rfl, hi⟩
                    simp only [execOp, old5]
                    simp only [Sem.run_pure]
                  · refine step_none rfl ?_
                    have h42 : a.eval (.tmp 42) = .int .u8 (((s[j]'hjs).toNat : Nat) : Int) := ha.eval_got (j := 2) (by rw [← hops]; rfl) rfl (hall ⟨2, .data⟩ (by simp) rfl)
                    refine opIn_value wideAt_plain (fun c h => by cases h) (v := .int .u8 (((s[j]'hjs).toNat / 16 : Nat) : Int)) (W' := Wy) ?_ ⟨rfl, hi⟩
                    simp only [execOp, h42]
                    simp [go_sem]
                    exact u8_keep _ (by omega) (by omega)
                  · refine step_none rfl ?_
                    have h43 : a.eval (.tmp 43) = .int .u8 (((s[j]'hjs).toNat / 16 : Nat) : Int) := ha.eval_got (j := 3) (by rw [← hops]; rfl) rfl (hall ⟨3, .data⟩ (by simp) rfl)
                    refine opIn_value wideAt_plain (fun c h => by cases h) (v := .int .u8 (((s[j]'hjs).toNat / 16 + 1 : Nat) : Int)) (W' := Wy) ?_ ⟨rfl, hi⟩
                    simp only [execOp, h43]
                    simp [go_sem]
                    exact u8_keep _ (by omega) (by omega)
                  · refine step_none rfl ?_
                    have h41 : a.eval (.tmp 41) = .int .u8 (((s[j]'hjs).toNat / 16 : Nat) : Int) := ha.eval_got (j := 1) (by rw [← hops]; rfl) rfl (hall ⟨1, .data⟩ (by simp) rfl)
                    have h44 : a.eval (.tmp 44) = .int .u8 (((s[j]'hjs).toNat / 16 + 1 : Nat) : Int) := ha.eval_got (j := 4) (by rw [← hops]; rfl) rfl (hall ⟨4, .data⟩ (by simp) rfl)
                    have q_h41 := h41; simp only [Act.eval, Array.getD_eq_getD_getElem?] at q_h41
                    have q_h44 := h44; simp only [Act.eval, Array.getD_eq_getD_getElem?] at q_h44
                    refine opIn_value wideAt_plain (fun c h => by cases h) (v := .string ⟨#[hexOf ((s[j]'hjs).toNat / 16)]⟩) (W' := Wy) ?_ ⟨rfl, hi⟩
                    simp only [execOp, h41, h44]
                    simp [go_sem, q_h41, q_h44, ]
                    rw [if_pos (by omega), if_pos (by omega), hex_cutI _ ((s[j]'hjs).toNat / 16) (by omega) (by omega)]
                  · refine step_none rfl ?_
                    have h45 : a.eval (.tmp 45) = .string ⟨#[hexOf ((s[j]'hjs).toNat / 16)]⟩ := ha.eval_got (j := 5) (by rw [← hops]; rfl) rfl (hall ⟨5, .data⟩ (by simp) rfl)
                    refine opIn_value wideAt_plain (fun c h => by cases h) (v := .string (⟨#[92, 120]⟩ ++ ⟨#[hexOf ((s[j]'hjs).toNat / 16)]⟩)) (W' := Wy) ?_ ⟨rfl, hi⟩
                    simp only [execOp, h45]
                    simp [go_sem]
                  · refine step_none rfl ?_
                    refine opIn_value wideAt_plain (fun c h => by cases h) (v := .int .u8 (((s[j]'hjs).toNat : Nat) : Int)) (W' := Wy) ?_ ⟨rfl, hi⟩
                    simp only [execOp, old5]
                    simp only [Sem.run_pure]
                  · refine step_none rfl ?_
                    have h47 : a.eval (.tmp 47) = .int .u8 (((s[j]'hjs).toNat : Nat) : Int) := ha.eval_got (j := 7) (by rw [← hops]; rfl) rfl (hall ⟨7, .data⟩ (by simp) rfl)
                    refine opIn_value wideAt_plain (fun c h => by cases h) (v := .int .u8 (((s[j]'hjs).toNat % 16 : Nat) : Int)) (W' := Wy) ?_ ⟨rfl, hi⟩
                    simp only [execOp, h47]
                    simp [go_sem]
                    exact Int.tmod_eq_emod_of_nonneg (by omega)
                  · refine step_none rfl ?_
                    refine opIn_value wideAt_plain (fun c h => by cases h) (v := .int .u8 (((s[j]'hjs).toNat : Nat) : Int)) (W' := Wy) ?_ ⟨rfl, hi⟩
                    simp only [execOp, old5]
                    simp only [Sem.run_pure]
                  · refine step_none rfl ?_
                    have h49 : a.eval (.tmp 49) = .int .u8 (((s[j]'hjs).toNat : Nat) : Int) := ha.eval_got (j := 9) (by rw [← hops]; rfl) rfl (hall ⟨9, .data⟩ (by simp) rfl)
                    refine opIn_value wideAt_plain (fun c h => by cases h) (v := .int .u8 (((s[j]'hjs).toNat % 16 : Nat) : Int)) (W' := Wy) ?_ ⟨rfl, hi⟩
                    simp only [execOp, h49]
                    simp [go_sem]
                    exact Int.tmod_eq_emod_of_nonneg (by omega)
                  · refine step_none rfl ?_
                    have h50 : a.eval (.tmp 50) = .int .u8 (((s[j]'hjs).toNat % 16 : Nat) : Int) := ha.eval_got (j := 10) (by rw [← hops]; rfl) rfl (hall ⟨10, .data⟩ (by simp) rfl)
                    refine opIn_value wideAt_plain (fun c h => by cases h) (v := .int .u8 (((s[j]'hjs).toNat % 16 + 1 : Nat) : Int)) (W' := Wy) ?_ ⟨rfl, hi⟩
                    simp only [execOp, h50]
                    simp [go_sem]
                    exact u8_keep _ (by omega) (by omega)
                  · refine step_none rfl ?_
                    have h48 : a.eval (.tmp 48) = .int .u8 (((s[j]'hjs).toNat % 16 : Nat) : Int) := ha.eval_got (j := 8) (by rw [← hops]; rfl) rfl (hall ⟨8, .data⟩ (by simp) rfl)
                    have h51 : a.eval (.tmp 51) = .int .u8 (((s[j]'hjs).toNat % 16 + 1 : Nat) : Int) := ha.eval_got (j := 11) (by rw [← hops]; rfl) rfl (hall ⟨11, .data⟩ (by simp) rfl)
                    have q_h48 := h48; simp only [Act.eval, Array.getD_eq_getD_getElem?] at q_h48
                    have q_h51 := h51; simp only [Act.eval, Array.getD_eq_getD_getElem?] at q_h51
                    refine opIn_value wideAt_plain (fun c h => by cases h) (v := .string ⟨#[hexOf ((s[j]'hjs).toNat % 16)]⟩) (W' := Wy) ?_ ⟨rfl, hi⟩
                    simp only [execOp, h48, h51]
                    simp [go_sem, q_h48, q_h51, ]
                    rw [if_pos (by omega), if_pos (by omega), hex_cutI _ ((s[j]'hjs).toNat % 16) (by omega) (by omega)]
                  · refine step_none rfl ?_
                    have h46 : a.eval (.tmp 46) = .string (⟨#[92, 120]⟩ ++ ⟨#[hexOf ((s[j]'hjs).toNat / 16)]⟩) := ha.eval_got (j := 6) (by rw [← hops]; rfl) rfl (hall ⟨6, .data⟩ (by simp) rfl)
                    have h52 : a.eval (.tmp 52) = .string ⟨#[hexOf ((s[j]'hjs).toNat % 16)]⟩ := ha.eval_got (j := 12) (by rw [← hops]; rfl) rfl (hall ⟨12, .data⟩ (by simp) rfl)
                    refine opIn_value wideAt_plain (fun c h => by cases h) (v := .string (⟨#[92, 120]⟩ ++ ⟨#[hexOf ((s[j]'hjs).toNat / 16)]⟩ ++ ⟨#[hexOf ((s[j]'hjs).toNat % 16)]⟩)) (W' := Wy) ?_ ⟨rfl, hi⟩
                    simp only [execOp, h46, h52]
                    simp [go_sem]
                case tail =>
                  intro Wz hz
                  subst hops
                  simp only [frameOf, Act.put, Option.bind_some, List.getElem?_toArray, List.getElem?_cons_zero, List.getElem?_cons_succ, List.setIfInBounds_toArray, List.set_cons_zero, List.set_cons_succ, List.drop_succ_cons, List.drop_zero]
                  have HZ := Lib.hid hz
                  clear hz
                  gi_wp2_with (refine ⟨trivial, ?_⟩; gi_at_call 118; refine (callsIn_wide.2 (qt_str (HI.out.on HZ.out) _ [92, 120, hexOf ((s[j]'hjs).toNat / 16), hexOf ((s[j]'hjs).toNat % 16)] (by simp) (by simp; omega))).mono ?_; rintro e w2 ⟨rfl, hq2⟩)
                  go_roundw
                  case rel => exact ⟨j + 1, by go_num, by omega, GO.out _ _ he.out hq2⟩
                  case measure => simp [intOf]; omega
            · have he : Hid (escOf (s[j]'hjs) = [s[j]'hjs]) := Lib.hid (by unfold escOf; rw [if_neg n34, if_neg n92, if_neg n10, if_neg cx])
              clear n34 n92 n10
              have b32 : ¬ ((s[j]'hjs).toNat : Int) < 32 := by omega
              have b126 : ¬ (126 : Int) < ((s[j]'hjs).toNat : Int) := by omega
              clear cx
              gi_wp2_with (refine ⟨trivial, ?_⟩; gi_at_call 92; refine (callsIn_wide.2 (qt_byte HI.out _ (by omega))).mono ?_; rintro e w2 ⟨rfl, hq2⟩)
              go_roundw
              case rel => exact ⟨j + 1, by go_num, by omega, GO.out _ _ he.out hq2⟩
              case measure => simp [intOf]; omega
    · have hl : j = s.size := by omega
      gi_wp2_with (first
        | (refine ⟨trivial, ?_⟩; gi_at_call 92; refine (callsIn_wide.2 (qt_byte HI.out 34 (by omega))).mono ?_; rintro e w2 ⟨rfl, hq2⟩; (have HI2 := Lib.hid hq2); clear hq2)
        | (refine ⟨trivial, ?_⟩; gi_at_call 93; refine (callsIn_wide.2 (qt_out HI2.out)).mono ?_; rintro e w2 ⟨rfl, hb2⟩))
      go_ret
      refine ⟨?_, hb2⟩
      have e1 : pre ++ [34] = quoteL s.data.toList := by rw [HPRE.out, hl, quoteL, List.take_of_length_le (by simp)]; rfl
      rw [e1]; rfl
end Go.Proofs.YtmepjbjmjbpchaaGreatDoor
end
section
/- Package types: Split. -/
namespace Go.Proofs.YtmepjbjmjbpchaaGreatDoor
open Go Go.RowKit Go.Sort
set_option linter.unusedVariables false
set_option linter.unusedSimpArgs false

/-- The pieces between commas and blanks. -/
def piecesOf (b : ByteArray) : List ByteArray := Lib.splitB ⟨#[44, 32]⟩ 0 (Lib.countB b ⟨#[44, 32]⟩) b
theorem splitB_size (sep : ByteArray) : ∀ (k : Nat) (s : ByteArray), ∀ t ∈ Lib.splitB sep 0 k s, t.size ≤ s.size
  | 0, s, t, h => by simp [Lib.splitB] at h; rw [h]; omega
  | k + 1, s, t, h => by
    simp only [Lib.splitB] at h
    split at h
    · simp at h; rw [h]; omega
    · rw [List.mem_cons] at h
      rcases h with rfl | h
      · simp [ByteArray.size_extract]; omega
      · have := splitB_size sep k _ t h
        simp [ByteArray.size_extract] at this; omega
/-- The body of a list of types in brackets. -/
def bodyOf (l : List UInt8) : Option (List UInt8) := if Lib.hasPrefix l [40] && Lib.hasSuffix l.tail [41] then some (l.tail.take (l.tail.length - 1)) else none
def okPieces (b : ByteArray) : Bool := decide ((piecesOf b).length ≤ 100) && !(piecesOf b).any badTy
theorem suffix_len {l : List UInt8} {c : UInt8} (h : Lib.hasSuffix l [c] = true) : 1 ≤ l.length := by
  cases l with
  | nil => simp [Lib.hasSuffix, List.isSuffixOf, List.isPrefixOf] at h
  | cons a l => simp

/-- What `types.Split` gives: nothing; the empty list; the types. -/
def SplitPost (s : ByteArray) (w : World) (e : Ending) (w' : World) : Prop :=
  Below w.heap.size w w' ∧ match bodyOf s.data.toList with
  | none => e = .returned (.tuple #[.slice none 0 0, .int .i64 10])
  | some l =>
    if l = [] then e = .returned (.tuple #[.slice none 0 0, .int .i64 0])
    else if okPieces ⟨l.toArray⟩ then ∃ g c, e = .returned (.tuple #[.slice (some ⟨g, 0, none⟩) (piecesOf ⟨l.toArray⟩).length c, .int .i64 0]) ∧ StrSl w' (some ⟨g, 0, none⟩) (piecesOf ⟨l.toArray⟩)
    else e = .returned (.tuple #[.slice none 0 0, .int .i64 10])
theorem split_bad {s b : ByteArray} {w w' : World} {e : Ending} (hb : bodyOf s.data.toList = some b.data.toList) (hne : b.data.toList ≠ []) (hk : okPieces b = false) (he : e = .returned (.tuple #[.slice none 0 0, .int .i64 10])) (hw : Below w.heap.size w w') : SplitPost s w e w' := by
  refine ⟨hw, ?_⟩
  rw [hb]
  dsimp only
  rw [if_neg hne, if_neg (by rw [show (⟨b.data.toList.toArray⟩ : ByteArray) = b from rfl, hk]; simp)]
  exact he
theorem split_good {s b : ByteArray} {w w' : World} {e : Ending} (hb : bodyOf s.data.toList = some b.data.toList) (hne : b.data.toList ≠ []) (hk : okPieces b = true) {g c : Nat} (he : e = .returned (.tuple #[.slice (some ⟨g, 0, none⟩) (piecesOf b).length c, .int .i64 0])) (hs : StrSl w' (some ⟨g, 0, none⟩) (piecesOf b)) (hw : Below w.heap.size w w') : SplitPost s w e w' := by
  refine ⟨hw, ?_⟩
  rw [hb]
  dsimp only
  rw [if_neg hne, if_pos (by rw [show (⟨b.data.toList.toArray⟩ : ByteArray) = b from rfl, hk])]
  exact ⟨g, c, he, hs⟩
set_option maxRecDepth 100000 in
set_option maxHeartbeats 2000000 in
theorem splitT_no (s : ByteArray) (w : World) (hs : s.size ≤ 140737488355328) (hb : bodyOf s.data.toList = none) : Calls Tryz.prog 74 #[.string s] w (SplitPost s w) := by
  have HB := Lib.hid hb
  have hl : s.data.toList.length = s.size := by simp
  have HL := Lib.hid hl
  clear hb hl
  have hs1 : s.size ≤ 9223372036854775807 := by omega
  cases hp : Lib.hasPrefix s.data.toList [40] with
  | false =>
    have HP := Lib.hid hp; clear hp
    go_enter Tryz.func74, Tryz.ntmps74
    go_wp2_with (first
      | (go_at_call 95; refine (cutPrefix_no _ _ _ HP.out).mono ?_; rintro e w' ⟨rfl, rfl⟩)
      | (go_at_call 96; refine (cutSuffix_or _ _ _ hs1).mono ?_; rintro e w' (⟨t2, rfl, ht2, hp2, rfl⟩ | ⟨rfl, hp2, rfl⟩)))
    all_goals
      go_ret2
      exact ⟨Below.refl _ _, by rw [HB.out]; rfl⟩
  | true =>
    have hsu : Lib.hasSuffix (s.data.toList.drop 1) [41] = false := by
      have := HB.out
      unfold bodyOf at this
      rw [hp] at this
      rw [List.drop_one]
      cases h : Lib.hasSuffix s.data.toList.tail [41]
      · rfl
      · rw [h] at this; simp at this
    have HP := Lib.hid hp
    have HU := Lib.hid hsu
    clear hp hsu
    go_enter Tryz.func74, Tryz.ntmps74
    go_wp2_with (first
      | (go_at_call 95; refine (cutPrefix_yes _ _ _ HP.out).mono ?_; rintro e w' ⟨t, rfl, ht, rfl⟩)
      | (go_at_call 96; refine (cutSuffix_no _ _ _ ?_ ?_).mono ?_; (have := congrArg List.length ht.out; simp at this; omega); (rw [ht.out]; exact HU.out); rintro e w' ⟨rfl, rfl⟩))
    go_ret2
    exact ⟨Below.refl _ _, by rw [HB.out]; rfl⟩
theorem bodyOf_some {l b : List UInt8} (h : bodyOf l = some b) : Lib.hasPrefix l [40] = true ∧ Lib.hasSuffix (l.drop 1) [41] = true ∧ b = (l.drop 1).take ((l.drop 1).length - 1) ∧ 2 ≤ l.length := by
  unfold bodyOf at h
  split at h
  · rename_i hc
    rw [Bool.and_eq_true] at hc
    have h2 := suffix_len hc.2
    refine ⟨hc.1, by rw [List.drop_one]; exact hc.2, by rw [List.drop_one]; exact (Option.some.inj h).symm, ?_⟩
    simp at h2; omega
  · cases h
set_option maxRecDepth 100000 in
set_option maxHeartbeats 2000000 in
theorem splitT_empty (s : ByteArray) (w : World) (hs : s.size ≤ 140737488355328) (hb : bodyOf s.data.toList = some []) : Calls Tryz.prog 74 #[.string s] w (SplitPost s w) := by
  have HB := Lib.hid hb
  obtain ⟨hp, hu, he, h2⟩ := bodyOf_some hb
  have hl : s.data.toList.length = s.size := by simp
  rw [hl] at h2
  have h2' : 2 ≤ (s.size : Int) := by omega
  have HP := Lib.hid hp
  have HU := Lib.hid hu
  have HE := Lib.hid he
  clear hb hl hp hu he
  have hs1 : s.size ≤ 9223372036854775807 := by omega
  go_enter Tryz.func74, Tryz.ntmps74
  go_wp2_with (first
    | (go_at_call 95; refine (cutPrefix_yes _ _ _ HP.out).mono ?_; rintro e w' ⟨t, rfl, ht, rfl⟩)
    | (go_at_call 96; refine (cutSuffix_yes _ _ _ ?_ ?_).mono ?_; (have := congrArg List.length ht.out; simp at this; omega); (rw [ht.out]; exact HU.out); rintro e w' ⟨t2, rfl, ht2, rfl⟩; (have hnil : t2 = ⟨#[]⟩ := ByteArray.ext (by rw [← Array.toList_inj, ht2.out, ht.out]; exact HE.out.symm)); subst hnil))
  go_ret2
  exact ⟨Below.refl _ _, by rw [HB.out]; dsimp only; rw [if_pos rfl]; rfl⟩
set_option maxRecDepth 100000 in
set_option maxHeartbeats 2000000 in
theorem splitT_some (s : ByteArray) (w : World) (hs : s.size < 4294967281) (m : Int) (hm : w.cell? ⟨0, 0, none⟩ = some (.int .i64 m)) (h0 : 0 < w.heap.size) (b : ByteArray) (hb : bodyOf s.data.toList = some b.data.toList) (hne : b.data.toList ≠ []) : Calls Tryz.prog 74 #[.string s] w (SplitPost s w) := by
  have HB := Lib.hid hb
  obtain ⟨hp, hu, he, h2⟩ := bodyOf_some hb
  have hl : s.data.toList.length = s.size := by simp
  rw [hl] at h2
  have h2' : 2 ≤ (s.size : Int) := by omega
  have HP := Lib.hid hp
  have HU := Lib.hid hu
  have HE := Lib.hid he
  have hbs : b.size < 4294967281 := by
    have := congrArg List.length he
    simp at this; omega
  have hemp : b.toList.isEmpty = false := by
    rw [List.isEmpty_eq_false_iff]; intro h; exact hne ((toList_nil_iff b).1 h)
  have HN := Lib.hid hne
  have hcb : Lib.countB b ⟨#[44, 32]⟩ ≤ b.size := Lib.countB_le ⟨#[44, 32]⟩ (by decide) b.size b (Nat.le_refl _)
  have hpl : (piecesOf b).length = Lib.countB b ⟨#[44, 32]⟩ + 1 := Lib.splitB_all ⟨#[44, 32]⟩ (by decide) 0 _ b rfl
  have hps : ∀ t ∈ piecesOf b, t.size ≤ 140737488355328 := fun t ht => by have := splitB_size _ _ _ t ht; omega
  obtain ⟨N, hN⟩ : ∃ N, N = Lib.countB b ⟨#[44, 32]⟩ := ⟨_, rfl⟩
  rw [← hN] at hpl hcb
  have HPL := Lib.hid hpl
  have HPS := Lib.hid hps
  have HCN := Lib.hid hN
  have hpc : piecesOf b = Lib.splitB ⟨#[44, 32]⟩ 0 N b := by rw [hN]; rfl
  have hsl : StrSl (w.alloc (.cells ((Lib.splitB ⟨#[44, 32]⟩ 0 N b).map Value.string).toArray 9)) (some ⟨w.heap.size, 0, none⟩) (piecesOf b) := .inr ⟨w.heap.size, 0, rfl, by simp, fun j hj => by
    rw [blkCell (heap_alloc_new w _), ← hpc]; simp [hj]⟩
  clear hpc
  have HSL := Lib.hid hsl
  clear hb hl hp hu he hne hps hN hsl
  have hs1 : s.size ≤ 9223372036854775807 := by omega
  by_cases hn : 100 < N + 1
  · have hn' : (100 : Int) < (N : Int) + 1 := by omega
    go_enter Tryz.func74, Tryz.ntmps74
    go_wp2_with (first
      | (go_at_call 95; refine (cutPrefix_yes _ _ _ HP.out).mono ?_; rintro e w' ⟨t, rfl, ht, rfl⟩)
      | (go_at_call 96; refine (cutSuffix_yes _ _ _ ?_ ?_).mono ?_; (have := congrArg List.length ht.out; simp at this; omega); (rw [ht.out]; exact HU.out); rintro e w' ⟨t2, rfl, ht2, rfl⟩; (have hnil : t2 = b := ByteArray.ext (by rw [← Array.toList_inj, ht2.out, ht.out]; exact HE.out.symm)); subst hnil)
      | (go_at_call 73; refine (Tryz.strings_Split _ _ m _ hbs hm (by decide)).mono ?_; rw [← HCN.out]; rintro e w' ⟨rfl, rfl⟩))
    all_goals
      go_ret2
      exact split_bad HB.out HN.out (by rw [okPieces, HPL.out]; simp; intro h; omega) rfl ((Below.refl _ w).alloc (Nat.le_refl _) _)
  · have hn' : (N : Int) + 1 ≤ 100 := by omega
    have HCF := Lib.hid (contains_split (some ⟨w.heap.size, 0, none⟩) (N + 1) (piecesOf b) _ HSL.out (by omega) HPS.out)
    rw [hpl] at HCF
    cases hbad : (piecesOf b).any badTy with
    | true =>
      have HBAD := Lib.hid hbad; clear hbad hpl
      go_enter Tryz.func74, Tryz.ntmps74
      go_wp2_with (first
        | (go_at_call 95; refine (cutPrefix_yes _ _ _ HP.out).mono ?_; rintro e w' ⟨t, rfl, ht, rfl⟩)
        | (go_at_call 96; refine (cutSuffix_yes _ _ _ ?_ ?_).mono ?_; (have := congrArg List.length ht.out; simp at this; omega); (rw [ht.out]; exact HU.out); rintro e w' ⟨t2, rfl, ht2, rfl⟩; (have hnil : t2 = b := ByteArray.ext (by rw [← Array.toList_inj, ht2.out, ht.out]; exact HE.out.symm)); subst hnil)
        | (go_at_call 73; refine (Tryz.strings_Split _ _ m _ hbs hm (by decide)).mono ?_; rw [← HCN.out]; rintro e w' ⟨rfl, rfl⟩)
        | (go_at_call 97; refine HCF.out.mono ?_; rintro e w2 ⟨rfl, hb2⟩; rw [HBAD.out]))
      all_goals
        go_ret2
        exact split_bad HB.out HN.out (by rw [okPieces, HBAD.out]; simp) rfl (((Below.refl _ w).alloc (Nat.le_refl _) _).trans (hb2.mono (by simp)))
    | false =>
      have HBAD := Lib.hid hbad; clear hbad hpl
      go_enter Tryz.func74, Tryz.ntmps74
      go_wp2_with (first
        | (go_at_call 95; refine (cutPrefix_yes _ _ _ HP.out).mono ?_; rintro e w' ⟨t, rfl, ht, rfl⟩)
        | (go_at_call 96; refine (cutSuffix_yes _ _ _ ?_ ?_).mono ?_; (have := congrArg List.length ht.out; simp at this; omega); (rw [ht.out]; exact HU.out); rintro e w' ⟨t2, rfl, ht2, rfl⟩; (have hnil : t2 = b := ByteArray.ext (by rw [← Array.toList_inj, ht2.out, ht.out]; exact HE.out.symm)); subst hnil)
        | (go_at_call 73; refine (Tryz.strings_Split _ _ m _ hbs hm (by decide)).mono ?_; rw [← HCN.out]; rintro e w' ⟨rfl, rfl⟩)
        | (go_at_call 97; refine HCF.out.mono ?_; rintro e w2 ⟨rfl, hb2⟩; rw [HBAD.out]))
      all_goals
        go_ret2
        exact split_good HB.out HN.out (by rw [okPieces, HBAD.out, HPL.out]; simp; omega) (by rw [HPL.out]; rfl) (HSL.out.below hb2) (((Below.refl _ w).alloc (Nat.le_refl _) _).trans (hb2.mono (by simp)))
end Go.Proofs.YtmepjbjmjbpchaaGreatDoor
end
section
/- Plain laws of lists of types: the reference's cutting at commas is the cutting at a comma and a blank. -/
namespace Go.Proofs.YtmepjbjmjbpchaaGreatDoor
open Go
set_option linter.unusedVariables false
set_option linter.unusedSimpArgs false

def isTy (l : List UInt8) : Bool := (readOf l).isSome
theorem elStr_no {b : Nat} (c : UInt8) (h1 : c ∉ [105, 110, 100, 101, 120]) (h2 : ∀ n, n < 10 → c ≠ UInt8.ofNat (48 + n)) : c ∉ elStr b := by
  unfold elStr
  split
  · exact h1
  · intro h
    rcases List.mem_cons.1 h with h | h
    · subst h; exact h1 (by simp)
    · rw [Lib.decDigits_eq] at h
      obtain ⟨t, -, ht⟩ := List.mem_map.1 h
      exact h2 _ (Nat.mod_lt _ (by decide)) ht.symm
theorem elemOf_no44 {l : List UInt8} {q : Pd} (h : elemOf l = some q) : (44 : UInt8) ∉ l := by
  rw [elemOf_str h]
  refine elStr_no 44 (by decide) ?_
  intro n hn h
  have := congrArg UInt8.toNat h
  rw [UInt8.toNat_ofNat'] at this
  simp at this; omega
theorem numOf_no44 {l : List UInt8} {n : Nat} (h : numOf l = some n) : (44 : UInt8) ∉ l := by
  intro hm
  have := numOf_all h 44 hm
  exact absurd this.1 (by decide)
theorem rest_no44 : ∀ (m : Nat) (l : List UInt8) (ext : List Nat) (r : List Nat × Nat), l.length ≤ m → shapeP ext (partsOf l) = some r → (44 : UInt8) ∉ l
  | m, l, ext, r, hm, h => by
    by_cases h0 : l = [105, 110, 100, 101, 120] ∨ cutOf 120 l = none
    · rw [partsOf_last h0] at h
      simp only [shapeP] at h
      split at h
      · rename_i e he; exact elemOf_no44 he
      · cases h
    · cases hc : cutOf 120 l with
      | none => exact absurd (.inr hc) h0
      | some p =>
        obtain ⟨x, y⟩ := p
        have hlen := cutOf_len hc
        obtain ⟨-, hxy, -⟩ := cutOf_some _ _ _ _ hc
        obtain ⟨m', rfl⟩ : ∃ m', m = m' + 1 := ⟨m - 1, by omega⟩
        rw [partsOf_more (fun h => h0 (.inl h)) hc] at h
        simp only [shapeP] at h
        split at h
        · rename_i n hn
          split at h
          · have ih := rest_no44 m' y _ r (by omega) h
            rw [hxy]
            intro hm
            rw [List.mem_append, List.mem_cons] at hm
            rcases hm with hm | hm | hm
            · exact numOf_no44 hn hm
            · exact absurd hm (by decide)
            · exact ih hm
          · cases h
        · cases h
theorem nameOf_no44 {l : List UInt8} (h : nameOf l = true) : (44 : UInt8) ∉ l := by
  intro hm
  simp only [nameOf, Bool.and_eq_true, List.all_eq_true] at h
  have := h.2 44 hm
  exact absurd this (by decide)
theorem foreignOf_no44 {l : List UInt8} {q : Pd} (h : foreignOf l = some q) : (44 : UInt8) ∉ l := by
  unfold foreignOf at h
  split at h
  · rename_i hp
    split at h
    · cases h
    · rename_i x y hc
      obtain ⟨-, hxy, -⟩ := cutOf_some _ _ _ _ hc
      split at h
      · rename_i hn
        rw [Bool.and_eq_true] at hn
        have hp1 := hp.1
        match l, hp1, hxy with
        | [], hp1, hxy => simp [Lib.hasPrefix, List.isPrefixOf] at hp1
        | c :: l, hp1, hxy =>
          simp [Lib.hasPrefix, List.isPrefixOf] at hp1
          subst hp1
          simp only [List.tail_cons] at hxy
          rw [hxy]
          intro hm
          rcases List.mem_cons.1 hm with hm | hm
          · exact absurd hm (by decide)
          · rw [List.mem_append, List.mem_cons] at hm
            rcases hm with hm | hm | hm
            · exact nameOf_no44 hn.1 hm
            · exact absurd hm (by decide)
            · exact nameOf_no44 hn.2 hm
      · cases h
  · cases h
theorem cells_no44 {l p : List UInt8} {k : Nat} {q : Pd} (hp : Lib.hasPrefix (l.take (l.length - 1)) p = true) (hp4 : p.length = 4) (hpn : (44 : UInt8) ∉ p) (hs : Lib.hasSuffix l [62] = true) (h : shapeOf k ((l.take (l.length - 1)).drop 4) = some q) : (44 : UInt8) ∉ l := by
  unfold shapeOf at h
  rw [Option.map_eq_some_iff] at h
  obtain ⟨r, hr, -⟩ := h
  have h1 := rest_no44 _ _ _ _ (Nat.le_refl _) hr
  have hne : l ≠ [] := by intro e; subst e; simp [Lib.hasSuffix, List.isSuffixOf, List.isPrefixOf] at hs
  rw [suffix_iff hne] at hs
  have hlast := eq_of_beq hs
  have hpre : (l.take (l.length - 1)).take 4 = p := by
    rw [prefix_take, hp4] at hp; exact eq_of_beq hp
  intro hm
  have hl : l = p ++ (l.take (l.length - 1)).drop 4 ++ [62] := by
    rw [← hpre, List.take_append_drop, ← List.dropLast_eq_take, ← hlast, List.dropLast_concat_getLast]
  rw [hl, List.mem_append, List.mem_append, List.mem_singleton] at hm
  rcases hm with (hm | hm) | hm
  · exact hpn hm
  · exact h1 hm
  · exact absurd hm (by decide)
theorem isTy_no44 {l : List UInt8} (h : isTy l = true) : (44 : UInt8) ∉ l := by
  unfold isTy at h
  obtain ⟨q, hq⟩ := Option.isSome_iff_exists.1 h
  clear h
  unfold readOf at hq
  split at hq
  · rename_i p hp; exact elemOf_no44 hp
  · split at hq
    · rename_i hs
      split at hq
      · rename_i hp; exact cells_no44 hp rfl (by decide) hs hq
      · split at hq
        · rename_i hp; exact cells_no44 hp rfl (by decide) hs hq
        · exact foreignOf_no44 hq
    · exact foreignOf_no44 hq

/-- The reference's `Split`, between the brackets. -/
def rsplit (l : List UInt8) : Option (List (List UInt8)) :=
  match h : cutOf 44 l with
  | none => if isTy l then some [l] else none
  | some (x, y) =>
    if isTy x then
      if y.head? = some 32 then (rsplit y.tail).map (x :: ·) else none
    else none
termination_by l.length
decreasing_by have := cutOf_len h; simp; omega
theorem rsplit_last {l : List UInt8} (h : cutOf 44 l = none) : rsplit l = if isTy l then some [l] else none := by
  unfold rsplit
  split
  · rfl
  · rename_i h'; rw [h] at h'; cases h'
theorem rsplit_more {l x y : List UInt8} (h : cutOf 44 l = some (x, y)) : rsplit l = if isTy x then if y.head? = some 32 then (rsplit y.tail).map (x :: ·) else none else none := by
  rw [rsplit]
  split
  · rename_i h'; rw [h] at h'; cases h'
  · rename_i h'; rw [h] at h'; cases h'; rfl
def piecesL (l : List UInt8) : List (List UInt8) := Lib.split l [44, 32]
theorem pieces_data (b : ByteArray) : (piecesOf b).map (·.data.toList) = piecesL b.data.toList := by
  unfold piecesOf piecesL Lib.split
  rw [Lib.splitB_data]
theorem piecesL_miss {l : List UInt8} (h : Lib.index l [44, 32] = -1) : piecesL l = [l] := by
  unfold piecesL Lib.split
  rw [Lib.count_miss h, Lib.splitK]
theorem piecesL_hit {l : List UInt8} {i : Nat} (h : Lib.index l [44, 32] = i) : piecesL l = l.take i :: piecesL (l.drop (i + 2)) := by
  unfold piecesL Lib.split
  rw [Lib.count_hit (by simp) h, Nat.add_comm 1]
  rw [Lib.splitK, if_neg (by rw [h, beq_iff_eq]; omega), h]
  rfl
theorem occ_at {l : List UInt8} {j : Nat} (h : Lib.occAt l [44, 32] j = true) : l[j]? = some 44 ∧ l[j + 1]? = some 32 := by
  unfold Lib.occAt at h
  match hd : l.drop j, h with
  | [], h => simp [List.isPrefixOf] at h
  | [a], h => simp [List.isPrefixOf] at h
  | a :: b :: r, h =>
    simp [List.isPrefixOf] at h
    obtain ⟨rfl, rfl⟩ := h
    have h0 : l[j]? = (l.drop j)[0]? := by simp
    have h1 : l[j + 1]? = (l.drop j)[1]? := by simp
    rw [h0, h1, hd]; simp
theorem index_cut {x z : List UInt8} (h : (44 : UInt8) ∉ x) : Lib.index (x ++ 44 :: 32 :: z) [44, 32] = x.length := by
  refine Lib.index_first (by simp) ?_ ?_
  · simp [Lib.occAt, List.isPrefixOf]
  · intro j hj
    rw [Bool.eq_false_iff]
    intro ho
    have := (occ_at ho).1
    rw [List.getElem?_append_left hj] at this
    exact h (List.mem_of_getElem? this)
theorem rsplit_eq : ∀ (m : Nat) (l : List UInt8), l.length ≤ m → rsplit l = if (piecesL l).all isTy then some (piecesL l) else none
  | m, l, hm => by
    cases hc : cutOf 44 l with
    | none =>
      have hn : Lib.index l [44, 32] = -1 := by
        refine Lib.index_none fun j hj => ?_
        rw [Bool.eq_false_iff]
        intro ho
        have h44 := List.mem_of_getElem? (occ_at ho).1
        have := cutOf_take l 44 l.length (by
          intro x hx he
          subst he
          have hi := cutOf_none _ _ hc
          exact absurd hi (by
            have : ∀ (l : List UInt8), (44 : UInt8) ∈ l → cutOf 44 l ≠ none := by
              intro l
              induction l with
              | nil => simp
              | cons a l ih =>
                intro hm
                simp only [cutOf]
                split
                · simp
                · rename_i hne
                  rcases List.mem_cons.1 hm with h | h
                  · exact absurd h.symm hne
                  · simpa using ih h
            exact absurd hc (this l h44))) (by simp)
        have : ∀ (l : List UInt8), (44 : UInt8) ∈ l → cutOf 44 l ≠ none := by
          intro l
          induction l with
          | nil => simp
          | cons a l ih =>
            intro hm
            simp only [cutOf]
            split
            · simp
            · rename_i hne
              rcases List.mem_cons.1 hm with h | h
              · exact absurd h.symm hne
              · simpa using ih h
        exact this l h44 hc
      rw [rsplit_last hc, piecesL_miss hn]
      simp
    | some p =>
      obtain ⟨x, y⟩ := p
      have hlen := cutOf_len hc
      obtain ⟨-, hxy, hnx⟩ := cutOf_some _ _ _ _ hc
      obtain ⟨m', rfl⟩ : ∃ m', m = m' + 1 := ⟨m - 1, by omega⟩
      rw [rsplit_more hc]
      by_cases h32 : y.head? = some 32
      · obtain ⟨z, rfl⟩ : ∃ z, y = 32 :: z := by
          match y, h32 with
          | c :: z, h32 => simp at h32; subst h32; exact ⟨z, rfl⟩
        have hi : Lib.index l [44, 32] = x.length := by rw [hxy]; exact index_cut hnx
        have hd : l.drop (x.length + 2) = z := by rw [hxy]; simp [List.drop_append]
        have ht : l.take x.length = x := by rw [hxy]; simp
        rw [piecesL_hit hi, hd, ht, if_pos h32, List.tail_cons, rsplit_eq m' z (by simp at hlen; omega), List.all_cons]
        cases isTy x <;> cases (piecesL z).all isTy <;> simp
      · have hfirst : ∃ p r, piecesL l = p :: r ∧ (44 : UInt8) ∈ p := by
          by_cases hi : Lib.index l [44, 32] = -1
          · exact ⟨l, [], piecesL_miss hi, by rw [hxy]; simp⟩
          · have hge := Lib.index_ge l [44, 32]
            obtain ⟨i, hii⟩ : ∃ i : Nat, Lib.index l [44, 32] = i := ⟨(Lib.index l [44, 32]).toNat, by omega⟩
            refine ⟨_, _, piecesL_hit hii, ?_⟩
            have hocc : Lib.occAt l [44, 32] i = true := by
              rcases Lib.index_spec l [44, 32] with ⟨h, -⟩ | ⟨j, h, -, ho, -⟩
              · exact absurd h hi
              · obtain rfl : i = j := by omega
                exact ho
            obtain ⟨h1, h2⟩ := occ_at hocc
            have hgt : x.length < i := by
              rcases Nat.lt_trichotomy i x.length with h | h | h
              · rw [hxy, List.getElem?_append_left h] at h1
                exact absurd (List.mem_of_getElem? h1) hnx
              · subst h
                rw [hxy, List.getElem?_append_right (by omega)] at h2
                simp at h2
                exfalso; apply h32
                rw [List.head?_eq_getElem?]; exact h2
              · exact h
            have : l[x.length]? = some 44 := by rw [hxy]; simp
            rw [← List.getElem?_take_of_lt hgt] at this
            exact List.mem_of_getElem? this
        obtain ⟨p, r, hp, h44⟩ := hfirst
        have hnt : isTy p = false := by
          rw [Bool.eq_false_iff]; intro h; exact isTy_no44 h h44
        rw [if_neg h32, hp, List.all_cons, hnt]
        simp
end Go.Proofs.YtmepjbjmjbpchaaGreatDoor
end
