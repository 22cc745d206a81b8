/- Texts of this claim, laid together: Ar4, Ar5, Ax1. -/
import Derived.Test.YtmepjbjmjbpchaaGreatDoorMg5
import Derived.Test.YtmepjbjmjbpchaaGreatDoorMg10
section
/- The reference: Equal. -/
namespace Go.Proofs.YtmepjbjmjbpchaaGreatDoor
open Go Go.RowKit
set_option linter.unusedVariables false
set_option linter.unusedSimpArgs false

theorem getD_at {α : Type} (d : α) {x : List α} {j : Nat} (h : j < x.length) : x.getD j d = x[j] := by
  rw [List.getD_eq_getElem?_getD, List.getElem?_eq_getElem h, Option.getD_some]
theorem list_ext_getD {α : Type} {d : α} {x y : List α} (h : x.length = y.length) (he : ∀ j, j < x.length → x.getD j d = y.getD j d) : x = y := by
  apply List.ext_getElem h
  intro j h1 h2
  have := he j h1
  rwa [getD_at d h1, getD_at d h2] at this
theorem StrSl.getD {w : World} {a : Option Addr} {ls : List ByteArray} (h : StrSl w a ls) {j : Nat} (hj : j < ls.length) : ∃ g off, a = some ⟨g, off, none⟩ ∧ g < w.heap.size ∧ w.cell? ⟨g, off + j, none⟩ = some (.string (ls.getD j ByteArray.empty)) := by
  rcases h with rfl | ⟨g, off, h1, h2, h3⟩
  · simp at hj
  · exact ⟨g, off, h1, h2, by rw [h3 j hj, getD_at _ hj]⟩
theorem below_two {w w' : World} {o o2 : Obj} (h : Below (w.heap.size + 2) ((w.alloc o).alloc o2) w') : Below w.heap.size w w' :=
  (((Below.refl w.heap.size w).alloc (Nat.le_refl _) o).alloc (by simp) o2).trans (h.mono (by simp))

set_option maxRecDepth 100000 in
set_option maxHeartbeats 8000000 in
theorem requal_body (nm : ByteArray) (k n : Int) (tx : ByteArray) (ia : Option Addr) (ic : Nat) (ta : Option Addr) (tc : Nat) (ia2 : Option Addr) (ic2 : Nat) (ta2 : Option Addr) (tc2 : Nat) (zs zs2 : List Int) (ls ls2 : List ByteArray) (L M : Nat)
    (h1 : zs.length = L) (h2 : zs2.length = L) (h3 : ls.length = M) (h4 : ls2.length = M) (w : World) (hz : IntSl w ia zs) (hz2 : IntSl w ia2 zs2) (hs : StrSl w ta ls) (hs2 : StrSl w ta2 ls2) (hL : L ≤ 100000000000000) (hM : M ≤ 100000000000000) :
    Calls Tryz.prog 24 #[av nm k n tx ia L ic ta M tc, av nm k n tx ia2 L ic2 ta2 M tc2] w fun e w' => e = .returned (.bool (decide (zs = zs2) && decide (ls = ls2))) ∧ Below w.heap.size w w' := by
  have H1 := Lib.hid h1; have H2 := Lib.hid h2; have H3 := Lib.hid h3; have H4 := Lib.hid h4
  have HZ := Lib.hid hz; have HZ2 := Lib.hid hz2; have HS := Lib.hid hs; have HS2 := Lib.hid hs2
  clear h1 h2 h3 h4 hz hz2 hs hs2
  go_enter Tryz.func24, Tryz.ntmps24
  go_wp2_with fail
  go_loopw [5] (fun i wr => ∃ j : Nat, i = .int .i64 j ∧ j ≤ L ∧ Below (w.heap.size + 2) ((w.alloc (.cells (avCells nm k n tx ia L ic ta M tc) 27)).alloc (.cells (avCells nm k n tx ia2 L ic2 ta2 M tc2) 27)) wr ∧ ∀ t, t < j → zs.getD t 0 = zs2.getD t 0) (fun i _ => L - (intOf i).toNat)
  case atStart => exact ⟨0, rfl, Nat.zero_le _, Below.refl _ _, fun t ht => by omega⟩
  case round =>
    obtain ⟨j, rfl, hj, hb, ht⟩ := hrel
    have c0 := rdCell (hb.mono (by simp)) w.heap.size (by simp <;> omega)
    have c1 := rdCell (hb.mono (by simp)) (w.heap.size + 1) (by simp)
    have HT := Lib.hid ht
    have HB := Lib.hid hb
    clear ht hb
    rcases Nat.lt_or_ge j L with hlt | hge
    · have hw0 := below_two HB.out
      obtain ⟨g, off, hia, hg, hc⟩ := (HZ.out.below hw0).at (j := j) (by rw [H1.out]; exact hlt)
      obtain ⟨g2, off2, hia2, hg2, hc2⟩ := (HZ2.out.below hw0).at (j := j) (by rw [H2.out]; exact hlt)
      subst hia hia2
      obtain ⟨x, hx⟩ : ∃ x, x = zs.getD j 0 := ⟨_, rfl⟩
      obtain ⟨y, hy⟩ : ∃ y, y = zs2.getD j 0 := ⟨_, rfl⟩
      rw [← hx] at hc
      rw [← hy] at hc2
      have HX := Lib.hid hx; have HY := Lib.hid hy; have HW0 := Lib.hid hw0
      clear hx hy hw0
      have hj0 : (0 : Int) ≤ (j : Int) := by omega
      have hjl : (j : Int) < (L : Int) := by omega
      by_cases hxy : x = y
      · have hb : (x != y) = false := by simpa using hxy
        have HXY := Lib.hid hxy
        clear hxy
        go_wp2_with fail
        go_quiet (fail)
        go_wp2_with fail
        go_roundw
        case rel => exact ⟨j + 1, by go_num, by omega, by have := HB.out; (first | exact this.drew | exact belowN this _), fun t ht => by
          rcases Nat.lt_or_ge t j with h2 | h2
          · exact HT.out t h2
          · obtain rfl : t = j := by omega
            rw [← HX.out, ← HY.out]; exact HXY.out⟩
        case measure => simp [intOf]; omega
      · have hb : (x != y) = true := by simpa using hxy
        have HXY := Lib.hid hxy
        clear hxy
        go_wp2_with fail
        go_quiet (fail)
        go_wp2_with fail
        go_ret
        have hne : ¬ zs = zs2 := fun e => HXY.out (by rw [HX.out, HY.out, e])
        exact ⟨by simp [hne], by have := HW0.out; (first | exact this.drew | exact belowN this _)⟩
    · obtain rfl : L = j := by omega
      have hzz : Hid (zs = zs2) := Lib.hid (list_ext_getD (by rw [H1.out, H2.out]) (fun t h => HT.out t (by rw [← H1.out]; exact h)))
      go_wp2_with fail
      obtain ⟨wo, hwo⟩ : ∃ wo : World, wo = wr := ⟨_, rfl⟩
      subst hwo
      go_loopw [6] (fun i wr => ∃ j : Nat, i = .int .i64 j ∧ j ≤ M ∧ Below (w.heap.size + 2) ((w.alloc (.cells (avCells nm k n tx ia L ic ta M tc) 27)).alloc (.cells (avCells nm k n tx ia2 L ic2 ta2 M tc2) 27)) wr ∧ ∀ t, t < j → ls.getD t ByteArray.empty = ls2.getD t ByteArray.empty) (fun i _ => M - (intOf i).toNat)
      case atStart => exact ⟨0, rfl, Nat.zero_le _, HB.out, fun t ht => by omega⟩
      case round =>
        obtain ⟨j, rfl, hj, hb, ht⟩ := hrel
        clear c0 c1
        have c0 := rdCell (hb.mono (by simp)) w.heap.size (by simp <;> omega)
        have c1 := rdCell (hb.mono (by simp)) (w.heap.size + 1) (by simp)
        have HT := Lib.hid ht
        have HB := Lib.hid hb
        clear ht hb
        rcases Nat.lt_or_ge j M with hlt | hge
        · have hw0 := below_two HB.out
          obtain ⟨g, off, hia, hg, hc⟩ := (HS.out.below hw0).getD (j := j) (by rw [H3.out]; exact hlt)
          obtain ⟨g2, off2, hia2, hg2, hc2⟩ := (HS2.out.below hw0).getD (j := j) (by rw [H4.out]; exact hlt)
          subst hia hia2
          obtain ⟨x, hx⟩ : ∃ x, x = ls.getD j ByteArray.empty := ⟨_, rfl⟩
          obtain ⟨y, hy⟩ : ∃ y, y = ls2.getD j ByteArray.empty := ⟨_, rfl⟩
          rw [← hx] at hc
          rw [← hy] at hc2
          have HX := Lib.hid hx; have HY := Lib.hid hy; have HW0 := Lib.hid hw0
          clear hx hy hw0
          have hj0 : (0 : Int) ≤ (j : Int) := by omega
          have hjl : (j : Int) < (M : Int) := by omega
          by_cases hxy : x = y
          · have hb : (x.toList == y.toList) = true := by rw [toList_beq]; simpa using hxy
            have HXY := Lib.hid hxy
            clear hxy
            go_wp2_with fail
            go_quiet (fail)
            go_wp2_with fail
            go_roundw
            case rel => exact ⟨j + 1, by go_num, by omega, by have := HB.out; (first | exact this.drew | exact belowN this _), fun t ht => by
              rcases Nat.lt_or_ge t j with h2 | h2
              · exact HT.out t h2
              · obtain rfl : t = j := by omega
                rw [← HX.out, ← HY.out]; exact HXY.out⟩
            case measure => simp [intOf]; omega
          · have hb : (x.toList == y.toList) = false := by rw [toList_beq]; simpa using hxy
            have HXY := Lib.hid hxy
            clear hxy
            go_wp2_with fail
            go_quiet (fail)
            go_wp2_with fail
            go_ret
            have hne : ¬ ls = ls2 := fun e => HXY.out (by rw [HX.out, HY.out, e])
            exact ⟨by simp [hne], by have := HW0.out; (first | exact this.drew | exact belowN this _)⟩
        · obtain rfl : j = M := by omega
          have hll : Hid (ls = ls2) := Lib.hid (list_ext_getD (by rw [H3.out, H4.out]) (fun t h => HT.out t (by rw [← H3.out]; exact h)))
          go_wp2_with fail
          go_ret
          exact ⟨by simp [hzz.out, hll.out], below_two HB.out⟩
end Go.Proofs.YtmepjbjmjbpchaaGreatDoor
end
section
/- The reference: Equal at two attributes, EqualLists. -/
namespace Go.Proofs.YtmepjbjmjbpchaaGreatDoor
open Go Go.RowKit
set_option linter.unusedVariables false
set_option linter.unusedSimpArgs false
attribute [local go_sem] Oper.semAt_some

theorem Atr.Fits.lens {a : Atr} (h : a.Fits) : a.ints.length ≤ 100000000000000 ∧ a.texts.length ≤ 100000000000000 := by
  have := h.il; have := h.tl
  omega
theorem requal_any (a b : Atr) (w : World) (ha : a.Lies w) (hb : b.Lies w) (fa : a.Fits) (fb : b.Fits) :
    Calls Tryz.prog 24 #[a.val, b.val] w fun e w' => e = .returned (.bool (sameA a b)) ∧ Below w.heap.size w w' := by
  by_cases h : a.name = b.name ∧ a.kind = b.kind ∧ a.num = b.num ∧ a.text = b.text ∧ a.ints.length = b.ints.length ∧ a.texts.length = b.texts.length
  · obtain ⟨h1, h2, h3, h4, h5, h6⟩ := h
    have e : sameA a b = (decide (a.ints = b.ints) && decide (a.texts = b.texts)) := by
      unfold sameA; rw [Bool.eq_iff_iff]; simp [h1, h2, h3, h4]
    rw [e]
    have := requal_body a.name a.kind a.num a.text a.ia a.ic a.ta a.tc b.ia b.ic b.ta b.tc a.ints b.ints a.texts b.texts a.ints.length a.texts.length rfl h5.symm rfl h6.symm w ha.ints hb.ints ha.texts hb.texts fa.lens.1 fa.lens.2
    have hv : b.val = av a.name a.kind a.num a.text b.ia a.ints.length b.ic b.ta a.texts.length b.tc := by
      show av b.name b.kind b.num b.text b.ia b.ints.length b.ic b.ta b.texts.length b.tc = _
      rw [← h1, ← h2, ← h3, ← h4, ← h5, ← h6]
    rw [hv]; exact this
  · have e : sameA a b = false := by
      unfold sameA; rw [decide_eq_false_iff_not]
      rintro ⟨h1, h2, h3, h4, h5, h6⟩
      exact h ⟨h1, h2, h3, h4, by rw [h5], by rw [h6]⟩
    rw [e]; exact requal_head a b w h

/-- Whether two lists are the same. -/
def sameL (l m : List Atr) : Bool := decide (l.length = m.length) && (List.range l.length).all fun j => match l[j]?, m[j]? with | some a, some b => sameA a b | _, _ => true
def sameAt (l m : List Atr) (j : Nat) : Bool := match l[j]?, m[j]? with | some a, some b => sameA a b | _, _ => true
theorem sameL_eq (l m : List Atr) (h : l.length = m.length) : sameL l m = (List.range l.length).all (sameAt l m) := by
  unfold sameL; simp [h]; rfl

set_option maxRecDepth 100000 in
set_option maxHeartbeats 8000000 in
theorem requalL_any (p q : Option Addr) (c d : Nat) (l m : List Atr) (w : World) (hs : AtrSl w p l) (hs2 : AtrSl w q m) (hl : l.length ≤ 100000000000000) (hm : m.length ≤ 100000000000000) :
    Calls Tryz.prog 17 #[.slice p l.length c, .slice q m.length d] w fun e w' => e = .returned (.bool (sameL l m)) ∧ Below w.heap.size w w' := by
  by_cases hlm : l.length = m.length
  · have HLM := Lib.hid hlm
    have HS := Lib.hid hs
    have HS2 := Lib.hid hs2
    clear hs hs2 hlm
    obtain ⟨M, hM⟩ : ∃ M, M = m.length := ⟨_, rfl⟩
    have hLM : Hid (l.length = M) := Lib.hid (by rw [hM]; exact HLM.out)
    rw [← hM] at hm ⊢
    obtain ⟨L, hL⟩ : ∃ L, L = l.length := ⟨_, rfl⟩
    have hll : L = M := by rw [hL]; exact hLM.out
    rw [← hL] at hl ⊢
    have HL := Lib.hid hL
    have HM := Lib.hid hM
    subst hll
    clear hL hM
    refine (callsIn_wide (n := 6)).1 ?_
    refine callsIn_of_wp Tryz.func17 rfl trivial ?_ rfl
    simp only [Tryz.ntmps17, List.size_toArray, List.length_cons, List.length_nil, Nat.reduceAdd, Nat.reduceSub, Array.replicate_succ, Array.replicate_zero, List.push_toArray, List.append_toArray, List.nil_append, List.cons_append]
    gi_wp2_with fail
    gi_loopw [5] (fun i wr => ∃ j : Nat, i = .int .i64 j ∧ j ≤ L ∧ Below w.heap.size w wr ∧ (List.range j).all (sameAt l m) = true) (fun i _ => L - (intOf i).toNat)
    case atStart => exact ⟨0, rfl, Nat.zero_le _, Below.refl _ _, rfl⟩
    case round =>
      obtain ⟨j, rfl, hj, hb, ht⟩ := hrel
      have HB := Lib.hid hb
      have HT := Lib.hid ht
      clear hb ht
      rcases Nat.lt_or_ge j L with hlt | hge
      · have hl1 : j < l.length := by rw [← HL.out]; exact hlt
        have hl2 : j < m.length := by rw [← HM.out]; exact hlt
        have hsw := HS.out.below HB.out
        have hsw2 := HS2.out.below HB.out
        obtain ⟨g, off, rfl, hzg, hrow⟩ := hsw.row hl1
        obtain ⟨g2, off2, rfl, hzg2, hrow2⟩ := hsw2.row hl2
        obtain ⟨a0, ha0⟩ : ∃ a0, a0 = l[j] := ⟨_, rfl⟩
        obtain ⟨b0, hb0⟩ : ∃ b0, b0 = m[j] := ⟨_, rfl⟩
        have hcj := hrow j hl1
        have hcj2 := hrow2 j hl2
        rw [← ha0] at hcj
        rw [← hb0] at hcj2
        have HLI := Lib.hid (fun (W : World) (hb : Below wr.heap.size wr W) => (hsw.lies a0 (by rw [ha0]; exact List.getElem_mem _)).below hb)
        have HFI := Lib.hid (hsw.fits a0 (by rw [ha0]; exact List.getElem_mem _))
        have HLI2 := Lib.hid (fun (W : World) (hb : Below wr.heap.size wr W) => (hsw2.lies b0 (by rw [hb0]; exact List.getElem_mem _)).below hb)
        have HFI2 := Lib.hid (hsw2.fits b0 (by rw [hb0]; exact List.getElem_mem _))
        have hj0 : (0 : Int) ≤ (j : Int) := by omega
        have hjl : (j : Int) < (L : Int) := by omega
        have HE : Hid (sameAt l m j = sameA a0 b0) := Lib.hid (by unfold sameAt; rw [List.getElem?_eq_getElem hl1, List.getElem?_eq_getElem hl2, ha0, hb0])
        clear ha0 hb0 hrow hrow2 hsw hsw2
        obtain ⟨k0, k1, k2, k3, k4, k5⟩ := hcj
        obtain ⟨q0, q1, q2, q3, q4, q5⟩ := hcj2
        gi_wp2_with fail
        generalize hops : (#[_, _, _, _, _, _, _, _, _, _] : Array Oper) = ops
        refine wpIn_region_inv_tail 8 (fun i => match i with | 0 => .slice (some ⟨g, off, none⟩) L c | 1 => .int .i64 (j : Int) | 2 => .pointer (some ⟨g, off + j * 6, none⟩) | 3 => a0.val | 4 => .slice (some ⟨g2, off2, none⟩) L d | 5 => .int .i64 (j : Int) | 6 => .pointer (some ⟨g2, off2 + j * 6, none⟩) | 7 => b0.val | _ => undef)
          (fun _ Wy => Below wr.heap.size wr Wy) (by kernel_rfl) (by rw [← hops]; kernel_rfl) (by rw [← hops]; kernel_rfl) (by rw [← hops]; kernel_rfl) (by rw [← hops]; decide) (by rw [← hops]; kernel_rfl) ((Below.refl _ _).drew) ?step ?tail
        case step =>
          intro i o listed a Wy ho hs hu hall ha hi hy hlt
          have old0 : a.eval (.tmp 0) = .slice (some ⟨g, off, none⟩) L c := by rw [ha.eval_old (noDst_spec (by rw [← hops]; kernel_rfl))]; rfl
          have old1 : a.eval (.tmp 1) = .slice (some ⟨g2, off2, none⟩) L d := by rw [ha.eval_old (noDst_spec (by rw [← hops]; kernel_rfl))]; rfl
          have old5 : a.eval (.tmp 5) = .int .i64 (j : Int) := by rw [ha.eval_old (noDst_spec (by rw [← hops]; kernel_rfl))]; rfl
          have hcase : i = 0 ∨ i = 1 ∨ i = 2 ∨ i = 3 ∨ i = 4 ∨ i = 5 ∨ i = 6 ∨ i = 7 := by omega
          rcases hcase with rfl | rfl | rfl | rfl | rfl | rfl | rfl | rfl
          all_goals (have ho' := ho; rw [← hops] at ho'; simp only [List.getElem?_toArray, List.getElem?_cons_zero, List.getElem?_cons_succ, Option.some.injEq] at ho'; subst ho')
          · refine step_none rfl ?_
            refine opIn_value wideAt_plain (fun c h => by cases h) (v := .slice (some ⟨g, off, none⟩) L c) (W' := Wy) ?_ ⟨rfl, hi⟩
            simp only [execOp, old0]
            simp only [Sem.run_pure]
          · refine step_none rfl ?_
            refine opIn_value wideAt_plain (fun c h => by cases h) (v := .int .i64 (j : Int)) (W' := Wy) ?_ ⟨rfl, hi⟩
            simp only [execOp, old5]
            simp only [Sem.run_pure]
          · refine step_none rfl ?_
            have h17 : a.eval (.tmp 17) = .slice (some ⟨g, off, none⟩) L c := ha.eval_got (j := 0) (by rw [← hops]; rfl) rfl (hall ⟨0, .data⟩ (by simp) rfl)
            have h18 : a.eval (.tmp 18) = .int .i64 (j : Int) := ha.eval_got (j := 1) (by rw [← hops]; rfl) rfl (hall ⟨1, .data⟩ (by simp) rfl)
            refine opIn_value wideAt_plain (fun c h => by cases h) (v := .pointer (some ⟨g, off + j * 6, none⟩)) (W' := Wy) ?_ ⟨rfl, hi⟩
            simp only [execOp, h17, h18]
            simp [go_sem, hjl, hj0] <;> (intro h; exfalso; first | omega | (have := h (by omega); omega))
          · refine step_none rfl ?_
            have h19 : a.eval (.tmp 19) = .pointer (some ⟨g, off + j * 6, none⟩) := ha.eval_got (j := 2) (by rw [← hops]; rfl) rfl (hall ⟨2, .data⟩ (by simp) rfl)
            refine opIn_value wideAt_plain (fun c h => by cases h) (v := a0.val) (W' := Wy) ?_ ⟨rfl, hi⟩
            simp only [execOp, h19]
            simp [go_sem, rdCell hi g hzg, k0, k1, k2, k3, k4, k5]
          · refine step_none rfl ?_
            refine opIn_value wideAt_plain (fun c h => by cases h) (v := .slice (some ⟨g2, off2, none⟩) L d) (W' := Wy) ?_ ⟨rfl, hi⟩
            simp only [execOp, old1]
            simp only [Sem.run_pure]
          · refine step_none rfl ?_
            refine opIn_value wideAt_plain (fun c h => by cases h) (v := .int .i64 (j : Int)) (W' := Wy) ?_ ⟨rfl, hi⟩
            simp only [execOp, old5]
            simp only [Sem.run_pure]
          · refine step_none rfl ?_
            have h21 : a.eval (.tmp 21) = .slice (some ⟨g2, off2, none⟩) L d := ha.eval_got (j := 4) (by rw [← hops]; rfl) rfl (hall ⟨4, .data⟩ (by simp) rfl)
            have h22 : a.eval (.tmp 22) = .int .i64 (j : Int) := ha.eval_got (j := 5) (by rw [← hops]; rfl) rfl (hall ⟨5, .data⟩ (by simp) rfl)
            refine opIn_value wideAt_plain (fun c h => by cases h) (v := .pointer (some ⟨g2, off2 + j * 6, none⟩)) (W' := Wy) ?_ ⟨rfl, hi⟩
            simp only [execOp, h21, h22]
            simp [go_sem, hjl, hj0] <;> (intro h; exfalso; first | omega | (have := h (by omega); omega))
          · refine step_none rfl ?_
            have h23 : a.eval (.tmp 23) = .pointer (some ⟨g2, off2 + j * 6, none⟩) := ha.eval_got (j := 6) (by rw [← hops]; rfl) rfl (hall ⟨6, .data⟩ (by simp) rfl)
            refine opIn_value wideAt_plain (fun c h => by cases h) (v := b0.val) (W' := Wy) ?_ ⟨rfl, hi⟩
            simp only [execOp, h23]
            simp [go_sem, rdCell hi g2 hzg2, q0, q1, q2, q3, q4, q5]
        case tail =>
          intro Wz hz
          subst hops
          simp only [frameOf, Act.put, Option.bind_some, List.getElem?_toArray, List.getElem?_cons_zero, List.getElem?_cons_succ, List.setIfInBounds_toArray, List.set_cons_zero, List.set_cons_succ, List.drop_succ_cons, List.drop_zero]
          have HZ := Lib.hid hz
          clear hz
          gi_wp2_with (refine ⟨trivial, ?_⟩; gi_at_call 24; refine (callsIn_wide.2 (requal_any a0 b0 _ (HLI.out _ HZ.out) (HLI2.out _ HZ.out) HFI.out HFI2.out)).mono ?_; rintro e w2 ⟨rfl, hb2⟩)
          · go_ret
            have hq : sameA a0 b0 = false := by simpa using (by assumption : (!sameA a0 b0) = true)
            have hrl : sameL l m = false := by rw [sameL_eq _ _ HLM.out]; exact all_range_false hl1 (by rw [HE.out, hq])
            exact ⟨by rw [hrl]; rfl, below_own' (below_own' HB.out HZ.out) hb2⟩
          · have hq : sameA a0 b0 = true := by simpa using (by assumption : (!sameA a0 b0) = false)
            go_roundw
            case rel => exact ⟨j + 1, by go_num, by omega, below_own' (below_own' HB.out HZ.out) hb2, by rw [all_range_succ, HT.out, HE.out, hq]; rfl⟩
            case measure => simp [intOf]; omega
      · obtain rfl : L = j := by omega
        have hrl : Hid (sameL l m = true) := Lib.hid (by rw [sameL_eq _ _ HLM.out, ← HL.out]; exact HT.out)
        gi_wp2_with fail
        go_ret
        exact ⟨by rw [hrl.out]; rfl, HB.out⟩
  · have hd : (((l.length : Nat) : Int) != ((m.length : Nat) : Int)) = true := by simpa using fun h => hlm (Int.ofNat_inj.1 h)
    have hrl : Hid (sameL l m = false) := Lib.hid (by unfold sameL; simp [hlm])
    have hne : ¬ ((l.length : Int) = (m.length : Int)) := fun h => hlm (Int.ofNat_inj.1 h)
    clear hs hs2
    go_enter Tryz.func17, Tryz.ntmps17
    go_wp2_with fail
    go_ret
    exact ⟨by rw [hrl.out]; rfl, Below.refl _ _⟩
end Go.Proofs.YtmepjbjmjbpchaaGreatDoor
end
section
/- graph.Quote. -/
namespace Go.Proofs.YtmepjbjmjbpchaaGreatDoor
open Go Go.RowKit
set_option linter.unusedVariables false
set_option linter.unusedSimpArgs false
attribute [local go_sem] Oper.semAt_some

structure QtI (w : World) (pre : List UInt8) (W : World) : Prop where
  bld : IsB w.heap.size w.heap.size (Lib.byteCells pre) W
  below : Below w.heap.size w W
theorem QtI.on {w W W1 : World} {pre : List UInt8} (h : QtI w pre W) (hb : Below W.heap.size W W1) : QtI w pre W1 := ⟨isB_below h.bld hb, below_own' h.below hb⟩
theorem QtI.put {w W W1 : World} {pre m : List UInt8} (h : QtI w pre W) (h1 : IsB w.heap.size w.heap.size (Lib.byteCells pre ++ Lib.byteCells m) W1) (hb : Below w.heap.size W W1) : QtI w (pre ++ m) W1 :=
  ⟨by rw [Lib.byteCells_append]; exact h1, h.below.trans hb⟩
theorem qt_byte {w W : World} {pre : List UInt8} (h : QtI w pre W) (c : UInt8) (hl : pre.length + 1 ≤ 140737488355328) :
    Calls Tryz.prog 92 #[.pointer (some ⟨w.heap.size, 0, none⟩), .int .u8 (c.toNat : Int)] W fun e w' => e = .returned .nilIface ∧ QtI w (pre ++ [c]) w' :=
  (bld_byte w.heap.size w.heap.size _ (c.toNat : Int) W h.bld (by rw [Lib.byteCells_length]; exact hl) h.below.size).mono fun e w' ⟨he, h1, h2⟩ => ⟨he, h.put h1 h2⟩
theorem qt_str {w W : World} {pre : List UInt8} (h : QtI w pre W) (s : ByteArray) (m : List UInt8) (hs : s.data.toList = m) (hl : pre.length + m.length ≤ 140737488355328) :
    Calls Tryz.prog 118 #[.pointer (some ⟨w.heap.size, 0, none⟩), .string s] W fun e w' => e = .returned (.tuple #[.int .i64 s.size, .nilIface]) ∧ QtI w (pre ++ m) w' :=
  (bld_write w.heap.size w.heap.size _ s W h.bld (by rw [Lib.byteCells_length]; subst hs; simpa using hl) h.below.size).mono fun e w' ⟨he, h1, h2⟩ => ⟨he, h.put (by rw [← hs]; exact h1) h2⟩
theorem qt_out {w W : World} {pre : List UInt8} (h : QtI w pre W) :
    Calls Tryz.prog 93 #[.pointer (some ⟨w.heap.size, 0, none⟩)] W fun e w' => e = .returned (.string ⟨pre.toArray⟩) ∧ Below w.heap.size w w' :=
  (Tryz.Builder_String_any w.heap.size w.heap.size pre W h.bld h.below.size).mono fun e w' ⟨he, hb⟩ => ⟨he, h.below.trans hb⟩

theorem u8_keep (z : Int) (h0 : 0 ≤ z) (h1 : z < 256) : IntKind.u8.wrap z = z := by
  exact IntWalk.u8_in _ (by omega)
theorem hex_cut (n : Nat) (h : n < 16) : (ByteArray.mk #[48, 49, 50, 51, 52, 53, 54, 55, 56, 57, 97, 98, 99, 100, 101, 102]).extract n (n + 1) = ⟨#[hexOf n]⟩ := by
  have : n = 0 ∨ n = 1 ∨ n = 2 ∨ n = 3 ∨ n = 4 ∨ n = 5 ∨ n = 6 ∨ n = 7 ∨ n = 8 ∨ n = 9 ∨ n = 10 ∨ n = 11 ∨ n = 12 ∨ n = 13 ∨ n = 14 ∨ n = 15 := by omega
  rcases this with rfl | rfl | rfl | rfl | rfl | rfl | rfl | rfl | rfl | rfl | rfl | rfl | rfl | rfl | rfl | rfl <;> rfl

theorem hex_cutI (z : Int) (n : Nat) (hz : z = (n : Int)) (h : n < 16) : (ByteArray.mk #[48, 49, 50, 51, 52, 53, 54, 55, 56, 57, 97, 98, 99, 100, 101, 102]).extract z.toNat (z + 1).toNat = ⟨#[hexOf n]⟩ := by
  have e1 : z.toNat = n := by omega
  have e2 : (z + 1).toNat = n + 1 := by omega
  rw [e1, e2, hex_cut n h]

set_option maxRecDepth 100000 in
set_option maxHeartbeats 8000000 in
theorem quote_any (s : ByteArray) (w : World) (hs : 4 * s.size + 2 ≤ 140737488355328) :
    Calls Tryz.prog 137 #[.string s] w fun e w' => e = .returned (.string ⟨(quoteL s.data.toList).toArray⟩) ∧ Below w.heap.size w w' := by
  have h0 : QtI w [] (w.alloc (.cells #[.pointer none, .slice none 0 0] 136)) := ⟨Lib.fresh_isBuilder _ _ w, (Below.refl _ w).alloc (Nat.le_refl _) _⟩
  have hq : ∀ i, (escL (s.data.toList.take i)).length ≤ 4 * i := fun i => by
    have := escL_len (s.data.toList.take i)
    have h2 : (s.data.toList.take i).length ≤ i := by simp; omega
    omega
  have HQ := Lib.hid hq
  have H0 := Lib.hid h0
  clear h0 hq
  refine (callsIn_wide (n := 6)).1 ?_
  refine callsIn_of_wp Tryz.func137 rfl trivial ?_ rfl
  simp only [Tryz.ntmps137, List.size_toArray, List.length_cons, List.length_nil, Nat.reduceAdd, Nat.reduceSub, Array.replicate_succ, Array.replicate_zero, List.push_toArray, List.append_toArray, List.nil_append, List.cons_append]
  gi_wp2_with (refine ⟨trivial, ?_⟩; gi_at_call 92; refine (callsIn_wide.2 (qt_byte H0.out 34 (by simp))).mono ?_; rintro e w1 ⟨rfl, hq1⟩)
  have HI := Lib.hid hq1
  clear hq1
  gi_loopw [9] (fun i wr => ∃ j : Nat, i = .int .i64 j ∧ j ≤ s.size ∧ QtI w (34 :: escL (s.data.toList.take j)) wr) (fun i _ => s.size - (intOf i).toNat)
  case atStart => exact ⟨0, rfl, Nat.zero_le _, HI.out⟩
  case round =>
    clear HI H0
    obtain ⟨j, rfl, hj, hI⟩ := hrel
    have HI := Lib.hid hI
    clear hI
    have hq := HQ.out j
    obtain ⟨pre, hpre⟩ : ∃ pre, pre = 34 :: escL (s.data.toList.take j) := ⟨_, rfl⟩
    have hpl : pre.length ≤ 4 * j + 1 := by rw [hpre]; simp; omega
    rw [← hpre] at HI
    have HPRE := Lib.hid hpre
    clear hpre hq
    rcases Nat.lt_or_ge j s.size with hjs | hge
    · have hll : j < s.data.toList.length := by simpa using hjs
      have HS : Hid (34 :: escL (s.data.toList.take (j + 1)) = pre ++ escOf (s[j]'hjs)) := Lib.hid (by rw [HPRE.out, escL_snoc hll]; rfl)
      have go : ∀ (W : World) (m : List UInt8), escOf (s[j]'hjs) = m → QtI w (pre ++ m) W → QtI w (34 :: escL (s.data.toList.take (j + 1))) W := fun W m hm h => by rw [HS.out, hm]; exact h
      have GO := Lib.hid go
      clear go hll
      have hx := (s[j]'hjs).toNat_lt
      by_cases c34 : (s[j]'hjs).toNat = 34
      · have hc : s[j]'hjs = 34 := UInt8.toNat_inj.1 c34
        have he : Hid (escOf (s[j]'hjs) = [92, 34]) := Lib.hid (by rw [hc]; rfl)
        clear hc
        gi_wp2_with (refine ⟨trivial, ?_⟩; gi_at_call 118; refine (callsIn_wide.2 (qt_str HI.out _ [92, 34] (by rfl) (by simp; omega))).mono ?_; rintro e w2 ⟨rfl, hq2⟩)
        go_roundw
        case rel => exact ⟨j + 1, by go_num, by omega, GO.out _ _ he.out hq2⟩
        case measure => simp [intOf]; omega
      · by_cases c92 : (s[j]'hjs).toNat = 92
        · have hc : s[j]'hjs = 92 := UInt8.toNat_inj.1 c92
          have he : Hid (escOf (s[j]'hjs) = [92, 92]) := Lib.hid (by rw [hc]; rfl)
          clear hc
          gi_wp2_with (refine ⟨trivial, ?_⟩; gi_at_call 118; refine (callsIn_wide.2 (qt_str HI.out _ [92, 92] (by rfl) (by simp; omega))).mono ?_; rintro e w2 ⟨rfl, hq2⟩)
          go_roundw
          case rel => exact ⟨j + 1, by go_num, by omega, GO.out _ _ he.out hq2⟩
          case measure => simp [intOf]; omega
        · have b34 : (((s[j]'hjs).toNat : Int) == 34) = false := by simp; omega
          have b92 : (((s[j]'hjs).toNat : Int) == 92) = false := by simp; omega
          have n34 : ¬ s[j]'hjs = 34 := fun h => c34 (by rw [h]; rfl)
          have n92 : ¬ s[j]'hjs = 92 := fun h => c92 (by rw [h]; rfl)
          by_cases c10 : (s[j]'hjs).toNat = 10
          · have hc : s[j]'hjs = 10 := UInt8.toNat_inj.1 c10
            have he : Hid (escOf (s[j]'hjs) = [92, 110]) := Lib.hid (by rw [hc]; rfl)
            clear hc n34 n92
            gi_wp2_with (refine ⟨trivial, ?_⟩; gi_at_call 118; refine (callsIn_wide.2 (qt_str HI.out _ [92, 110] (by rfl) (by simp; omega))).mono ?_; rintro e w2 ⟨rfl, hq2⟩)
            go_roundw
            case rel => exact ⟨j + 1, by go_num, by omega, GO.out _ _ he.out hq2⟩
            case measure => simp [intOf]; omega
          · have b10 : (((s[j]'hjs).toNat : Int) == 10) = false := by simp; omega
            have n10 : ¬ s[j]'hjs = 10 := fun h => c10 (by rw [h]; rfl)
            by_cases cx : (s[j]'hjs).toNat < 32 ∨ 126 < (s[j]'hjs).toNat
            · have he : Hid (escOf (s[j]'hjs) = [92, 120, hexOf ((s[j]'hjs).toNat / 16), hexOf ((s[j]'hjs).toNat % 16)]) := Lib.hid (by unfold escOf; rw [if_neg n34, if_neg n92, if_neg n10, if_pos cx])
              clear n34 n92 n10
              have CX := Lib.hid cx
              clear cx
              rcases CX.out with c32 | c126
              all_goals
                gi_wp2_with fail
                have hd : (s[j]'hjs).toNat / 16 < 16 := by omega
                have hm : (s[j]'hjs).toNat % 16 < 16 := by omega
                generalize hops : (#[_, _, _, _, _, _, _, _, _, _, _, _, _, _, _] : Array Oper) = ops
                refine wpIn_region_inv_tail 14 (fun i => match i with | 0 => .int .u8 (((s[j]'hjs).toNat : Nat) : Int) | 1 => .int .u8 (((s[j]'hjs).toNat / 16 : Nat) : Int) | 2 => .int .u8 (((s[j]'hjs).toNat : Nat) : Int) | 3 => .int .u8 (((s[j]'hjs).toNat / 16 : Nat) : Int) | 4 => .int .u8 (((s[j]'hjs).toNat / 16 + 1 : Nat) : Int) | 5 => .string ⟨#[hexOf ((s[j]'hjs).toNat / 16)]⟩ | 6 => .string (⟨#[92, 120]⟩ ++ ⟨#[hexOf ((s[j]'hjs).toNat / 16)]⟩) | 7 => .int .u8 (((s[j]'hjs).toNat : Nat) : Int) | 8 => .int .u8 (((s[j]'hjs).toNat % 16 : Nat) : Int) | 9 => .int .u8 (((s[j]'hjs).toNat : Nat) : Int) | 10 => .int .u8 (((s[j]'hjs).toNat % 16 : Nat) : Int) | 11 => .int .u8 (((s[j]'hjs).toNat % 16 + 1 : Nat) : Int) | 12 => .string ⟨#[hexOf ((s[j]'hjs).toNat % 16)]⟩ | 13 => .string (⟨#[92, 120]⟩ ++ ⟨#[hexOf ((s[j]'hjs).toNat / 16)]⟩ ++ ⟨#[hexOf ((s[j]'hjs).toNat % 16)]⟩) | _ => undef)
                  (fun _ Wy => Below wr.heap.size wr Wy) (by kernel_rfl) (by rw [← hops]; kernel_rfl) (by rw [← hops]; kernel_rfl) (by rw [← hops]; kernel_rfl) (by rw [← hops]; decide) (by rw [← hops]; kernel_rfl) ((Below.refl _ _).drew) ?step ?tail
                case step =>
                  intro i o listed a Wy ho hs hu hall ha hi hy hlt
                  have old5 : a.eval (.tmp 5) = .int .u8 (((s[j]'hjs).toNat : Nat) : Int) := by rw [ha.eval_old (noDst_spec (by rw [← hops]; kernel_rfl))]; rfl
                  have hcase : i = 0 ∨ i = 1 ∨ i = 2 ∨ i = 3 ∨ i = 4 ∨ i = 5 ∨ i = 6 ∨ i = 7 ∨ i = 8 ∨ i = 9 ∨ i = 10 ∨ i = 11 ∨ i = 12 ∨ i = 13 := by omega
                  rcases hcase with rfl | rfl | rfl | rfl | rfl | rfl | rfl | rfl | rfl | rfl | rfl | rfl | rfl | rfl
                  all_goals (have ho' := ho; rw [← hops] at ho'; simp only [List.getElem?_toArray, List.getElem?_cons_zero, List.getElem?_cons_succ, Option.some.injEq] at ho'; subst ho')
                  · refine step_none rfl ?_
                    refine opIn_value wideAt_plain (fun c h => by cases h) (v := .int .u8 (((s[j]'hjs).toNat : Nat) : Int)) (W' := Wy) ?_ ⟨rfl, hi⟩
                    simp only [execOp, old5]
                    simp only [Sem.run_pure]
                  · refine step_none rfl ?_
                    have h40 : a.eval (.tmp 40) = .int .u8 (((s[j]'hjs).toNat : Nat) : Int) := ha.eval_got (j := 0) (by rw [← hops]; rfl) rfl (hall ⟨0, .data⟩ (by simp) rfl)
                    refine opIn_value wideAt_plain (fun c h => by cases h) (v := .int .u8 (((s[j]'hjs).toNat / 16 : Nat) : Int)) (W' := Wy) ?_ ⟨rfl, hi⟩
                    simp only [execOp, h40]
                    simp [go_sem]
                    exact u8_keep _ (by omega) (by omega)
                  · refine step_none rfl ?_
                    refine opIn_value wideAt_plain (fun c h => by cases h) (v := .int .u8 (((s[j]'hjs).toNat : Nat) : Int)) (W' := Wy) ?_ ⟨rfl, hi⟩
                    simp only [execOp, old5]
                    simp only [Sem.run_pure]
                  · refine step_none rfl ?_
                    have h42 : a.eval (.tmp 42) = .int .u8 (((s[j]'hjs).toNat : Nat) : Int) := ha.eval_got (j := 2) (by rw [← hops]; rfl) rfl (hall ⟨2, .data⟩ (by simp) rfl)
                    refine opIn_value wideAt_plain (fun c h => by cases h) (v := .int .u8 (((s[j]'hjs).toNat / 16 : Nat) : Int)) (W' := Wy) ?_ ⟨rfl, hi⟩
                    simp only [execOp, h42]
                    simp [go_sem]
                    exact u8_keep _ (by omega) (by omega)
                  · refine step_none rfl ?_
                    have h43 : a.eval (.tmp 43) = .int .u8 (((s[j]'hjs).toNat / 16 : Nat) : Int) := ha.eval_got (j := 3) (by rw [← hops]; rfl) rfl (hall ⟨3, .data⟩ (by simp) rfl)
                    refine opIn_value wideAt_plain (fun c h => by cases h) (v := .int .u8 (((s[j]'hjs).toNat / 16 + 1 : Nat) : Int)) (W' := Wy) ?_ ⟨rfl, hi⟩
                    simp only [execOp, h43]
                    simp [go_sem]
                    exact u8_keep _ (by omega) (by omega)
                  · refine step_none rfl ?_
                    have h41 : a.eval (.tmp 41) = .int .u8 (((s[j]'hjs).toNat / 16 : Nat) : Int) := ha.eval_got (j := 1) (by rw [← hops]; rfl) rfl (hall ⟨1, .data⟩ (by simp) rfl)
                    have h44 : a.eval (.tmp 44) = .int .u8 (((s[j]'hjs).toNat / 16 + 1 : Nat) : Int) := ha.eval_got (j := 4) (by rw [← hops]; rfl) rfl (hall ⟨4, .data⟩ (by simp) rfl)
                    have q_h41 := h41; simp only [Act.eval, Array.getD_eq_getD_getElem?] at q_h41
                    have q_h44 := h44; simp only [Act.eval, Array.getD_eq_getD_getElem?] at q_h44
                    refine opIn_value wideAt_plain (fun c h => by cases h) (v := .string ⟨#[hexOf ((s[j]'hjs).toNat / 16)]⟩) (W' := Wy) ?_ ⟨rfl, hi⟩
                    simp only [execOp, h41, h44]
                    simp [go_sem, q_h41, q_h44, ]
                    rw [if_pos (by omega), if_pos (by omega), hex_cutI _ ((s[j]'hjs).toNat / 16) (by omega) (by omega)]
                  · refine step_none rfl ?_
                    have h45 : a.eval (.tmp 45) = .string ⟨#[hexOf ((s[j]'hjs).toNat / 16)]⟩ := ha.eval_got (j := 5) (by rw [← hops]; rfl) rfl (hall ⟨5, .data⟩ (by simp) rfl)
                    refine opIn_value wideAt_plain (fun c h => by cases h) (v := .string (⟨#[92, 120]⟩ ++ ⟨#[hexOf ((s[j]'hjs).toNat / 16)]⟩)) (W' := Wy) ?_ ⟨rfl, hi⟩
                    simp only [execOp, h45]
                    simp [go_sem]
                  · refine step_none rfl ?_
                    refine opIn_value wideAt_plain (fun c h => by cases h) (v := .int .u8 (((s[j]'hjs).toNat : Nat) : Int)) (W' := Wy) ?_ ⟨rfl, hi⟩
                    simp only [execOp, old5]
                    simp only [Sem.run_pure]
                  · refine step_none rfl ?_
                    have h47 : a.eval (.tmp 47) = .int .u8 (((s[j]'hjs).toNat : Nat) : Int) := ha.eval_got (j := 7) (by rw [← hops]; rfl) rfl (hall ⟨7, .data⟩ (by simp) rfl)
                    refine opIn_value wideAt_plain (fun c h => by cases h) (v := .int .u8 (((s[j]'hjs).toNat % 16 : Nat) : Int)) (W' := Wy) ?_ ⟨rfl, hi⟩
                    simp only [execOp, h47]
                    simp [go_sem]
                    exact Int.tmod_eq_emod_of_nonneg (by omega)
                  · refine step_none rfl ?_
                    refine opIn_value wideAt_plain (fun c h => by cases h) (v := .int .u8 (((s[j]'hjs).toNat : Nat) : Int)) (W' := Wy) ?_ ⟨rfl, hi⟩
                    simp only [execOp, old5]
                    simp only [Sem.run_pure]
                  · refine step_none rfl ?_
                    have h49 : a.eval (.tmp 49) = .int .u8 (((s[j]'hjs).toNat : Nat) : Int) := ha.eval_got (j := 9) (by rw [← hops]; rfl) rfl (hall ⟨9, .data⟩ (by simp) rfl)
                    refine opIn_value wideAt_plain (fun c h => by cases h) (v := .int .u8 (((s[j]'hjs).toNat % 16 : Nat) : Int)) (W' := Wy) ?_ ⟨rfl, hi⟩
                    simp only [execOp, h49]
                    simp [go_sem]
                    exact Int.tmod_eq_emod_of_nonneg (by omega)
                  · refine step_none rfl ?_
                    have h50 : a.eval (.tmp 50) = .int .u8 (((s[j]'hjs).toNat % 16 : Nat) : Int) := ha.eval_got (j := 10) (by rw [← hops]; rfl) rfl (hall ⟨10, .data⟩ (by simp) rfl)
                    refine opIn_value wideAt_plain (fun c h => by cases h) (v := .int .u8 (((s[j]'hjs).toNat % 16 + 1 : Nat) : Int)) (W' := Wy) ?_ ⟨rfl, hi⟩
                    simp only [execOp, h50]
                    simp [go_sem]
                    exact u8_keep _ (by omega) (by omega)
                  · refine step_none rfl ?_
                    have h48 : a.eval (.tmp 48) = .int .u8 (((s[j]'hjs).toNat % 16 : Nat) : Int) := ha.eval_got (j := 8) (by rw [← hops]; rfl) rfl (hall ⟨8, .data⟩ (by simp) rfl)
                    have h51 : a.eval (.tmp 51) = .int .u8 (((s[j]'hjs).toNat % 16 + 1 : Nat) : Int) := ha.eval_got (j := 11) (by rw [← hops]; rfl) rfl (hall ⟨11, .data⟩ (by simp) rfl)
                    have q_h48 := h48; simp only [Act.eval, Array.getD_eq_getD_getElem?] at q_h48
                    have q_h51 := h51; simp only [Act.eval, Array.getD_eq_getD_getElem?] at q_h51
                    refine opIn_value wideAt_plain (fun c h => by cases h) (v := .string ⟨#[hexOf ((s[j]'hjs).toNat % 16)]⟩) (W' := Wy) ?_ ⟨rfl, hi⟩
                    simp only [execOp, h48, h51]
                    simp [go_sem, q_h48, q_h51, ]
                    rw [if_pos (by omega), if_pos (by omega), hex_cutI _ ((s[j]'hjs).toNat % 16) (by omega) (by omega)]
                  · refine step_none rfl ?_
                    have h46 : a.eval (.tmp 46) = .string (⟨#[92, 120]⟩ ++ ⟨#[hexOf ((s[j]'hjs).toNat / 16)]⟩) := ha.eval_got (j := 6) (by rw [← hops]; rfl) rfl (hall ⟨6, .data⟩ (by simp) rfl)
                    have h52 : a.eval (.tmp 52) = .string ⟨#[hexOf ((s[j]'hjs).toNat % 16)]⟩ := ha.eval_got (j := 12) (by rw [← hops]; rfl) rfl (hall ⟨12, .data⟩ (by simp) rfl)
                    refine opIn_value wideAt_plain (fun c h => by cases h) (v := .string (⟨#[92, 120]⟩ ++ ⟨#[hexOf ((s[j]'hjs).toNat / 16)]⟩ ++ ⟨#[hexOf ((s[j]'hjs).toNat % 16)]⟩)) (W' := Wy) ?_ ⟨rfl, hi⟩
                    simp only [execOp, h46, h52]
                    simp [go_sem]
                case tail =>
                  intro Wz hz
                  subst hops
                  simp only [frameOf, Act.put, Option.bind_some, List.getElem?_toArray, List.getElem?_cons_zero, List.getElem?_cons_succ, List.setIfInBounds_toArray, List.set_cons_zero, List.set_cons_succ, List.drop_succ_cons, List.drop_zero]
                  have HZ := Lib.hid hz
                  clear hz
                  gi_wp2_with (refine ⟨trivial, ?_⟩; gi_at_call 118; refine (callsIn_wide.2 (qt_str (HI.out.on HZ.out) _ [92, 120, hexOf ((s[j]'hjs).toNat / 16), hexOf ((s[j]'hjs).toNat % 16)] (by simp) (by simp; omega))).mono ?_; rintro e w2 ⟨rfl, hq2⟩)
                  go_roundw
                  case rel => exact ⟨j + 1, by go_num, by omega, GO.out _ _ he.out hq2⟩
                  case measure => simp [intOf]; omega
            · have he : Hid (escOf (s[j]'hjs) = [s[j]'hjs]) := Lib.hid (by unfold escOf; rw [if_neg n34, if_neg n92, if_neg n10, if_neg cx])
              clear n34 n92 n10
              have b32 : ¬ ((s[j]'hjs).toNat : Int) < 32 := by omega
              have b126 : ¬ (126 : Int) < ((s[j]'hjs).toNat : Int) := by omega
              clear cx
              gi_wp2_with (refine ⟨trivial, ?_⟩; gi_at_call 92; refine (callsIn_wide.2 (qt_byte HI.out _ (by omega))).mono ?_; rintro e w2 ⟨rfl, hq2⟩)
              go_roundw
              case rel => exact ⟨j + 1, by go_num, by omega, GO.out _ _ he.out hq2⟩
              case measure => simp [intOf]; omega
    · have hl : j = s.size := by omega
      gi_wp2_with (first
        | (refine ⟨trivial, ?_⟩; gi_at_call 92; refine (callsIn_wide.2 (qt_byte HI.out 34 (by omega))).mono ?_; rintro e w2 ⟨rfl, hq2⟩; (have HI2 := Lib.hid hq2); clear hq2)
        | (refine ⟨trivial, ?_⟩; gi_at_call 93; refine (callsIn_wide.2 (qt_out HI2.out)).mono ?_; rintro e w2 ⟨rfl, hb2⟩))
      go_ret
      refine ⟨?_, hb2⟩
      have e1 : pre ++ [34] = quoteL s.data.toList := by rw [HPRE.out, hl, quoteL, List.take_of_length_le (by simp)]; rfl
      rw [e1]; rfl
end Go.Proofs.YtmepjbjmjbpchaaGreatDoor
end
