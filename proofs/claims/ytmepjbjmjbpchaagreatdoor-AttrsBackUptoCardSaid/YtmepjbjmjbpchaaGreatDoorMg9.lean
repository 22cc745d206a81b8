/- Texts of this claim, laid together: Ac4, Ac5, Ad0. -/
import Derived.Test.YtmepjbjmjbpchaaGreatDoorMg8
section
/- attrs.put: a new name at the end. -/
namespace Go.Proofs.YtmepjbjmjbpchaaGreatDoor
open Go Go.RowKit Go.Sort
set_option linter.unusedVariables false
set_option linter.unusedSimpArgs false
attribute [local go_sem] Oper.semAt_some

theorem row2_end {l : List Atr} {k : Nat} {R1 : Array Value} (hn : k = l.length) (hs : R1.size = (k + 1) * 6) : row2 l k R1 = R1 := by
  unfold row2
  rw [List.drop_of_length_le (by omega)]
  apply Array.ext'
  simp [List.take_of_length_le, List.drop_of_length_le, hs]
set_option maxRecDepth 100000 in
set_option maxHeartbeats 8000000 in
theorem put_end (v : Value) (l : List Atr) (base : Nat) (a : Atr) (w : World) (ho : AtrOwn w base v l) (hl : l.length ≤ 100000) (hr : Rises l) (hf : foundB l a.name = false) (hle : lowerB l a.name = l.length) (hn0 : 0 < l.length) (ha : a.Lies w) (haf : a.Fits)
    (hoff : ∀ x, (a.ia = some x ∨ a.ta = some x) → x.block < w.heap.size) :
    Calls Tryz.prog 40 #[v, a.val] w fun e w' => ∃ g, e = .returned (.slice (some ⟨g, 0, none⟩) (l.length + 1) (l.length + 1)) ∧ w.heap.size ≤ g ∧ AtrOwn w' w.heap.size (.slice (some ⟨g, 0, none⟩) (l.length + 1) (l.length + 1)) (l.take (lowerB l a.name) ++ a :: l.drop (lowerB l a.name)) ∧ Below w.heap.size w w' := by
  obtain ⟨g, c, cur, rfl, hbg, hgc, hcap, hcs, htk⟩ := ho.form (by omega)
  have hz := blkLt hgc
  have HOS := Lib.hid ho.sl
  have HO := Lib.hid ho
  have HR := Lib.hid hr
  have HF := Lib.hid hf
  have HOFF := Lib.hid hoff
  have HTK := Lib.hid htk
  have HA := Lib.hid ha
  have HGC := Lib.hid hgc
  obtain ⟨k, hk⟩ : ∃ k, k = lowerB l a.name := ⟨_, rfl⟩
  rw [← hk] at hle ⊢
  have HK := Lib.hid hk
  obtain ⟨n, hn⟩ : ∃ n, n = l.length := ⟨_, rfl⟩
  rw [← hn] at hle hn0 hl hcap
  subst hle
  have HN := Lib.hid hn
  rw [← hn]
  have hk0 : (0 : Int) ≤ (k : Int) := by omega
  have hkc : (k : Int) ≤ (c : Int) := by omega
  have hmk := make_attrs k (by omega)
  clear ho hr hf hoff htk ha hk hgc hn
  have HCS := Lib.hid hcs
  clear hcs
  have hpos : ∀ W, Below w.heap.size w W → Calls Tryz.prog 63 #[.slice (some ⟨g, 0, none⟩) k c, .string a.name, .func (.func 64) #[] #[]] W fun e w' => e = .returned (.tuple #[.int .i64 k, .bool false]) ∧ Below W.heap.size W w' := by
    intro W hb
    have := position_any _ c l a.name W (HOS.out.below hb) (by rw [← HN.out]; omega) HR.out
    rw [HF.out, ← HK.out, ← HN.out] at this
    exact this
  have HPOS := Lib.hid hpos
  clear hpos
  refine (callsIn_wide (n := 6)).1 ?_
  refine callsIn_of_wp Tryz.func40 rfl trivial ?_ rfl
  simp only [Tryz.ntmps40, List.size_toArray, List.length_cons, List.length_nil, Nat.reduceAdd, Nat.reduceSub, Array.replicate_succ, Array.replicate_zero, List.push_toArray, List.append_toArray, List.nil_append, List.cons_append]
  gi_wp2_with (refine ⟨trivial, ?_⟩; gi_at_call 63; refine CallsIn.mono (callsIn_wide.2 (HPOS.out _ ?_)) ?_; (focus ((repeat (first | (with_reducible refine below_set ?_ (by first | exact Nat.le_refl _ | omega) _ _) | with_reducible exact Below.refl _ _ | with_reducible refine belowA ?_ _ | with_reducible refine belowD ?_ | with_reducible refine belowN ?_ _)); done)); rintro e w1 ⟨rfl, hb1⟩; have c0 := rdCell hb1 w.heap.size (by simp); have f0 := rdFree hb1 w.heap.size (by simp); have hzw1 : w.heap.size < w1.heap.size := (by have := Below.size hb1; simp at this; omega); have hg1 := (hb1.block g (by simp; omega)).trans (heap_alloc_old HGC.out _); have hzg1 := blkLt hg1; have hcp1 := cp1 HN.out HTK.out hg1 (Nat.le_refl k) c)
  have hR1s : (row1 l k k).size = (k + 1) * 6 := by
    unfold row1
    have := madeA_size (k + 1)
    simp only [List.size_toArray, List.length_append, List.length_take, List.length_drop, Array.length_toList, flat_len, ← HN.out, this]; omega
  have hR1k : ∀ t, t < k * 6 → (row1 l k k)[t]? = ((l.take k).flatMap Atr.cells)[t]? := by
    intro t ht
    unfold row1
    simp only [List.take_zero, List.nil_append, List.getElem?_toArray]
    rw [List.getElem?_append_left (by rw [flat_len, List.length_take, ← HN.out]; omega)]
  obtain ⟨R1, hR1⟩ : ∃ R, R = row1 l k k := ⟨_, rfl⟩
  refine wpIn_world (fun W => W.heap[w1.heap.size]? = some (.cells R1 27 (0, 0)) ∧ Below w1.heap.size w1 W) ⟨by rw [hR1]; exact setRow_heap _ _ _ _ _ _ (heap_alloc_new _ _), below_setRow ((Below.refl _ _).alloc (Nat.le_refl _) _) (Nat.le_refl _) _⟩ ?_
  rw [← hR1] at hR1s hR1k
  have HR1S := Lib.hid hR1s
  have HR1K := Lib.hid hR1k
  clear hR1s hR1k hR1 hcp1 hmk c0 f0
  rintro W2 ⟨hG2, hb2⟩
  have hg2 := (hb2.block g hzg1).trans hg1
  have HG2b := Lib.hid hg2
  have HG2 := Lib.hid hG2
  have HB2 := Lib.hid hb2
  clear hG2 hb2
  have hk1 : (0 : Int) ≤ (k : Int) + 1 := by omega
  have hk3 : (k : Int) ≤ (c : Int) := by omega
  have hkw : IntKind.i64.wrap ((k : Int) + 1) = (k : Int) + 1 := IntWalk.i64_in _ (by omega)
  have hkn : ((k : Int) + 1).toNat = k + 1 := by omega
  have hrs := HR1S.out
  have hr2 : Hid (row2 l k R1 = R1) := Lib.hid (row2_end HN.out HR1S.out)
  rcases Nat.eq_or_lt_of_le hcap with hck | hck
  · subst hck
    generalize hops : (#[_, _, _, _, _, _, _, _] : Array Oper) = ops
    refine wpIn_region_inv_tail 7 (fun i => match i with | 0 => .slice (some ⟨w1.heap.size, 0, none⟩) (k + 1) (k + 1) | 1 => .int .i64 (k : Int) | 2 => .int .i64 ((k : Int) + 1) | 3 => .slice (some ⟨w1.heap.size, 0, none⟩) 0 0 | 4 => .slice (some ⟨g, 0, none⟩) k k | 5 => .int .i64 (k : Int) | 6 => .slice (some ⟨g, 0, none⟩) 0 0 | _ => undef)
      (fun _ Wy => Below W2.heap.size W2 Wy) (by kernel_rfl) (by rw [← hops]; kernel_rfl) (by rw [← hops]; kernel_rfl) (by rw [← hops]; kernel_rfl) (by rw [← hops]; decide) (by rw [← hops]; kernel_rfl) ((Below.refl _ _).drew) ?step ?tail
    case step =>
      intro i o listed a Wy ho hs hu hall ha hi hy hlt
      have old7 : a.eval (.tmp 7) = .slice (some ⟨w1.heap.size, 0, none⟩) (k + 1) (k + 1) := by rw [ha.eval_old (noDst_spec (by rw [← hops]; kernel_rfl))]; rfl
      have old5 : a.eval (.tmp 5) = .int .i64 (k : Int) := by rw [ha.eval_old (noDst_spec (by rw [← hops]; kernel_rfl))]; rfl
      have old0 : a.eval (.tmp 0) = .slice (some ⟨g, 0, none⟩) k k := by rw [ha.eval_old (noDst_spec (by rw [← hops]; kernel_rfl))]; rfl
      have hcase : i = 0 ∨ i = 1 ∨ i = 2 ∨ i = 3 ∨ i = 4 ∨ i = 5 ∨ i = 6 := by omega
      rcases hcase with rfl | rfl | rfl | rfl | rfl | rfl | rfl
      all_goals (have ho' := ho; rw [← hops] at ho'; simp only [List.getElem?_toArray, List.getElem?_cons_zero, List.getElem?_cons_succ, Option.some.injEq] at ho'; subst ho')
      · refine step_none rfl ?_
        refine opIn_value wideAt_plain (fun c h => by cases h) (v := .slice (some ⟨w1.heap.size, 0, none⟩) (k + 1) (k + 1)) (W' := Wy) ?_ ⟨rfl, hi⟩
        simp only [execOp, old7]
        simp only [Sem.run_pure]
      · refine step_none rfl ?_
        refine opIn_value wideAt_plain (fun c h => by cases h) (v := .int .i64 (k : Int)) (W' := Wy) ?_ ⟨rfl, hi⟩
        simp only [execOp, old5]
        simp only [Sem.run_pure]
      · refine step_none rfl ?_
        have h31 : a.eval (.tmp 31) = .int .i64 (k : Int) := ha.eval_got (j := 1) (by rw [← hops]; rfl) rfl (hall ⟨1, .data⟩ (by simp) rfl)
        refine opIn_value wideAt_plain (fun c h => by cases h) (v := .int .i64 ((k : Int) + 1)) (W' := Wy) ?_ ⟨rfl, hi⟩
        simp only [execOp, h31]
        simp [go_sem, hkw]
      · refine step_none rfl ?_
        have h30 : a.eval (.tmp 30) = .slice (some ⟨w1.heap.size, 0, none⟩) (k + 1) (k + 1) := ha.eval_got (j := 0) (by rw [← hops]; rfl) rfl (hall ⟨0, .data⟩ (by simp) rfl)
        have h32 : a.eval (.tmp 32) = .int .i64 ((k : Int) + 1) := ha.eval_got (j := 2) (by rw [← hops]; rfl) rfl (hall ⟨2, .data⟩ (by simp) rfl)
        have q_h30 := h30; simp only [Act.eval, Array.getD_eq_getD_getElem?] at q_h30
        have q_h32 := h32; simp only [Act.eval, Array.getD_eq_getD_getElem?] at q_h32
        refine opIn_value wideAt_plain (fun c h => by cases h) (v := .slice (some ⟨w1.heap.size, 0, none⟩) 0 0) (W' := Wy) ?_ ⟨rfl, hi⟩
        simp only [execOp, h30, h32]
        simp [go_sem, q_h30, q_h32, hk1, hkn]
      · refine step_none rfl ?_
        refine opIn_value wideAt_plain (fun c h => by cases h) (v := .slice (some ⟨g, 0, none⟩) k k) (W' := Wy) ?_ ⟨rfl, hi⟩
        simp only [execOp, old0]
        simp only [Sem.run_pure]
      · refine step_none rfl ?_
        refine opIn_value wideAt_plain (fun c h => by cases h) (v := .int .i64 (k : Int)) (W' := Wy) ?_ ⟨rfl, hi⟩
        simp only [execOp, old5]
        simp only [Sem.run_pure]
      · refine step_none rfl ?_
        have h34 : a.eval (.tmp 34) = .slice (some ⟨g, 0, none⟩) k k := ha.eval_got (j := 4) (by rw [← hops]; rfl) rfl (hall ⟨4, .data⟩ (by simp) rfl)
        have h35 : a.eval (.tmp 35) = .int .i64 (k : Int) := ha.eval_got (j := 5) (by rw [← hops]; rfl) rfl (hall ⟨5, .data⟩ (by simp) rfl)
        have q_h34 := h34; simp only [Act.eval, Array.getD_eq_getD_getElem?] at q_h34
        have q_h35 := h35; simp only [Act.eval, Array.getD_eq_getD_getElem?] at q_h35
        refine opIn_value wideAt_plain (fun c h => by cases h) (v := .slice (some ⟨g, 0, none⟩) 0 0) (W' := Wy) ?_ ⟨rfl, hi⟩
        simp only [execOp, h34, h35]
        simp [go_sem, q_h34, q_h35, hk0, hk3, show k ≤ k by omega]
    case tail =>
      intro Wz hz
      subst hops
      simp only [frameOf, Act.put, Option.bind_some, List.getElem?_toArray, List.getElem?_cons_zero, List.getElem?_cons_succ, List.setIfInBounds_toArray, List.set_cons_zero, List.set_cons_succ, List.drop_succ_cons, List.drop_zero]
      have hGz := (hz.block _ (blkLt HG2.out)).trans HG2.out
      have hcp2 := run_copy_zero (P := Tryz.prog) Wz 22 22 3 27 (some ⟨w1.heap.size, 0, none⟩) (some ⟨g, 0, none⟩) 0 0 0 0 6 Tryz.underlying22 attr_size rfl
      have hb3 : Below w1.heap.size w1 Wz := HB2.out.trans (hz.mono HB2.out.size)
      have hc3 := fun j => (rdCell hb3 w.heap.size hzw1 j).trans (rdCell hb1 w.heap.size (by simp) j)
      have c4 := blkCell hGz
      have f4 := blkFree hGz
      obtain ⟨y0, e0⟩ : ∃ y, R1[k * 6]? = some y := ⟨_, Array.getElem?_eq_getElem (by omega)⟩
      obtain ⟨y1, e1⟩ : ∃ y, R1[k * 6 + 1]? = some y := ⟨_, Array.getElem?_eq_getElem (by omega)⟩
      obtain ⟨y2, e2⟩ : ∃ y, R1[k * 6 + 2]? = some y := ⟨_, Array.getElem?_eq_getElem (by omega)⟩
      obtain ⟨y3, e3⟩ : ∃ y, R1[k * 6 + 3]? = some y := ⟨_, Array.getElem?_eq_getElem (by omega)⟩
      obtain ⟨y4, e4⟩ : ∃ y, R1[k * 6 + 4]? = some y := ⟨_, Array.getElem?_eq_getElem (by omega)⟩
      obtain ⟨y5, e5⟩ : ∃ y, R1[k * 6 + 5]? = some y := ⟨_, Array.getElem?_eq_getElem (by omega)⟩
      have HG3 := Lib.hid hGz
      have HB3 := Lib.hid hb3
      have HB1 := Lib.hid hb1
      clear hz hGz hb3 hg1 hb1 hrs
      gi_wp2_with fail
      go_ret
      have hbw : Below w.heap.size w Wz := by (repeat (first | (with_reducible refine below_set ?_ (by first | exact Nat.le_refl _ | omega) _ _) | with_reducible exact Below.refl _ _ | with_reducible refine belowA ?_ _ | with_reducible refine below_own' ?_ HB3.out | with_reducible refine below_own' ?_ HB1.out | with_reducible refine belowD ?_ | with_reducible refine belowN ?_ _))
      have hgr := six_grown Wz w1.heap.size (k * 6) a
      have hbf : Below w.heap.size w (six Wz w1.heap.size (k * 6) a) := hbw.grown hgr hbw.size (fun t e => by cases e; omega)
      have hmem : ∀ b ∈ l.take k ++ a :: l.drop k, b.Lies w ∧ b.Fits ∧ ∀ x, (b.ia = some x ∨ b.ta = some x) → x.block < w.heap.size := by
        intro b hb
        rcases List.mem_append.1 hb with hb | hb
        · have := List.mem_of_mem_take hb; exact ⟨HO.out.lies b this, HO.out.fits b this, fun x hx => (HO.out.off b this x hx).1⟩
        · rcases List.mem_cons.1 hb with rfl | hb
          · exact ⟨HA.out, haf, HOFF.out⟩
          · have := List.mem_of_mem_drop hb; exact ⟨HO.out.lies b this, HO.out.fits b this, fun x hx => (HO.out.off b this x hx).1⟩
      refine ⟨w1.heap.size, rfl, by omega, ⟨?_, fun b hb => (hmem b hb).1.below hbf, fun b hb => (hmem b hb).2.1, fun b hb x hx => ⟨Nat.lt_of_lt_of_le ((hmem b hb).2.2 x hx) hbf.size, fun e => by have := (hmem b hb).2.2 x hx; have e2 := Option.some.inj e; simp at e2; omega⟩, fun e => by simp at e⟩, hbf⟩
      have hfin := row_final a HN.out HR1S.out (Nat.le_refl k) HR1K.out
      rw [hr2.out] at hfin
      exact own_final a k HG3.out (by omega) (by simp [← HN.out]) (by omega) HR1S.out hfin
  · have hckn : ¬ c = k := by omega
    generalize hops : (#[_, _, _, _, _, _, _, _] : Array Oper) = ops
    refine wpIn_region_inv_tail 7 (fun i => match i with | 0 => .slice (some ⟨w1.heap.size, 0, none⟩) (k + 1) (k + 1) | 1 => .int .i64 (k : Int) | 2 => .int .i64 ((k : Int) + 1) | 3 => .slice (some ⟨w1.heap.size, 0, none⟩) 0 0 | 4 => .slice (some ⟨g, 0, none⟩) k c | 5 => .int .i64 (k : Int) | 6 => .slice (some ⟨g, k * 6, none⟩) 0 (c - k) | _ => undef)
      (fun _ Wy => Below W2.heap.size W2 Wy) (by kernel_rfl) (by rw [← hops]; kernel_rfl) (by rw [← hops]; kernel_rfl) (by rw [← hops]; kernel_rfl) (by rw [← hops]; decide) (by rw [← hops]; kernel_rfl) ((Below.refl _ _).drew) ?step ?tail
    case step =>
      intro i o listed a Wy ho hs hu hall ha hi hy hlt
      have old7 : a.eval (.tmp 7) = .slice (some ⟨w1.heap.size, 0, none⟩) (k + 1) (k + 1) := by rw [ha.eval_old (noDst_spec (by rw [← hops]; kernel_rfl))]; rfl
      have old5 : a.eval (.tmp 5) = .int .i64 (k : Int) := by rw [ha.eval_old (noDst_spec (by rw [← hops]; kernel_rfl))]; rfl
      have old0 : a.eval (.tmp 0) = .slice (some ⟨g, 0, none⟩) k c := by rw [ha.eval_old (noDst_spec (by rw [← hops]; kernel_rfl))]; rfl
      have hcase : i = 0 ∨ i = 1 ∨ i = 2 ∨ i = 3 ∨ i = 4 ∨ i = 5 ∨ i = 6 := by omega
      rcases hcase with rfl | rfl | rfl | rfl | rfl | rfl | rfl
      all_goals (have ho' := ho; rw [← hops] at ho'; simp only [List.getElem?_toArray, List.getElem?_cons_zero, List.getElem?_cons_succ, Option.some.injEq] at ho'; subst ho')
      · refine step_none rfl ?_
        refine opIn_value wideAt_plain (fun c h => by cases h) (v := .slice (some ⟨w1.heap.size, 0, none⟩) (k + 1) (k + 1)) (W' := Wy) ?_ ⟨rfl, hi⟩
        simp only [execOp, old7]
        simp only [Sem.run_pure]
      · refine step_none rfl ?_
        refine opIn_value wideAt_plain (fun c h => by cases h) (v := .int .i64 (k : Int)) (W' := Wy) ?_ ⟨rfl, hi⟩
        simp only [execOp, old5]
        simp only [Sem.run_pure]
      · refine step_none rfl ?_
        have h31 : a.eval (.tmp 31) = .int .i64 (k : Int) := ha.eval_got (j := 1) (by rw [← hops]; rfl) rfl (hall ⟨1, .data⟩ (by simp) rfl)
        refine opIn_value wideAt_plain (fun c h => by cases h) (v := .int .i64 ((k : Int) + 1)) (W' := Wy) ?_ ⟨rfl, hi⟩
        simp only [execOp, h31]
        simp [go_sem, hkw]
      · refine step_none rfl ?_
        have h30 : a.eval (.tmp 30) = .slice (some ⟨w1.heap.size, 0, none⟩) (k + 1) (k + 1) := ha.eval_got (j := 0) (by rw [← hops]; rfl) rfl (hall ⟨0, .data⟩ (by simp) rfl)
        have h32 : a.eval (.tmp 32) = .int .i64 ((k : Int) + 1) := ha.eval_got (j := 2) (by rw [← hops]; rfl) rfl (hall ⟨2, .data⟩ (by simp) rfl)
        have q_h30 := h30; simp only [Act.eval, Array.getD_eq_getD_getElem?] at q_h30
        have q_h32 := h32; simp only [Act.eval, Array.getD_eq_getD_getElem?] at q_h32
        refine opIn_value wideAt_plain (fun c h => by cases h) (v := .slice (some ⟨w1.heap.size, 0, none⟩) 0 0) (W' := Wy) ?_ ⟨rfl, hi⟩
        simp only [execOp, h30, h32]
        simp [go_sem, q_h30, q_h32, hk1, hkn]
      · refine step_none rfl ?_
        refine opIn_value wideAt_plain (fun c h => by cases h) (v := .slice (some ⟨g, 0, none⟩) k c) (W' := Wy) ?_ ⟨rfl, hi⟩
        simp only [execOp, old0]
        simp only [Sem.run_pure]
      · refine step_none rfl ?_
        refine opIn_value wideAt_plain (fun c h => by cases h) (v := .int .i64 (k : Int)) (W' := Wy) ?_ ⟨rfl, hi⟩
        simp only [execOp, old5]
        simp only [Sem.run_pure]
      · refine step_none rfl ?_
        have h34 : a.eval (.tmp 34) = .slice (some ⟨g, 0, none⟩) k c := ha.eval_got (j := 4) (by rw [← hops]; rfl) rfl (hall ⟨4, .data⟩ (by simp) rfl)
        have h35 : a.eval (.tmp 35) = .int .i64 (k : Int) := ha.eval_got (j := 5) (by rw [← hops]; rfl) rfl (hall ⟨5, .data⟩ (by simp) rfl)
        have q_h34 := h34; simp only [Act.eval, Array.getD_eq_getD_getElem?] at q_h34
        have q_h35 := h35; simp only [Act.eval, Array.getD_eq_getD_getElem?] at q_h35
        refine opIn_value wideAt_plain (fun c h => by cases h) (v := .slice (some ⟨g, k * 6, none⟩) 0 (c - k)) (W' := Wy) ?_ ⟨rfl, hi⟩
        simp only [execOp, h34, h35]
        simp [go_sem, q_h34, q_h35, hk0, hk3, show k ≤ k by omega, hckn]
    case tail =>
      intro Wz hz
      subst hops
      simp only [frameOf, Act.put, Option.bind_some, List.getElem?_toArray, List.getElem?_cons_zero, List.getElem?_cons_succ, List.setIfInBounds_toArray, List.set_cons_zero, List.set_cons_succ, List.drop_succ_cons, List.drop_zero]
      have hGz := (hz.block _ (blkLt HG2.out)).trans HG2.out
      have hcp2 := run_copy_zero (P := Tryz.prog) Wz 22 22 3 27 (some ⟨w1.heap.size, 0, none⟩) (some ⟨g, k * 6, none⟩) 0 0 0 (c - k) 6 Tryz.underlying22 attr_size rfl
      have hb3 : Below w1.heap.size w1 Wz := HB2.out.trans (hz.mono HB2.out.size)
      have hc3 := fun j => (rdCell hb3 w.heap.size hzw1 j).trans (rdCell hb1 w.heap.size (by simp) j)
      have c4 := blkCell hGz
      have f4 := blkFree hGz
      obtain ⟨y0, e0⟩ : ∃ y, R1[k * 6]? = some y := ⟨_, Array.getElem?_eq_getElem (by omega)⟩
      obtain ⟨y1, e1⟩ : ∃ y, R1[k * 6 + 1]? = some y := ⟨_, Array.getElem?_eq_getElem (by omega)⟩
      obtain ⟨y2, e2⟩ : ∃ y, R1[k * 6 + 2]? = some y := ⟨_, Array.getElem?_eq_getElem (by omega)⟩
      obtain ⟨y3, e3⟩ : ∃ y, R1[k * 6 + 3]? = some y := ⟨_, Array.getElem?_eq_getElem (by omega)⟩
      obtain ⟨y4, e4⟩ : ∃ y, R1[k * 6 + 4]? = some y := ⟨_, Array.getElem?_eq_getElem (by omega)⟩
      obtain ⟨y5, e5⟩ : ∃ y, R1[k * 6 + 5]? = some y := ⟨_, Array.getElem?_eq_getElem (by omega)⟩
      have HG3 := Lib.hid hGz
      have HB3 := Lib.hid hb3
      have HB1 := Lib.hid hb1
      clear hz hGz hb3 hg1 hb1 hrs
      gi_wp2_with fail
      go_ret
      have hbw : Below w.heap.size w Wz := by (repeat (first | (with_reducible refine below_set ?_ (by first | exact Nat.le_refl _ | omega) _ _) | with_reducible exact Below.refl _ _ | with_reducible refine belowA ?_ _ | with_reducible refine below_own' ?_ HB3.out | with_reducible refine below_own' ?_ HB1.out | with_reducible refine belowD ?_ | with_reducible refine belowN ?_ _))
      have hgr := six_grown Wz w1.heap.size (k * 6) a
      have hbf : Below w.heap.size w (six Wz w1.heap.size (k * 6) a) := hbw.grown hgr hbw.size (fun t e => by cases e; omega)
      have hmem : ∀ b ∈ l.take k ++ a :: l.drop k, b.Lies w ∧ b.Fits ∧ ∀ x, (b.ia = some x ∨ b.ta = some x) → x.block < w.heap.size := by
        intro b hb
        rcases List.mem_append.1 hb with hb | hb
        · have := List.mem_of_mem_take hb; exact ⟨HO.out.lies b this, HO.out.fits b this, fun x hx => (HO.out.off b this x hx).1⟩
        · rcases List.mem_cons.1 hb with rfl | hb
          · exact ⟨HA.out, haf, HOFF.out⟩
          · have := List.mem_of_mem_drop hb; exact ⟨HO.out.lies b this, HO.out.fits b this, fun x hx => (HO.out.off b this x hx).1⟩
      refine ⟨w1.heap.size, rfl, by omega, ⟨?_, fun b hb => (hmem b hb).1.below hbf, fun b hb => (hmem b hb).2.1, fun b hb x hx => ⟨Nat.lt_of_lt_of_le ((hmem b hb).2.2 x hx) hbf.size, fun e => by have := (hmem b hb).2.2 x hx; have e2 := Option.some.inj e; simp at e2; omega⟩, fun e => by simp at e⟩, hbf⟩
      have hfin := row_final a HN.out HR1S.out (Nat.le_refl k) HR1K.out
      rw [hr2.out] at hfin
      exact own_final a k HG3.out (by omega) (by simp [← HN.out]) (by omega) HR1S.out hfin
end Go.Proofs.YtmepjbjmjbpchaaGreatDoor
end
section
/- attrs.put into the empty list; attrs.put whatever the name. -/
namespace Go.Proofs.YtmepjbjmjbpchaaGreatDoor
open Go Go.RowKit Go.Sort
set_option linter.unusedVariables false
set_option linter.unusedSimpArgs false
attribute [local go_sem] Oper.semAt_some

set_option maxRecDepth 100000 in
set_option maxHeartbeats 8000000 in
theorem put_emp (a : Atr) (w : World) (ha : a.Lies w) (haf : a.Fits) (hoff : ∀ x, (a.ia = some x ∨ a.ta = some x) → x.block < w.heap.size) :
    Calls Tryz.prog 40 #[.slice none 0 0, a.val] w fun e w' => ∃ g, e = .returned (.slice (some ⟨g, 0, none⟩) 1 1) ∧ w.heap.size ≤ g ∧ AtrOwn w' w.heap.size (.slice (some ⟨g, 0, none⟩) 1 1) [a] ∧ Below w.heap.size w w' := by
  have HOFF := Lib.hid hoff
  have HA := Lib.hid ha
  have hmk : ∀ W, (Instr.makeSlice 22 (.int .i64 1) (.int .i64 1)).run Tryz.prog W = .ok (.slice (some ⟨W.heap.size, 0, none⟩) 1 1) (W.alloc (.cells (madeA 1) 27)) := make_attrs 0 (by omega)
  have hpos : ∀ W, Below w.heap.size w W → Calls Tryz.prog 63 #[.slice none 0 0, .string a.name, .func (.func 64) #[] #[]] W fun e w' => e = .returned (.tuple #[.int .i64 0, .bool false]) ∧ Below W.heap.size W w' := by
    intro W hb
    exact position_any none 0 [] a.name W ⟨.inl rfl, by simp, by simp⟩ (by simp) (fun i j hi hj => by simp at hj)
  have HPOS := Lib.hid hpos
  have hcp1 := fun W dp dl dc => run_copy_zero (P := Tryz.prog) W 22 22 3 27 dp none dl dc 0 0 6 Tryz.underlying22 attr_size (by show min 0 dl = 0; omega)
  clear hpos hoff ha
  refine (callsIn_wide (n := 6)).1 ?_
  refine callsIn_of_wp Tryz.func40 rfl trivial ?_ rfl
  simp only [Tryz.ntmps40, List.size_toArray, List.length_cons, List.length_nil, Nat.reduceAdd, Nat.reduceSub, Array.replicate_succ, Array.replicate_zero, List.push_toArray, List.append_toArray, List.nil_append, List.cons_append]
  gi_wp2_with (refine ⟨trivial, ?_⟩; gi_at_call 63; refine CallsIn.mono (callsIn_wide.2 (HPOS.out _ ?_)) ?_; (focus ((repeat (first | (with_reducible refine below_set ?_ (by first | exact Nat.le_refl _ | omega) _ _) | with_reducible exact Below.refl _ _ | with_reducible refine belowA ?_ _ | with_reducible refine belowD ?_ | with_reducible refine belowN ?_ _)); done)); rintro e w1 ⟨rfl, hb1⟩; have c0 := rdCell hb1 w.heap.size (by simp); have f0 := rdFree hb1 w.heap.size (by simp); have hzw1 : w.heap.size < w1.heap.size := (by have := Below.size hb1; simp at this; omega))
  refine wpIn_world (fun W => W.heap[w1.heap.size]? = some (.cells (madeA 1) 27 (0, 0)) ∧ Below w1.heap.size w1 W) ⟨heap_alloc_new _ _, (Below.refl _ _).alloc (Nat.le_refl _) _⟩ ?_
  rintro W2 ⟨hG2, hb2⟩
  have HG2 := Lib.hid hG2
  have HB2 := Lib.hid hb2
  clear hG2 hb2 c0 f0
  have hkw : IntKind.i64.wrap ((0 : Int) + 1) = 1 := rfl
  generalize hops : (#[_, _, _, _, _, _, _, _] : Array Oper) = ops
  refine wpIn_region_inv_tail 7 (fun i => match i with | 0 => .slice (some ⟨w1.heap.size, 0, none⟩) 1 1 | 1 => .int .i64 0 | 2 => .int .i64 1 | 3 => .slice (some ⟨w1.heap.size, 0, none⟩) 0 0 | 4 => .slice none 0 0 | 5 => .int .i64 0 | 6 => .slice none 0 0 | _ => undef)
    (fun _ Wy => Below W2.heap.size W2 Wy) (by kernel_rfl) (by rw [← hops]; kernel_rfl) (by rw [← hops]; kernel_rfl) (by rw [← hops]; kernel_rfl) (by rw [← hops]; decide) (by rw [← hops]; kernel_rfl) ((Below.refl _ _).drew) ?step ?tail
  case step =>
    intro i o listed a Wy ho hs hu hall ha hi hy hlt
    have old7 : a.eval (.tmp 7) = .slice (some ⟨w1.heap.size, 0, none⟩) 1 1 := by rw [ha.eval_old (noDst_spec (by rw [← hops]; kernel_rfl))]; rfl
    have old5 : a.eval (.tmp 5) = .int .i64 0 := by rw [ha.eval_old (noDst_spec (by rw [← hops]; kernel_rfl))]; rfl
    have old0 : a.eval (.tmp 0) = .slice none 0 0 := by rw [ha.eval_old (noDst_spec (by rw [← hops]; kernel_rfl))]; rfl
    have hcase : i = 0 ∨ i = 1 ∨ i = 2 ∨ i = 3 ∨ i = 4 ∨ i = 5 ∨ i = 6 := by omega
    rcases hcase with rfl | rfl | rfl | rfl | rfl | rfl | rfl
    all_goals (have ho' := ho; rw [← hops] at ho'; simp only [List.getElem?_toArray, List.getElem?_cons_zero, List.getElem?_cons_succ, Option.some.injEq] at ho'; subst ho')
    · refine step_none rfl ?_
      refine opIn_value wideAt_plain (fun c h => by cases h) (v := .slice (some ⟨w1.heap.size, 0, none⟩) 1 1) (W' := Wy) ?_ ⟨rfl, hi⟩
      simp only [execOp, old7]
      simp only [Sem.run_pure]
    · refine step_none rfl ?_
      refine opIn_value wideAt_plain (fun c h => by cases h) (v := .int .i64 0) (W' := Wy) ?_ ⟨rfl, hi⟩
      simp only [execOp, old5]
      simp only [Sem.run_pure]
    · refine step_none rfl ?_
      have h31 : a.eval (.tmp 31) = .int .i64 0 := ha.eval_got (j := 1) (by rw [← hops]; rfl) rfl (hall ⟨1, .data⟩ (by simp) rfl)
      refine opIn_value wideAt_plain (fun c h => by cases h) (v := .int .i64 1) (W' := Wy) ?_ ⟨rfl, hi⟩
      simp only [execOp, h31]
      simp [go_sem] <;> rfl
    · refine step_none rfl ?_
      have h30 : a.eval (.tmp 30) = .slice (some ⟨w1.heap.size, 0, none⟩) 1 1 := ha.eval_got (j := 0) (by rw [← hops]; rfl) rfl (hall ⟨0, .data⟩ (by simp) rfl)
      have h32 : a.eval (.tmp 32) = .int .i64 1 := ha.eval_got (j := 2) (by rw [← hops]; rfl) rfl (hall ⟨2, .data⟩ (by simp) rfl)
      have q_h30 := h30; simp only [Act.eval, Array.getD_eq_getD_getElem?] at q_h30
      have q_h32 := h32; simp only [Act.eval, Array.getD_eq_getD_getElem?] at q_h32
      refine opIn_value wideAt_plain (fun c h => by cases h) (v := .slice (some ⟨w1.heap.size, 0, none⟩) 0 0) (W' := Wy) ?_ ⟨rfl, hi⟩
      simp only [execOp, h30, h32]
      simp [go_sem, q_h30, q_h32, ]
    · refine step_none rfl ?_
      refine opIn_value wideAt_plain (fun c h => by cases h) (v := .slice none 0 0) (W' := Wy) ?_ ⟨rfl, hi⟩
      simp only [execOp, old0]
      simp only [Sem.run_pure]
    · refine step_none rfl ?_
      refine opIn_value wideAt_plain (fun c h => by cases h) (v := .int .i64 0) (W' := Wy) ?_ ⟨rfl, hi⟩
      simp only [execOp, old5]
      simp only [Sem.run_pure]
    · refine step_none rfl ?_
      have h34 : a.eval (.tmp 34) = .slice none 0 0 := ha.eval_got (j := 4) (by rw [← hops]; rfl) rfl (hall ⟨4, .data⟩ (by simp) rfl)
      have h35 : a.eval (.tmp 35) = .int .i64 0 := ha.eval_got (j := 5) (by rw [← hops]; rfl) rfl (hall ⟨5, .data⟩ (by simp) rfl)
      have q_h34 := h34; simp only [Act.eval, Array.getD_eq_getD_getElem?] at q_h34
      have q_h35 := h35; simp only [Act.eval, Array.getD_eq_getD_getElem?] at q_h35
      refine opIn_value wideAt_plain (fun c h => by cases h) (v := .slice none 0 0) (W' := Wy) ?_ ⟨rfl, hi⟩
      simp only [execOp, h34, h35]
      simp [go_sem, q_h34, q_h35, ]
  case tail =>
    intro Wz hz
    subst hops
    simp only [frameOf, Act.put, Option.bind_some, List.getElem?_toArray, List.getElem?_cons_zero, List.getElem?_cons_succ, List.setIfInBounds_toArray, List.set_cons_zero, List.set_cons_succ, List.drop_succ_cons, List.drop_zero]
    have hGz := (hz.block _ (blkLt HG2.out)).trans HG2.out
    have hb3 : Below w1.heap.size w1 Wz := HB2.out.trans (hz.mono HB2.out.size)
    have hc3 := fun j => (rdCell hb3 w.heap.size hzw1 j).trans (rdCell hb1 w.heap.size (by simp) j)
    have c4 := blkCell hGz
    have f4 := blkFree hGz
    have hms := madeA_size 1
    obtain ⟨y0, e0⟩ : ∃ y, (madeA 1)[0]? = some y := ⟨_, Array.getElem?_eq_getElem (by omega)⟩
    obtain ⟨y1, e1⟩ : ∃ y, (madeA 1)[1]? = some y := ⟨_, Array.getElem?_eq_getElem (by omega)⟩
    obtain ⟨y2, e2⟩ : ∃ y, (madeA 1)[2]? = some y := ⟨_, Array.getElem?_eq_getElem (by omega)⟩
    obtain ⟨y3, e3⟩ : ∃ y, (madeA 1)[3]? = some y := ⟨_, Array.getElem?_eq_getElem (by omega)⟩
    obtain ⟨y4, e4⟩ : ∃ y, (madeA 1)[4]? = some y := ⟨_, Array.getElem?_eq_getElem (by omega)⟩
    obtain ⟨y5, e5⟩ : ∃ y, (madeA 1)[5]? = some y := ⟨_, Array.getElem?_eq_getElem (by omega)⟩
    have HG3 := Lib.hid hGz
    have HB3 := Lib.hid hb3
    have HB1 := Lib.hid hb1
    clear hz hGz hb3 hb1 hms
    gi_wp2_with fail
    go_ret
    have hbw : Below w.heap.size w Wz := by (repeat (first | (with_reducible refine below_set ?_ (by first | exact Nat.le_refl _ | omega) _ _) | with_reducible exact Below.refl _ _ | with_reducible refine belowA ?_ _ | with_reducible refine below_own' ?_ HB3.out | with_reducible refine below_own' ?_ HB1.out | with_reducible refine belowD ?_ | with_reducible refine belowN ?_ _))
    have hgr := six_grown Wz w1.heap.size (0 * 6) a
    have hbf : Below w.heap.size w (six Wz w1.heap.size (0 * 6) a) := hbw.grown hgr hbw.size (fun t e => by cases e; omega)
    refine ⟨w1.heap.size, rfl, by omega, ⟨?_, fun b hb => (by rw [List.mem_singleton.1 hb]; exact HA.out.below hbf), fun b hb => (by rw [List.mem_singleton.1 hb]; exact haf), fun b hb x hx => (by rw [List.mem_singleton.1 hb] at hx; exact ⟨Nat.lt_of_lt_of_le (HOFF.out x hx) hbf.size, fun e => by have := HOFF.out x hx; have e2 := Option.some.inj e; simp at e2; omega⟩), fun e => by simp at e⟩, hbf⟩
    refine own_final (m := 1) (l := [a]) a 0 HG3.out (by omega) rfl (by omega) (madeA_size 1) ?_
    apply List.ext_getElem?
    intro t
    rw [set6_at _ _ _ _ _ _ _ _ _ (by rw [Array.length_toList, madeA_size]; omega)]
    by_cases hc : t < 6
    · rw [if_pos (by omega)]; simp [Atr.cells]
    · rw [if_neg (by omega), List.getElem?_eq_none (by rw [Array.length_toList, madeA_size]; omega), List.getElem?_eq_none (by rw [flat_len]; simp; omega)]
/-- What becomes of the blocks. -/
def PutBlk (w w' : World) (v v' : Value) : Prop := (v' = v ∧ ∃ g, v.ownBlock = some g ∧ w.grownBy w' (some g)) ∨ (∃ g, v'.ownBlock = some g ∧ w.heap.size ≤ g ∧ Below w.heap.size w w')
theorem put_any (v : Value) (l : List Atr) (base : Nat) (a : Atr) (w : World) (ho : AtrOwn w base v l) (hl : l.length ≤ 100000) (hr : Rises l) (ha : a.Lies w) (haf : a.Fits) (hbase : base ≤ w.heap.size)
    (hoff : ∀ x, (a.ia = some x ∨ a.ta = some x) → x.block < w.heap.size ∧ v.ownBlock ≠ some x.block) :
    Calls Tryz.prog 40 #[v, a.val] w fun e w' => ∃ v' l', e = .returned v' ∧ AtrOwn w' base v' l' ∧ l'.map Atr.dat = setD (l.map Atr.dat) a.dat ∧ (∀ b ∈ l', b ∈ l ∨ b = a) ∧ PutBlk w w' v v' := by
  cases hf : foundB l a.name with
  | true =>
    refine (put_found v l base a w ho hl hr hf ha haf hoff).mono ?_
    rintro e w' ⟨he, h1, h2⟩
    refine ⟨v, _, he, h1, ?_, fun b hb => List.mem_or_eq_of_mem_set hb, .inl ⟨rfl, h2⟩⟩
    unfold setD
    rw [show a.dat.name = a.name from rfl, ← foundD_eq, hf, if_pos rfl, ← lowerD_eq, List.map_set]
  | false =>
    have hd : (l.take (lowerB l a.name) ++ a :: l.drop (lowerB l a.name)).map Atr.dat = setD (l.map Atr.dat) a.dat := by
      unfold setD
      rw [show a.dat.name = a.name from rfl, ← foundD_eq, hf, if_neg (by simp), ← lowerD_eq]
      simp [List.map_take, List.map_drop]
    have hm : ∀ b ∈ l.take (lowerB l a.name) ++ a :: l.drop (lowerB l a.name), b ∈ l ∨ b = a := by
      intro b hb
      rcases List.mem_append.1 hb with hb | hb
      · exact .inl (List.mem_of_mem_take hb)
      · rcases List.mem_cons.1 hb with rfl | hb
        · exact .inr rfl
        · exact .inl (List.mem_of_mem_drop hb)
    have hown : ∀ {w' : World} {v' : Value} {l' : List Atr}, AtrOwn w' w.heap.size v' l' → AtrOwn w' base v' l' := fun h => ⟨⟨h.own.1, h.own.2.imp id fun ⟨g, cap, cur, a1, a2, r⟩ => ⟨g, cap, cur, a1, Nat.le_trans hbase a2, r⟩⟩, h.lies, h.fits, h.off, h.nil⟩
    rcases Nat.eq_zero_or_pos l.length with h0 | h0
    · obtain rfl := List.length_eq_zero_iff.1 h0
      obtain rfl := ho.nil rfl
      refine (put_emp a w ha haf (fun x hx => (hoff x hx).1)).mono ?_
      rintro e w' ⟨g, he, hg, h1, hb⟩
      exact ⟨_, _, he, hown h1, hd, hm, .inr ⟨g, rfl, hg, hb⟩⟩
    · rcases Nat.lt_or_ge (lowerB l a.name) l.length with h1 | h1
      · refine (put_mid v l base a w ho hl hr hf h1 ha haf (fun x hx => (hoff x hx).1)).mono ?_
        rintro e w' ⟨g, he, hg, h1, hb⟩
        exact ⟨_, _, he, hown h1, hd, hm, .inr ⟨g, rfl, hg, hb⟩⟩
      · refine (put_end v l base a w ho hl hr hf (by have := lower_le l a.name; omega) h0 ha haf (fun x hx => (hoff x hx).1)).mono ?_
        rintro e w' ⟨g, he, hg, h1, hb⟩
        exact ⟨_, _, he, hown h1, hd, hm, .inr ⟨g, rfl, hg, hb⟩⟩
end Go.Proofs.YtmepjbjmjbpchaaGreatDoor
end
section
/- Rising lists of data: setD keeps them so; the reference's way to set. -/
namespace Go.Proofs.YtmepjbjmjbpchaaGreatDoor
open Go Go.RowKit
set_option linter.unusedVariables false
set_option linter.unusedSimpArgs false

theorem risesD_pw (l : List Dat) : RisesD l ↔ l.Pairwise fun a b => nmLt a.name b.name = true := by
  rw [List.pairwise_iff_getElem]
  constructor
  · intro h i j hi hj hij; exact h i j hij hj
  · intro h i j hij hj; exact h i j (by omega) hj hij
theorem nm_ne_lt {s t : ByteArray} (h : nmLt t s = false) (hne : t ≠ s) : nmLt s t = true := by
  cases hx : nmLt s t with
  | true => rfl
  | false => exact absurd (nm_total h hx) hne
/-- The list with a name set, element by element. -/
def insD (d : Dat) : List Dat → List Dat
  | [] => [d]
  | a :: l => if nmLt a.name d.name then a :: insD d l else if a.name = d.name then d :: l else d :: a :: l
theorem setD_eq : ∀ (l : List Dat) (d : Dat), setD l d = insD d l
  | [], d => rfl
  | a :: l, d => by
    have ih := setD_eq l d
    unfold insD
    by_cases h : nmLt a.name d.name = true
    · rw [if_pos h, ← ih]
      have hl : lowerD (a :: l) d.name = lowerD l d.name + 1 := by unfold lowerD; simp [List.takeWhile_cons, h]
      have hf : foundD (a :: l) d.name = foundD l d.name := by unfold foundD; rw [hl]; simp
      unfold setD
      rw [hl, hf]
      split <;> simp
    · rw [if_neg h]
      have hl : lowerD (a :: l) d.name = 0 := by unfold lowerD; simp [List.takeWhile_cons, h]
      have hf : foundD (a :: l) d.name = decide (a.name = d.name) := by unfold foundD; rw [hl]; simp
      unfold setD
      rw [hl, hf]
      by_cases h2 : a.name = d.name
      · rw [if_pos h2, if_pos (by simpa using h2)]; simp
      · rw [if_neg h2, if_neg (by simpa using h2)]; simp
theorem insD_mem {d b : Dat} : ∀ {l : List Dat}, b ∈ insD d l → b = d ∨ b ∈ l
  | [], h => by simp [insD] at h; exact .inl h
  | a :: l, h => by
    unfold insD at h
    split at h
    · rcases List.mem_cons.1 h with rfl | h
      · exact .inr (List.mem_cons_self ..)
      · rcases insD_mem h with h | h
        · exact .inl h
        · exact .inr (List.mem_cons_of_mem _ h)
    · split at h
      · rcases List.mem_cons.1 h with rfl | h
        · exact .inl rfl
        · exact .inr (List.mem_cons_of_mem _ h)
      · rcases List.mem_cons.1 h with rfl | h
        · exact .inl rfl
        · exact .inr h
theorem insD_rises {d : Dat} : ∀ {l : List Dat}, RisesD l → RisesD (insD d l)
  | [], _ => fun i j hi hj => by simp [insD] at hj; omega
  | a :: l, h => by
    rw [risesD_pw] at h ⊢
    obtain ⟨h1, h2⟩ := List.pairwise_cons.1 h
    have ih := (risesD_pw _).1 (insD_rises (d := d) ((risesD_pw l).2 h2))
    unfold insD
    split
    · rename_i hlt
      refine List.pairwise_cons.2 ⟨fun b hb => ?_, ih⟩
      rcases insD_mem hb with rfl | hb
      · exact hlt
      · exact h1 b hb
    · rename_i hlt
      split
      · rename_i he
        exact List.pairwise_cons.2 ⟨fun b hb => by rw [← he]; exact h1 b hb, h2⟩
      · rename_i hne
        have hd : nmLt d.name a.name = true := nm_ne_lt (by simpa using hlt) hne
        refine List.pairwise_cons.2 ⟨fun b hb => ?_, h⟩
        rcases List.mem_cons.1 hb with rfl | hb
        · exact hd
        · exact nm_trans hd (h1 b hb)
theorem setD_rises {l : List Dat} (h : RisesD l) (d : Dat) : RisesD (setD l d) := by rw [setD_eq]; exact insD_rises h
theorem insD_len {d : Dat} : ∀ l : List Dat, (insD d l).length ≤ l.length + 1
  | [] => by simp [insD]
  | a :: l => by
    unfold insD
    have := insD_len (d := d) l
    split
    · simp; omega
    · split <;> simp
theorem setD_len (l : List Dat) (d : Dat) : (setD l d).length ≤ l.length + 1 := by rw [setD_eq]; exact insD_len l
def mergeD (l m : List Dat) : List Dat := m.foldl setD l
/-- The reference's loop: the elements up to some place, and whether the new one is in. -/
def rsetD (d : Dat) : List Dat → List Dat × Bool → List Dat × Bool
  | [], r => r
  | a :: l, (out, done) =>
    let p := if !done && !nmLt a.name d.name then (out ++ [d], true) else (out, done)
    rsetD d l (if a.name = d.name then p.1 else p.1 ++ [a], p.2)
end Go.Proofs.YtmepjbjmjbpchaaGreatDoor
end
