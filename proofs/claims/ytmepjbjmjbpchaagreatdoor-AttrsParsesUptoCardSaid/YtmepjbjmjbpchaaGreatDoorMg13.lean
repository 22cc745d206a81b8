/- Texts of this claim, laid together: Ac5, Ad0, Ad1, Ad2. -/
import Derived.Test.YtmepjbjmjbpchaaGreatDoorMg9
import Derived.Test.YtmepjbjmjbpchaaGreatDoorMg11
import Derived.Test.YtmepjbjmjbpchaaGreatDoorMg12
section
/- attrs.put into the empty list; attrs.put whatever the name. -/
namespace Go.Proofs.YtmepjbjmjbpchaaGreatDoor
open Go Go.RowKit Go.Sort
set_option linter.unusedVariables false
set_option linter.unusedSimpArgs false
attribute [local go_sem] Oper.semAt_some

set_option maxRecDepth 100000 in
set_option maxHeartbeats 8000000 in
theorem put_emp (a : Atr) (w : World) (ha : a.Lies w) (haf : a.Fits) (hoff : ∀ x, (a.ia = some x ∨ a.ta = some x) → x.block < w.heap.size) :
    Calls Tryz.prog 40 #[.slice none 0 0, a.val] w fun e w' => ∃ g, e = .returned (.slice (some ⟨g, 0, none⟩) 1 1) ∧ w.heap.size ≤ g ∧ AtrOwn w' w.heap.size (.slice (some ⟨g, 0, none⟩) 1 1) [a] ∧ Below w.heap.size w w' := by
  have HOFF := Lib.hid hoff
  have HA := Lib.hid ha
  have hmk : ∀ W, (Instr.makeSlice 22 (.int .i64 1) (.int .i64 1)).run Tryz.prog W = .ok (.slice (some ⟨W.heap.size, 0, none⟩) 1 1) (W.alloc (.cells (madeA 1) 27)) := make_attrs 0 (by omega)
  have hpos : ∀ W, Below w.heap.size w W → Calls Tryz.prog 63 #[.slice none 0 0, .string a.name, .func (.func 64) #[] #[]] W fun e w' => e = .returned (.tuple #[.int .i64 0, .bool false]) ∧ Below W.heap.size W w' := by
    intro W hb
    exact position_any none 0 [] a.name W ⟨.inl rfl, by simp, by simp⟩ (by simp) (fun i j hi hj => by simp at hj)
  have HPOS := Lib.hid hpos
  have hcp1 := fun W dp dl dc => run_copy_zero (P := Tryz.prog) W 22 22 3 27 dp none dl dc 0 0 6 Tryz.underlying22 attr_size (by show min 0 dl = 0; omega)
  clear hpos hoff ha
  refine (callsIn_wide (n := 6)).1 ?_
  refine callsIn_of_wp Tryz.func40 rfl trivial ?_ rfl
  simp only [Tryz.ntmps40, List.size_toArray, List.length_cons, List.length_nil, Nat.reduceAdd, Nat.reduceSub, Array.replicate_succ, Array.replicate_zero, List.push_toArray, List.append_toArray, List.nil_append, List.cons_append]
  gi_wp2_with (refine ⟨trivial, ?_⟩; gi_at_call 63; refine CallsIn.mono (callsIn_wide.2 (HPOS.out _ ?_)) ?_; (focus ((repeat (first | (with_reducible refine below_set ?_ (by first | exact Nat.le_refl _ | omega) _ _) | with_reducible exact Below.refl _ _ | with_reducible refine belowA ?_ _ | with_reducible refine belowD ?_ | with_reducible refine belowN ?_ _)); done)); rintro e w1 ⟨rfl, hb1⟩; have c0 := rdCell hb1 w.heap.size (by simp); have f0 := rdFree hb1 w.heap.size (by simp); have hzw1 : w.heap.size < w1.heap.size := (by have := Below.size hb1; simp at this; omega))
  refine wpIn_world (fun W => W.heap[w1.heap.size]? = some (.cells (madeA 1) 27 (0, 0)) ∧ Below w1.heap.size w1 W) ⟨heap_alloc_new _ _, (Below.refl _ _).alloc (Nat.le_refl _) _⟩ ?_
  rintro W2 ⟨hG2, hb2⟩
  have HG2 := Lib.hid hG2
  have HB2 := Lib.hid hb2
  clear hG2 hb2 c0 f0
  have hkw : IntKind.i64.wrap ((0 : Int) + 1) = 1 := rfl
  generalize hops : (#[_, _, _, _, _, _, _, _] : Array Oper) = ops
  refine wpIn_region_inv_tail 7 (fun i => match i with | 0 => .slice (some ⟨w1.heap.size, 0, none⟩) 1 1 | 1 => .int .i64 0 | 2 => .int .i64 1 | 3 => .slice (some ⟨w1.heap.size, 0, none⟩) 0 0 | 4 => .slice none 0 0 | 5 => .int .i64 0 | 6 => .slice none 0 0 | _ => undef)
    (fun _ Wy => Below W2.heap.size W2 Wy) (by kernel_rfl) (by rw [← hops]; kernel_rfl) (by rw [← hops]; kernel_rfl) (by rw [← hops]; kernel_rfl) (by rw [← hops]; decide) (by rw [← hops]; kernel_rfl) ((Below.refl _ _).drew) ?step ?tail
  case step =>
    intro i o listed a Wy ho hs hu hall ha hi hy hlt
    have old7 : a.eval (.tmp 7) = .slice (some ⟨w1.heap.size, 0, none⟩) 1 1 := by rw [ha.eval_old (noDst_spec (by rw [← hops]; kernel_rfl))]; rfl
    have old5 : a.eval (.tmp 5) = .int .i64 0 := by rw [ha.eval_old (noDst_spec (by rw [← hops]; kernel_rfl))]; rfl
    have old0 : a.eval (.tmp 0) = .slice none 0 0 := by rw [ha.eval_old (noDst_spec (by rw [← hops]; kernel_rfl))]; rfl
    have hcase : i = 0 ∨ i = 1 ∨ i = 2 ∨ i = 3 ∨ i = 4 ∨ i = 5 ∨ i = 6 := by omega
    rcases hcase with rfl | rfl | rfl | rfl | rfl | rfl | rfl
    all_goals (have ho' := ho; rw [← hops] at ho'; simp only [List.getElem?_toArray, List.getElem?_cons_zero, List.getElem?_cons_succ, Option.some.injEq] at ho'; subst ho')
    · refine step_none rfl ?_
      refine opIn_value wideAt_plain (fun c h => by cases h) (v := .slice (some ⟨w1.heap.size, 0, none⟩) 1 1) (W' := Wy) ?_ ⟨rfl, hi⟩
      simp only [execOp, old7]
      simp only [Sem.run_pure]
    · refine step_none rfl ?_
      refine opIn_value wideAt_plain (fun c h => by cases h) (v := .int .i64 0) (W' := Wy) ?_ ⟨rfl, hi⟩
      simp only [execOp, old5]
      simp only [Sem.run_pure]
    · refine step_none rfl ?_
      have h31 : a.eval (.tmp 31) = .int .i64 0 := ha.eval_got (j := 1) (by rw [← hops]; rfl) rfl (hall ⟨1, .data⟩ (by simp) rfl)
      refine opIn_value wideAt_plain (fun c h => by cases h) (v := .int .i64 1) (W' := Wy) ?_ ⟨rfl, hi⟩
      simp only [execOp, h31]
      simp [go_sem] <;> rfl
    · refine step_none rfl ?_
      have h30 : a.eval (.tmp 30) = .slice (some ⟨w1.heap.size, 0, none⟩) 1 1 := ha.eval_got (j := 0) (by rw [← hops]; rfl) rfl (hall ⟨0, .data⟩ (by simp) rfl)
      have h32 : a.eval (.tmp 32) = .int .i64 1 := ha.eval_got (j := 2) (by rw [← hops]; rfl) rfl (hall ⟨2, .data⟩ (by simp) rfl)
      have q_h30 := h30; simp only [Act.eval, Array.getD_eq_getD_getElem?] at q_h30
      have q_h32 := h32; simp only [Act.eval, Array.getD_eq_getD_getElem?] at q_h32
      refine opIn_value wideAt_plain (fun c h => by cases h) (v := .slice (some ⟨w1.heap.size, 0, none⟩) 0 0) (W' := Wy) ?_ ⟨rfl, hi⟩
      simp only [execOp, h30, h32]
      simp [go_sem, q_h30, q_h32, ]
    · refine step_none rfl ?_
      refine opIn_value wideAt_plain (fun c h => by cases h) (v := .slice none 0 0) (W' := Wy) ?_ ⟨rfl, hi⟩
      simp only [execOp, old0]
      simp only [Sem.run_pure]
    · refine step_none rfl ?_
      refine opIn_value wideAt_plain (fun c h => by cases h) (v := .int .i64 0) (W' := Wy) ?_ ⟨rfl, hi⟩
      simp only [execOp, old5]
      simp only [Sem.run_pure]
    · refine step_none rfl ?_
      have h34 : a.eval (.tmp 34) = .slice none 0 0 := ha.eval_got (j := 4) (by rw [← hops]; rfl) rfl (hall ⟨4, .data⟩ (by simp) rfl)
      have h35 : a.eval (.tmp 35) = .int .i64 0 := ha.eval_got (j := 5) (by rw [← hops]; rfl) rfl (hall ⟨5, .data⟩ (by simp) rfl)
      have q_h34 := h34; simp only [Act.eval, Array.getD_eq_getD_getElem?] at q_h34
      have q_h35 := h35; simp only [Act.eval, Array.getD_eq_getD_getElem?] at q_h35
      refine opIn_value wideAt_plain (fun c h => by cases h) (v := .slice none 0 0) (W' := Wy) ?_ ⟨rfl, hi⟩
      simp only [execOp, h34, h35]
      simp [go_sem, q_h34, q_h35, ]
  case tail =>
    intro Wz hz
    subst hops
    simp only [frameOf, Act.put, Option.bind_some, List.getElem?_toArray, List.getElem?_cons_zero, List.getElem?_cons_succ, List.setIfInBounds_toArray, List.set_cons_zero, List.set_cons_succ, List.drop_succ_cons, List.drop_zero]
    have hGz := (hz.block _ (blkLt HG2.out)).trans HG2.out
    have hb3 : Below w1.heap.size w1 Wz := HB2.out.trans (hz.mono HB2.out.size)
    have hc3 := fun j => (rdCell hb3 w.heap.size hzw1 j).trans (rdCell hb1 w.heap.size (by simp) j)
    have c4 := blkCell hGz
    have f4 := blkFree hGz
    have hms := madeA_size 1
    obtain ⟨y0, e0⟩ : ∃ y, (madeA 1)[0]? = some y := ⟨_, Array.getElem?_eq_getElem (by omega)⟩
    obtain ⟨y1, e1⟩ : ∃ y, (madeA 1)[1]? = some y := ⟨_, Array.getElem?_eq_getElem (by omega)⟩
    obtain ⟨y2, e2⟩ : ∃ y, (madeA 1)[2]? = some y := ⟨_, Array.getElem?_eq_getElem (by omega)⟩
    obtain ⟨y3, e3⟩ : ∃ y, (madeA 1)[3]? = some y := ⟨_, Array.getElem?_eq_getElem (by omega)⟩
    obtain ⟨y4, e4⟩ : ∃ y, (madeA 1)[4]? = some y := ⟨_, Array.getElem?_eq_getElem (by omega)⟩
    obtain ⟨y5, e5⟩ : ∃ y, (madeA 1)[5]? = some y := ⟨_, Array.getElem?_eq_getElem (by omega)⟩
    have HG3 := Lib.hid hGz
    have HB3 := Lib.hid hb3
    have HB1 := Lib.hid hb1
    clear hz hGz hb3 hb1 hms
    gi_wp2_with fail
    go_ret
    have hbw : Below w.heap.size w Wz := by (repeat (first | (with_reducible refine below_set ?_ (by first | exact Nat.le_refl _ | omega) _ _) | with_reducible exact Below.refl _ _ | with_reducible refine belowA ?_ _ | with_reducible refine below_own' ?_ HB3.out | with_reducible refine below_own' ?_ HB1.out | with_reducible refine belowD ?_ | with_reducible refine belowN ?_ _))
    have hgr := six_grown Wz w1.heap.size (0 * 6) a
    have hbf : Below w.heap.size w (six Wz w1.heap.size (0 * 6) a) := hbw.grown hgr hbw.size (fun t e => by cases e; omega)
    refine ⟨w1.heap.size, rfl, by omega, ⟨?_, fun b hb => (by rw [List.mem_singleton.1 hb]; exact HA.out.below hbf), fun b hb => (by rw [List.mem_singleton.1 hb]; exact haf), fun b hb x hx => (by rw [List.mem_singleton.1 hb] at hx; exact ⟨Nat.lt_of_lt_of_le (HOFF.out x hx) hbf.size, fun e => by have := HOFF.out x hx; have e2 := Option.some.inj e; simp at e2; omega⟩), fun e => by simp at e⟩, hbf⟩
    refine own_final (m := 1) (l := [a]) a 0 HG3.out (by omega) rfl (by omega) (madeA_size 1) ?_
    apply List.ext_getElem?
    intro t
    rw [set6_at _ _ _ _ _ _ _ _ _ (by rw [Array.length_toList, madeA_size]; omega)]
    by_cases hc : t < 6
    · rw [if_pos (by omega)]; simp [Atr.cells]
    · rw [if_neg (by omega), List.getElem?_eq_none (by rw [Array.length_toList, madeA_size]; omega), List.getElem?_eq_none (by rw [flat_len]; simp; omega)]
/-- What becomes of the blocks. -/
def PutBlk (w w' : World) (v v' : Value) : Prop := (v' = v ∧ ∃ g, v.ownBlock = some g ∧ w.grownBy w' (some g)) ∨ (∃ g, v'.ownBlock = some g ∧ w.heap.size ≤ g ∧ Below w.heap.size w w')
theorem put_any (v : Value) (l : List Atr) (base : Nat) (a : Atr) (w : World) (ho : AtrOwn w base v l) (hl : l.length ≤ 100000) (hr : Rises l) (ha : a.Lies w) (haf : a.Fits) (hbase : base ≤ w.heap.size)
    (hoff : ∀ x, (a.ia = some x ∨ a.ta = some x) → x.block < w.heap.size ∧ v.ownBlock ≠ some x.block) :
    Calls Tryz.prog 40 #[v, a.val] w fun e w' => ∃ v' l', e = .returned v' ∧ AtrOwn w' base v' l' ∧ l'.map Atr.dat = setD (l.map Atr.dat) a.dat ∧ (∀ b ∈ l', b ∈ l ∨ b = a) ∧ PutBlk w w' v v' := by
  cases hf : foundB l a.name with
  | true =>
    refine (put_found v l base a w ho hl hr hf ha haf hoff).mono ?_
    rintro e w' ⟨he, h1, h2⟩
    refine ⟨v, _, he, h1, ?_, fun b hb => List.mem_or_eq_of_mem_set hb, .inl ⟨rfl, h2⟩⟩
    unfold setD
    rw [show a.dat.name = a.name from rfl, ← foundD_eq, hf, if_pos rfl, ← lowerD_eq, List.map_set]
  | false =>
    have hd : (l.take (lowerB l a.name) ++ a :: l.drop (lowerB l a.name)).map Atr.dat = setD (l.map Atr.dat) a.dat := by
      unfold setD
      rw [show a.dat.name = a.name from rfl, ← foundD_eq, hf, if_neg (by simp), ← lowerD_eq]
      simp [List.map_take, List.map_drop]
    have hm : ∀ b ∈ l.take (lowerB l a.name) ++ a :: l.drop (lowerB l a.name), b ∈ l ∨ b = a := by
      intro b hb
      rcases List.mem_append.1 hb with hb | hb
      · exact .inl (List.mem_of_mem_take hb)
      · rcases List.mem_cons.1 hb with rfl | hb
        · exact .inr rfl
        · exact .inl (List.mem_of_mem_drop hb)
    have hown : ∀ {w' : World} {v' : Value} {l' : List Atr}, AtrOwn w' w.heap.size v' l' → AtrOwn w' base v' l' := fun h => ⟨⟨h.own.1, h.own.2.imp id fun ⟨g, cap, cur, a1, a2, r⟩ => ⟨g, cap, cur, a1, Nat.le_trans hbase a2, r⟩⟩, h.lies, h.fits, h.off, h.nil⟩
    rcases Nat.eq_zero_or_pos l.length with h0 | h0
    · obtain rfl := List.length_eq_zero_iff.1 h0
      obtain rfl := ho.nil rfl
      refine (put_emp a w ha haf (fun x hx => (hoff x hx).1)).mono ?_
      rintro e w' ⟨g, he, hg, h1, hb⟩
      exact ⟨_, _, he, hown h1, hd, hm, .inr ⟨g, rfl, hg, hb⟩⟩
    · rcases Nat.lt_or_ge (lowerB l a.name) l.length with h1 | h1
      · refine (put_mid v l base a w ho hl hr hf h1 ha haf (fun x hx => (hoff x hx).1)).mono ?_
        rintro e w' ⟨g, he, hg, h1, hb⟩
        exact ⟨_, _, he, hown h1, hd, hm, .inr ⟨g, rfl, hg, hb⟩⟩
      · refine (put_end v l base a w ho hl hr hf (by have := lower_le l a.name; omega) h0 ha haf (fun x hx => (hoff x hx).1)).mono ?_
        rintro e w' ⟨g, he, hg, h1, hb⟩
        exact ⟨_, _, he, hown h1, hd, hm, .inr ⟨g, rfl, hg, hb⟩⟩
end Go.Proofs.YtmepjbjmjbpchaaGreatDoor
end
section
/- Rising lists of data: setD keeps them so; the reference's way to set. -/
namespace Go.Proofs.YtmepjbjmjbpchaaGreatDoor
open Go Go.RowKit
set_option linter.unusedVariables false
set_option linter.unusedSimpArgs false

theorem risesD_pw (l : List Dat) : RisesD l ↔ l.Pairwise fun a b => nmLt a.name b.name = true := by
  rw [List.pairwise_iff_getElem]
  constructor
  · intro h i j hi hj hij; exact h i j hij hj
  · intro h i j hij hj; exact h i j (by omega) hj hij
theorem nm_ne_lt {s t : ByteArray} (h : nmLt t s = false) (hne : t ≠ s) : nmLt s t = true := by
  cases hx : nmLt s t with
  | true => rfl
  | false => exact absurd (nm_total h hx) hne
/-- The list with a name set, element by element. -/
def insD (d : Dat) : List Dat → List Dat
  | [] => [d]
  | a :: l => if nmLt a.name d.name then a :: insD d l else if a.name = d.name then d :: l else d :: a :: l
theorem setD_eq : ∀ (l : List Dat) (d : Dat), setD l d = insD d l
  | [], d => rfl
  | a :: l, d => by
    have ih := setD_eq l d
    unfold insD
    by_cases h : nmLt a.name d.name = true
    · rw [if_pos h, ← ih]
      have hl : lowerD (a :: l) d.name = lowerD l d.name + 1 := by unfold lowerD; simp [List.takeWhile_cons, h]
      have hf : foundD (a :: l) d.name = foundD l d.name := by unfold foundD; rw [hl]; simp
      unfold setD
      rw [hl, hf]
      split <;> simp
    · rw [if_neg h]
      have hl : lowerD (a :: l) d.name = 0 := by unfold lowerD; simp [List.takeWhile_cons, h]
      have hf : foundD (a :: l) d.name = decide (a.name = d.name) := by unfold foundD; rw [hl]; simp
      unfold setD
      rw [hl, hf]
      by_cases h2 : a.name = d.name
      · rw [if_pos h2, if_pos (by simpa using h2)]; simp
      · rw [if_neg h2, if_neg (by simpa using h2)]; simp
theorem insD_mem {d b : Dat} : ∀ {l : List Dat}, b ∈ insD d l → b = d ∨ b ∈ l
  | [], h => by simp [insD] at h; exact .inl h
  | a :: l, h => by
    unfold insD at h
    split at h
    · rcases List.mem_cons.1 h with rfl | h
      · exact .inr (List.mem_cons_self ..)
      · rcases insD_mem h with h | h
        · exact .inl h
        · exact .inr (List.mem_cons_of_mem _ h)
    · split at h
      · rcases List.mem_cons.1 h with rfl | h
        · exact .inl rfl
        · exact .inr (List.mem_cons_of_mem _ h)
      · rcases List.mem_cons.1 h with rfl | h
        · exact .inl rfl
        · exact .inr h
theorem insD_rises {d : Dat} : ∀ {l : List Dat}, RisesD l → RisesD (insD d l)
  | [], _ => fun i j hi hj => by simp [insD] at hj; omega
  | a :: l, h => by
    rw [risesD_pw] at h ⊢
    obtain ⟨h1, h2⟩ := List.pairwise_cons.1 h
    have ih := (risesD_pw _).1 (insD_rises (d := d) ((risesD_pw l).2 h2))
    unfold insD
    split
    · rename_i hlt
      refine List.pairwise_cons.2 ⟨fun b hb => ?_, ih⟩
      rcases insD_mem hb with rfl | hb
      · exact hlt
      · exact h1 b hb
    · rename_i hlt
      split
      · rename_i he
        exact List.pairwise_cons.2 ⟨fun b hb => by rw [← he]; exact h1 b hb, h2⟩
      · rename_i hne
        have hd : nmLt d.name a.name = true := nm_ne_lt (by simpa using hlt) hne
        refine List.pairwise_cons.2 ⟨fun b hb => ?_, h⟩
        rcases List.mem_cons.1 hb with rfl | hb
        · exact hd
        · exact nm_trans hd (h1 b hb)
theorem setD_rises {l : List Dat} (h : RisesD l) (d : Dat) : RisesD (setD l d) := by rw [setD_eq]; exact insD_rises h
theorem insD_len {d : Dat} : ∀ l : List Dat, (insD d l).length ≤ l.length + 1
  | [] => by simp [insD]
  | a :: l => by
    unfold insD
    have := insD_len (d := d) l
    split
    · simp; omega
    · split <;> simp
theorem setD_len (l : List Dat) (d : Dat) : (setD l d).length ≤ l.length + 1 := by rw [setD_eq]; exact insD_len l
def mergeD (l m : List Dat) : List Dat := m.foldl setD l
/-- The reference's loop: the elements up to some place, and whether the new one is in. -/
def rsetD (d : Dat) : List Dat → List Dat × Bool → List Dat × Bool
  | [], r => r
  | a :: l, (out, done) =>
    let p := if !done && !nmLt a.name d.name then (out ++ [d], true) else (out, done)
    rsetD d l (if a.name = d.name then p.1 else p.1 ++ [a], p.2)
end Go.Proofs.YtmepjbjmjbpchaaGreatDoor
end
section
/- attrs.Merge, attrs.Set. -/
namespace Go.Proofs.YtmepjbjmjbpchaaGreatDoor
open Go Go.RowKit Go.Sort
set_option linter.unusedVariables false
set_option linter.unusedSimpArgs false

theorem AtrOwn.mono {w : World} {base base' : Nat} {v : Value} {l : List Atr} (h : AtrOwn w base v l) (hb : base' ≤ base) : AtrOwn w base' v l :=
  ⟨⟨h.own.1, h.own.2.imp id fun ⟨g, cap, cur, a1, a2, r⟩ => ⟨g, cap, cur, a1, Nat.le_trans hb a2, r⟩⟩, h.lies, h.fits, h.off, h.nil⟩
theorem AtrOwn.grown {w w' : World} {base : Nat} {v : Value} {l : List Atr} {row : Option Nat} (h : AtrOwn w base v l) (hg : w.grownBy w' row) (hne : v.ownBlock = none ∨ v.ownBlock ≠ row)
    (hl : ∀ a ∈ l, ∀ x, (a.ia = some x ∨ a.ta = some x) → row ≠ some x.block) : AtrOwn w' base v l :=
  ⟨h.own.kept hg hne, fun a ha => (h.lies a ha).grown hg (hl a ha), h.fits, fun a ha x hx => ⟨Nat.lt_of_lt_of_le (h.off a ha x hx).1 hg.size, (h.off a ha x hx).2⟩, h.nil⟩
/-- The list v2 lies apart from the row of v. -/
def Apart (v v2 : Value) (m : List Atr) : Prop := ∀ g, v.ownBlock = some g → v2.ownBlock ≠ some g ∧ ∀ b ∈ m, ∀ x, (b.ia = some x ∨ b.ta = some x) → x.block ≠ g
theorem mergeD_rises : ∀ (m l : List Dat), RisesD l → RisesD (mergeD l m)
  | [], l, h => h
  | d :: m, l, h => mergeD_rises m (setD l d) (setD_rises h d)
theorem mergeD_len : ∀ (m l : List Dat), (mergeD l m).length ≤ l.length + m.length
  | [], l => Nat.le_refl _
  | d :: m, l => by
    have h1 := mergeD_len m (setD l d)
    have h2 := setD_len l d
    show (mergeD (setD l d) m).length ≤ _
    simp; omega
theorem mergeD_snoc (l m : List Dat) (d : Dat) : mergeD l (m ++ [d]) = setD (mergeD l m) d := by unfold mergeD; rw [List.foldl_append]; rfl
structure MgI (w : World) (l m : List Dat) (v2 : Value) (m1 : List Atr) (j : Nat) (v : Value) (l' : List Atr) (wr : World) : Prop where
  out : AtrOwn wr w.heap.size v l'
  arg : AtrOwn wr w.heap.size v2 m1
  off : Apart v v2 m1
  dat : l'.map Atr.dat = mergeD l (m.take j)
  below : Below w.heap.size w wr
theorem MgI.step {w W1 w5 : World} {l m : List Dat} {v2 v v' : Value} {m1 l' l'' : List Atr} {j : Nat} {a0 : Atr} (h : MgI w l m v2 m1 j v l' W1) (hm : m1.map Atr.dat = m) (hj : j < m1.length) (ha : a0 = m1[j])
    (ho : AtrOwn w5 w.heap.size v' l'') (hd : l''.map Atr.dat = setD (l'.map Atr.dat) a0.dat) (hp : PutBlk W1 w5 v v') : MgI w l m v2 m1 (j + 1) v' l'' w5 := by
  have hdat : l''.map Atr.dat = mergeD l (m.take (j + 1)) := by
    have hjm : j < m.length := by rw [← hm]; simpa using hj
    rw [List.take_succ_eq_append_getElem hjm, mergeD_snoc, hd, h.dat]
    congr 1
    subst hm; rw [ha]; simp
  rcases hp with ⟨rfl, g, hg, hgr⟩ | ⟨g, hg, hge, hb⟩
  · have hap := h.off g hg
    exact ⟨ho, h.arg.grown hgr (.inr hap.1) (fun b hb x hx e => hap.2 b hb x hx (Option.some.inj e).symm), h.off, hdat, h.below.grown hgr h.below.size (fun k hk => by cases hk; exact (h.out.own.lt _ hg).1)⟩
  · refine ⟨ho, h.arg.below hb, fun k hk => ?_, hdat, below_own' h.below hb⟩
    rw [hg] at hk; cases hk
    exact ⟨fun e => by have := (h.arg.own.lt _ e).2; omega, fun b hb x hx e => by have := (h.arg.off b hb x hx).1; omega⟩

def MgPost (l m : List Atr) (w : World) (e : Ending) (w' : World) : Prop :=
  Below w.heap.size w w' ∧ if rightL l && rightL m then (if 100 < (mergeD (l.map Atr.dat) (m.map Atr.dat)).length then e = .returned (.tuple #[.slice none 0 0, .int .i64 2]) else
    ∃ v l', e = .returned (.tuple #[v, .int .i64 0]) ∧ AtrOwn w' w.heap.size v l' ∧ l'.map Atr.dat = mergeD (l.map Atr.dat) (m.map Atr.dat)) else e = .returned (.tuple #[.slice none 0 0, .int .i64 20])

set_option maxRecDepth 100000 in
set_option maxHeartbeats 8000000 in
theorem merge_no (p q : Option Addr) (c d : Nat) (l m : List Atr) (w : World) (hs : AtrSl w p l) (hs2 : AtrSl w q m) (hl : l.length ≤ 100000000000000) (hm : m.length ≤ 100000000000000) (h : (rightL l && rightL m) = false) :
    Calls Tryz.prog 18 #[.slice p l.length c, .slice q m.length d] w (MgPost l m w) := by
  have HP : ∀ w', Below w.heap.size w w' → MgPost l m w (.returned (.tuple #[.slice none 0 0, .int .i64 20])) w' := fun w' hb => ⟨hb, by rw [h]; rfl⟩
  have HP' := Lib.hid HP
  have HC := Lib.hid (check_any' p c l w hs hl)
  have HS2 := Lib.hid hs2
  clear HP hs hs2
  cases hr : rightL l with
  | false =>
    have HR := Lib.hid hr
    clear h hr
    go_enter Tryz.func18, Tryz.ntmps18
    go_wp2_with (go_at_call 19; refine HC.out.mono ?_; rintro e w1 ⟨rfl, hb1⟩; rw [HR.out]; simp only [Bool.false_eq_true, if_false])
    go_ret2
    exact HP'.out _ hb1
  | true =>
    have HR := Lib.hid hr
    have HR2 : Hid (rightL m = false) := Lib.hid (by rw [hr] at h; simpa using h)
    clear h hr
    go_enter Tryz.func18, Tryz.ntmps18
    go_wp2_with (first
      | (go_at_call 19; have tok := tok1; clear tok tok1; refine (check_any' q d m w1 (HS2.out.below hb1) hm).mono ?_; rintro e w2 ⟨rfl, hb2⟩; rw [HR2.out]; simp only [Bool.false_eq_true, if_false])
      | (go_at_call 19; refine HC.out.mono ?_; rintro e w1 ⟨rfl, hb1⟩; rw [HR.out]; simp only [if_true]; have tok1 : True := trivial))
    go_ret2
    exact HP'.out _ (below_own' hb1 hb2)
theorem right_len {l : List Atr} (h : rightL l = true) : l.length ≤ 100 := by
  unfold rightL at h; rw [Bool.and_eq_true] at h; simpa using h.1
theorem dat_len {l l' : List Atr} (h : l'.map Atr.dat = l.map Atr.dat) : l'.length = l.length := by simpa using congrArg List.length h

set_option maxRecDepth 100000 in
set_option maxHeartbeats 8000000 in
theorem merge_yes (p q : Option Addr) (c d : Nat) (l m : List Atr) (w : World) (hs : AtrSl w p l) (hs2 : AtrSl w q m) (h1 : rightL l = true) (h2 : rightL m = true) :
    Calls Tryz.prog 18 #[.slice p l.length c, .slice q m.length d] w (MgPost l m w) := by
  have hl := right_len h1
  have hm := right_len h2
  have HC := Lib.hid (check_any' p c l w hs (by omega))
  have HS := Lib.hid hs
  have HS2 := Lib.hid hs2
  have HR := Lib.hid h1
  have HR2 := Lib.hid h2
  clear hs hs2 h1 h2
  go_enter Tryz.func18, Tryz.ntmps18
  go_wp2_with (first
    | (go_at_call 39; have tok := tok3; clear tok tok3; refine Calls.mono (attrs_any q d m _ (HS2.out.below (below_own' (below_own' HB1.out HB2.out) HB3.out)) (by omega)) ?_; rintro e w4 ⟨v2, m1, rfl, ho2, hd2, hfr2, hb4⟩; obtain ⟨pv2, pc2, rfl, -⟩ := own_form ho2.own; have HB4 := Lib.hid hb4; have HO2 := Lib.hid ho2; have HD2 := Lib.hid hd2; have HFR2 := Lib.hid hfr2; clear hb4 ho2 hd2 hfr2)
    | (go_at_call 39; have tok := tok2; clear tok tok2; refine Calls.mono (attrs_any p c l _ (HS.out.below (below_own' HB1.out HB2.out)) (by omega)) ?_; rintro e w3 ⟨v1, l1, rfl, ho1, hd1, -, hb3⟩; have HB3 := Lib.hid hb3; have HO1 := Lib.hid ho1; have HD1 := Lib.hid hd1; clear hb3 ho1 hd1; have tok3 : True := trivial)
    | (go_at_call 19; have tok := tok1; clear tok tok1; refine (check_any' q d m w1 (HS2.out.below HB1.out) (by omega)).mono ?_; rintro e w2 ⟨rfl, hb2⟩; rw [HR2.out]; simp only [if_true]; have HB2 := Lib.hid hb2; clear hb2; have tok2 : True := trivial)
    | (go_at_call 19; refine HC.out.mono ?_; rintro e w1 ⟨rfl, hb1⟩; rw [HR.out]; simp only [if_true]; have HB1 := Lib.hid hb1; clear hb1; have tok1 : True := trivial))
  obtain ⟨M, hM⟩ : ∃ M, M = m1.length := ⟨_, rfl⟩
  have hM2 : Hid (M = m.length) := Lib.hid (by rw [hM]; exact dat_len HD2.out)
  have hM3 : M ≤ 100 := by rw [hM2.out]; exact hm
  rw [← hM]
  have HM := Lib.hid hM
  clear hM
  go_loopw [6, 22] (fun v i wr => ∃ (j : Nat) (l' : List Atr), i = .int .i64 j ∧ j ≤ M ∧ MgI w (l.map Atr.dat) (m.map Atr.dat) (.slice pv2 m1.length pc2) m1 j v l' wr) (fun _ i _ => M - (intOf i).toNat)
  case atStart =>
    have hb4 : Below w.heap.size w w4 := below_own' (below_own' (below_own' HB1.out HB2.out) HB3.out) HB4.out
    have hb24 : w.heap.size ≤ w2.heap.size := (below_own' HB1.out HB2.out).size
    refine ⟨0, l1, rfl, Nat.zero_le _, (HO1.out.below HB4.out).mono hb24, HO2.out.mono (Nat.le_trans hb24 HB3.out.size), fun g hg => ?_, by rw [HD1.out]; rfl, hb4⟩
    have hg3 := (HO1.out.own.lt g hg).2
    refine ⟨fun e => ?_, fun b hb x hx e => ?_⟩
    · have := (HO2.out.own.lt g e).1; omega
    · have := HFR2.out b hb x hx; omega
  case round =>
    obtain ⟨j, l', rfl, hj, hi⟩ := hrel
    have HI := Lib.hid hi
    obtain ⟨pv, pc, rfl, -⟩ := own_form hi.out.own
    have hll := mergeD_len ((m.map Atr.dat).take j) (l.map Atr.dat)
    rw [← hi.dat] at hll
    have hll2 : l'.length ≤ 200 := by simp at hll; omega
    clear hi hll
    rcases Nat.lt_or_ge j M with hlt | hge
    · have hlt1 : j < m1.length := by rw [← HM.out]; exact hlt
      have hsl := HI.out.arg.sl
      obtain ⟨g, off, rfl, hzg, hrow⟩ := hsl.row hlt1
      obtain ⟨a0, ha0⟩ : ∃ a0, a0 = m1[j] := ⟨_, rfl⟩
      have hcj := hrow _ hlt1
      rw [← ha0] at hcj
      have hmem : a0 ∈ m1 := by rw [ha0]; exact List.getElem_mem _
      have HLI := Lib.hid (hsl.lies a0 hmem)
      have HFI := Lib.hid (hsl.fits a0 hmem)
      have HA0 := Lib.hid ha0
      have hri : Rises l' := (risesD_iff l').2 (by rw [HI.out.dat]; exact mergeD_rises _ _ ((risesD_iff l).1 (rises_of_right HR.out)))
      have hoff : ∀ x, (a0.ia = some x ∨ a0.ta = some x) → x.block < wr.heap.size ∧ (Value.slice pv l'.length pc).ownBlock ≠ some x.block := fun x hx => ⟨(HI.out.arg.off a0 hmem x hx).1, fun e => (HI.out.off _ e).2 a0 hmem x hx rfl⟩
      have HRI := Lib.hid hri
      have HOFF := Lib.hid hoff
      have hj0 : (0 : Int) ≤ (j : Int) := by omega
      have hjl : (j : Int) < (M : Int) := by omega
      clear ha0 hrow hsl hmem hri hoff
      obtain ⟨k0, k1, k2, k3, k4, k5⟩ := hcj
      have hb1 : Below wr.heap.size wr (wr.alloc (.cells (avCells a0.name a0.kind a0.num a0.text a0.ia a0.ints.length a0.ic a0.ta a0.texts.length a0.tc) 27)) := by (repeat (first | (with_reducible refine below_set ?_ (by first | exact Nat.le_refl _ | omega) _ _) | with_reducible exact Below.refl _ _ | with_reducible refine belowA ?_ _ | with_reducible refine belowD ?_ | with_reducible refine belowN ?_ _))
      have HPUT := Lib.hid (put_any (.slice pv l'.length pc) l' w.heap.size a0 _ (HI.out.out.below hb1) (by omega) HRI.out (HLI.out.below hb1) HFI.out (by have := HI.out.below.size; simp; omega) (fun x hx => ⟨Nat.lt_of_lt_of_le (HOFF.out x hx).1 hb1.size, (HOFF.out x hx).2⟩))
      have HI1 : Hid (MgI w (l.map Atr.dat) (m.map Atr.dat) (.slice (some ⟨g, off, none⟩) m1.length pc2) m1 j (.slice pv l'.length pc) l' (wr.alloc (.cells (avCells a0.name a0.kind a0.num a0.text a0.ia a0.ints.length a0.ic a0.ta a0.texts.length a0.tc) 27))) :=
        Lib.hid ⟨HI.out.out.below hb1, HI.out.arg.below hb1, HI.out.off, HI.out.dat, below_own' HI.out.below hb1⟩
      clear hb1
      go_wp2_with (go_at_call 40; refine HPUT.out.mono ?_; rintro e w5 ⟨v', l5, rfl, ho5, hd5, -, hp5⟩; have HI5 := Lib.hid (HI1.out.step HD2.out hlt1 HA0.out ho5 hd5 hp5); clear ho5 hd5 hp5)
      go_roundw
      case rel => exact ⟨j + 1, l5, by go_num, by omega, HI5.out⟩
      case measure => simp [intOf]; omega
    · obtain rfl : j = M := by omega
      have hdat : l'.map Atr.dat = mergeD (l.map Atr.dat) (m.map Atr.dat) := by
        rw [HI.out.dat, List.take_of_length_le (by rw [List.length_map, ← hM2.out]; omega)]
      have hlen : l'.length = (mergeD (l.map Atr.dat) (m.map Atr.dat)).length := by rw [← hdat, List.length_map]
      have HDAT := Lib.hid hdat
      have HLEN := Lib.hid hlen
      clear hdat hlen
      rcases Nat.lt_or_ge 100 l'.length with h100 | h100
      · have h1 : (100 : Int) < (l'.length : Int) := by omega
        go_wp2_with fail
        go_ret2
        refine ⟨HI.out.below, ?_⟩
        rw [HR.out, HR2.out, ← HLEN.out]
        simp only [Bool.and_self, if_true]
        rw [if_pos h100]
        rfl
      · have h1 : ¬ (100 : Int) < (l'.length : Int) := by omega
        go_wp2_with fail
        go_ret2
        refine ⟨HI.out.below, ?_⟩
        rw [HR.out, HR2.out, ← HLEN.out]
        simp only [Bool.and_self, if_true]
        rw [if_neg (by omega)]
        exact ⟨_, l', rfl, HI.out.out, HDAT.out⟩
theorem merge_any (p q : Option Addr) (c d : Nat) (l m : List Atr) (w : World) (hs : AtrSl w p l) (hs2 : AtrSl w q m) (hl : l.length ≤ 100000000000000) (hm : m.length ≤ 100000000000000) :
    Calls Tryz.prog 18 #[.slice p l.length c, .slice q m.length d] w (MgPost l m w) := by
  cases h : (rightL l && rightL m) with
  | false => exact merge_no p q c d l m w hs hs2 hl hm h
  | true =>
    rw [Bool.and_eq_true] at h
    exact merge_yes p q c d l m w hs hs2 h.1 h.2
end Go.Proofs.YtmepjbjmjbpchaaGreatDoor
end
section
/- attrs.Set, attrs.Get. -/
namespace Go.Proofs.YtmepjbjmjbpchaaGreatDoor
open Go Go.RowKit Go.Sort
set_option linter.unusedVariables false
set_option linter.unusedSimpArgs false

theorem atrSl_block {W : World} {G : Nat} {a : Atr} (h : W.heap[G]? = some (.cells (avCells a.name a.kind a.num a.text a.ia a.ints.length a.ic a.ta a.texts.length a.tc) 27 (0, 0))) (hl : a.Lies W) (hf : a.Fits) : AtrSl W (some ⟨G, 0, none⟩) [a] := by
  refine ⟨.inr ⟨G, 0, rfl, blkLt h, fun j hj i hi => ?_⟩, fun b hb => by rw [List.mem_singleton.1 hb]; exact hl, fun b hb => by rw [List.mem_singleton.1 hb]; exact hf⟩
  obtain rfl : j = 0 := by simpa using hj
  rw [blkCell h]
  have hi6 : i = 0 ∨ i = 1 ∨ i = 2 ∨ i = 3 ∨ i = 4 ∨ i = 5 := by omega
  rcases hi6 with rfl | rfl | rfl | rfl | rfl | rfl <;> rfl
theorem MgPost.back {l m : List Atr} {w W w' : World} {e : Ending} (h : MgPost l m W e w') (hb : Below w.heap.size w W) : MgPost l m w e w' := by
  refine ⟨below_own' hb h.1, ?_⟩
  have h2 := h.2
  split at h2
  · rw [if_pos (by assumption)]
    split at h2
    · rw [if_pos (by assumption)]; exact h2
    · rw [if_neg (by assumption)]
      obtain ⟨v, l', he, ho, hd⟩ := h2
      exact ⟨v, l', he, ho.mono hb.size, hd⟩
  · rw [if_neg (by assumption)]; exact h2
set_option maxRecDepth 100000 in
set_option maxHeartbeats 4000000 in
theorem set_any (p : Option Addr) (c : Nat) (l : List Atr) (a : Atr) (w : World) (hs : AtrSl w p l) (hl : l.length ≤ 100000000000000) (ha : a.Lies w) (hf : a.Fits) :
    Calls Tryz.prog 13 #[.slice p l.length c, a.val] w (MgPost l [a] w) := by
  have hb2 : Below w.heap.size w ((w.alloc (.cells (avCells a.name a.kind a.num a.text a.ia a.ints.length a.ic a.ta a.texts.length a.tc) 27)).alloc (.cells (avCells a.name a.kind a.num a.text a.ia a.ints.length a.ic a.ta a.texts.length a.tc) 27)) := by (repeat (first | (with_reducible refine below_set ?_ (by first | exact Nat.le_refl _ | omega) _ _) | with_reducible exact Below.refl _ _ | with_reducible refine belowA ?_ _ | with_reducible refine belowD ?_ | with_reducible refine belowN ?_ _))
  have HM := Lib.hid ((merge_any p (some ⟨w.heap.size + 1, 0, none⟩) c 1 l [a] _ (hs.below hb2) (atrSl_block (heap_alloc_new' _ _ (by simp)) (ha.below hb2) hf) hl (by simp)).mono fun e w' h => h.back hb2)
  clear hb2 hs ha
  go_enter Tryz.func13, Tryz.ntmps13
  have hfin : ∀ e w', MgPost l [a] w e w' → ∃ v n, e = .returned (.tuple #[v, .int .i64 n]) := by
    rintro e w' ⟨_, h⟩
    split at h
    · split at h
      · exact ⟨_, _, h⟩
      · obtain ⟨v, _, h, _⟩ := h; exact ⟨_, _, h⟩
    · exact ⟨_, _, h⟩
  have HFIN := Lib.hid hfin
  clear hfin
  go_wp2_with (go_at_call 18; refine HM.out.mono ?_; intro e w1 hp; obtain ⟨v, n, rfl⟩ := HFIN.out _ _ hp; have HP := Lib.hid hp; clear hp)
  go_ret2
  exact HP.out

def zAt : Value := .agg #[.string ⟨#[]⟩, .int .i64 0, .int .i64 0, .string ⟨#[]⟩, .slice none 0 0, .slice none 0 0]
def GetPost (l : List Atr) (s : ByteArray) (w : World) (e : Ending) (w' : World) : Prop :=
  Below w.heap.size w w' ∧ if rightL l then (if foundB l s then ∃ b : Atr, e = .returned (.tuple #[b.val, .int .i64 0]) ∧ b.Lies w' ∧ b.Fits ∧ (l.map Atr.dat)[lowerB l s]? = some b.dat else e = .returned (.tuple #[zAt, .int .i64 4])) else e = .returned (.tuple #[zAt, .int .i64 20])
set_option maxRecDepth 100000 in
set_option maxHeartbeats 4000000 in
theorem get_no (p : Option Addr) (c : Nat) (l : List Atr) (s : ByteArray) (w : World) (hs : AtrSl w p l) (hl : l.length ≤ 100000000000000) (h : rightL l = false ∨ (rightL l = true ∧ foundB l s = false)) :
    Calls Tryz.prog 34 #[.slice p l.length c, .string s] w (GetPost l s w) := by
  have hb0 : Below w.heap.size w (w.alloc (.cells #[.string ⟨#[]⟩, .int .i64 0, .int .i64 0, .string ⟨#[]⟩, .slice none 0 0, .slice none 0 0] 27)) := by (repeat (first | (with_reducible refine below_set ?_ (by first | exact Nat.le_refl _ | omega) _ _) | with_reducible exact Below.refl _ _ | with_reducible refine belowA ?_ _ | with_reducible refine belowD ?_ | with_reducible refine belowN ?_ _))
  have HC := Lib.hid (check_any' p c l _ (hs.below hb0) hl)
  have HS := Lib.hid hs
  clear hb0 hs
  rcases h with h | ⟨h, h2⟩
  · have HR := Lib.hid h
    have HP : Hid (∀ w', Below w.heap.size w w' → GetPost l s w (.returned (.tuple #[zAt, .int .i64 20])) w') := Lib.hid fun w' hb => ⟨hb, by rw [h]; rfl⟩
    clear h
    go_enter Tryz.func34, Tryz.ntmps34
    go_wp2_with (go_at_call 19; refine HC.out.mono ?_; rintro e w1 ⟨rfl, hb1⟩; rw [HR.out]; simp only [Bool.false_eq_true, if_false]; have c0 := rdCell hb1 w.heap.size (by simp); have f0 := rdFree hb1 w.heap.size (by simp); have hzw1 : w.heap.size < w1.heap.size := (by have := Below.size hb1; simp at this; omega))
    refine bodyPost_ret (v := .tuple #[zAt, .int .i64 20]) (by simp [results, Tryz.results34, go_sem, c0, hzw1, zAt]) rfl ?_
    refine HP.out _ ?_
    (repeat (first | (with_reducible refine below_set ?_ (by first | exact Nat.le_refl _ | omega) _ _) | with_reducible exact Below.refl _ _ | with_reducible refine belowA ?_ _ | with_reducible refine below_own' ?_ hb1 | with_reducible refine belowD ?_ | with_reducible refine belowN ?_ _))
  · have HR := Lib.hid h
    have HF := Lib.hid h2
    have HRI := Lib.hid (rises_of_right h)
    have HP : Hid (∀ w', Below w.heap.size w w' → GetPost l s w (.returned (.tuple #[zAt, .int .i64 4])) w') := Lib.hid fun w' hb => ⟨hb, by rw [h, h2]; rfl⟩
    clear h h2
    go_enter Tryz.func34, Tryz.ntmps34
    go_wp2_with (first
      | (go_at_call 63; refine Calls.mono (position_any p c l s _ (HS.out.below ?_) hl HRI.out) ?_; (focus ((repeat (first | (with_reducible refine below_set ?_ (by first | exact Nat.le_refl _ | omega) _ _) | with_reducible exact Below.refl _ _ | with_reducible refine belowA ?_ _ | with_reducible refine below_own' ?_ hb1 | with_reducible refine belowD ?_ | with_reducible refine belowN ?_ _)); done)); rintro e w2 ⟨rfl, hb2⟩; rw [HF.out]; have c2 := rdCell hb2 w.heap.size hzw1; have f2 := rdFree hb2 w.heap.size hzw1; have hzw2 : w.heap.size < w2.heap.size := Nat.lt_of_lt_of_le hzw1 hb2.size)
      | (go_at_call 19; refine HC.out.mono ?_; rintro e w1 ⟨rfl, hb1⟩; rw [HR.out]; simp only [if_true]; have c0 := rdCell hb1 w.heap.size (by simp); have f0 := rdFree hb1 w.heap.size (by simp); have hzw1 : w.heap.size < w1.heap.size := (by have := Below.size hb1; simp at this; omega)))
    refine bodyPost_ret (v := .tuple #[zAt, .int .i64 4]) (by simp [results, Tryz.results34, go_sem, c0, c2, hzw2, zAt]) rfl ?_
    refine HP.out _ ?_
    (repeat (first | (with_reducible refine below_set ?_ (by first | exact Nat.le_refl _ | omega) _ _) | with_reducible exact Below.refl _ _ | with_reducible refine belowA ?_ _ | with_reducible refine below_own' ?_ hb2 | with_reducible refine below_own' ?_ hb1 | with_reducible refine belowD ?_ | with_reducible refine belowN ?_ _))
theorem found_at {l : List Atr} {s : ByteArray} (h : foundB l s = true) : ∃ hlt : lowerB l s < l.length, (l[lowerB l s]'hlt).name = s := by
  unfold foundB at h
  cases hx : l[lowerB l s]? with
  | none => rw [hx] at h; cases h
  | some a =>
    rw [hx] at h
    obtain ⟨h1, rfl⟩ := List.getElem?_eq_some_iff.1 hx
    exact ⟨h1, by simpa using h⟩
theorem atrSl_sub {W : World} {g off : Nat} {l : List Atr} (h : AtrSl W (some ⟨g, off, none⟩) l) {i : Nat} (hi : i < l.length) : AtrSl W (some ⟨g, off + i * 6, none⟩) [l[i]] := by
  refine ⟨?_, fun b hb => h.lies b (by rw [List.mem_singleton.1 hb]; exact List.getElem_mem _), fun b hb => h.fits b (by rw [List.mem_singleton.1 hb]; exact List.getElem_mem _)⟩
  rcases h.at' with h | ⟨g', off', he, h2, h3⟩
  · subst h; simp at hi
  · cases he
    refine .inr ⟨g, off + i * 6, rfl, h2, fun j hj k hk => ?_⟩
    obtain rfl : j = 0 := by simpa using hj
    have := h3 i hi k hk
    simpa using this
theorem one_of {l : List Atr} {a : Atr} (h : l.map Atr.dat = [a].map Atr.dat) : ∃ b, l = [b] := by
  have : l.length = 1 := by simpa using congrArg List.length h
  exact List.length_eq_one_iff.1 this
theorem AtrOwn.one {w : World} {base : Nat} {v : Value} {b : Atr} (h : AtrOwn w base v [b]) : ∃ g c, v = .slice (some ⟨g, 0, none⟩) 1 c ∧ w.cell? ⟨g, 0, none⟩ = some (.string b.name) ∧ w.cell? ⟨g, 0 + 1, none⟩ = some (.int .i64 b.kind) ∧ w.cell? ⟨g, 0 + 2, none⟩ = some (.int .i64 b.num) ∧ w.cell? ⟨g, 0 + 3, none⟩ = some (.string b.text) ∧ w.cell? ⟨g, 0 + 4, none⟩ = some (.slice b.ia b.ints.length b.ic) ∧ w.cell? ⟨g, 0 + 5, none⟩ = some (.slice b.ta b.texts.length b.tc) := by
  obtain ⟨g, c, cur, rfl, -⟩ := h.form (by simp)
  obtain ⟨g', off, he, -, hrow⟩ := h.sl.row (j := 0) (by simp)
  cases he
  have := hrow 0 (by simp)
  exact ⟨g, c, rfl, this.c0, this.c1, this.c2, this.c3, this.c4, this.c5⟩
set_option maxRecDepth 100000 in
set_option maxHeartbeats 8000000 in
theorem get_yes (p : Option Addr) (c : Nat) (l : List Atr) (s : ByteArray) (w : World) (hs : AtrSl w p l) (hc : l.length ≤ c) (hr : rightL l = true) (hf : foundB l s = true) :
    Calls Tryz.prog 34 #[.slice p l.length c, .string s] w (GetPost l s w) := by
  have hl := right_len hr
  have hb0 : Below w.heap.size w (w.alloc (.cells #[.string ⟨#[]⟩, .int .i64 0, .int .i64 0, .string ⟨#[]⟩, .slice none 0 0, .slice none 0 0] 27)) := by (repeat (first | (with_reducible refine below_set ?_ (by first | exact Nat.le_refl _ | omega) _ _) | with_reducible exact Below.refl _ _ | with_reducible refine belowA ?_ _ | with_reducible refine belowD ?_ | with_reducible refine belowN ?_ _))
  have HC := Lib.hid (check_any' p c l _ (hs.below hb0) (by omega))
  have HS := Lib.hid hs
  have HR := Lib.hid hr
  have HF := Lib.hid hf
  have HRI := Lib.hid (rises_of_right hr)
  obtain ⟨hlt, hnm⟩ := found_at hf
  obtain ⟨g, off, rfl, hzg, hrow⟩ := hs.row hlt
  obtain ⟨k, hk⟩ : ∃ k, k = lowerB l s := ⟨_, rfl⟩
  have HK := Lib.hid hk
  rw [← hk] at hlt
  have hk0 : (0 : Int) ≤ (k : Int) := by omega
  have hk1 : (k : Int) < (l.length : Int) := by omega
  have hkc : (k : Int) < (c : Int) := by omega
  have hkc2 : (k : Int) + 1 ≤ (c : Int) := by omega
  have hkcn : ¬ c = k := by omega
  have hkt : ((k : Int) + 1).toNat = k + 1 := by omega
  clear hb0 hs hr hf hk hnm hrow
  go_enter Tryz.func34, Tryz.ntmps34
  go_wp2_with (first
    | (go_at_call 39; refine Calls.mono (attrs_any (some ⟨g, off + k * 6, none⟩) 1 [l[k]] _ (atrSl_sub (HS.out.below ?_) hlt) (by simp)) ?_; (focus ((repeat (first | (with_reducible refine below_set ?_ (by first | exact Nat.le_refl _ | omega) _ _) | with_reducible exact Below.refl _ _ | with_reducible refine belowA ?_ _ | with_reducible refine below_own' ?_ HB2.out | with_reducible refine below_own' ?_ HB1.out | with_reducible refine belowD ?_ | with_reducible refine belowN ?_ _)); done)); rintro e w3 ⟨v3, l3, rfl, ho3, hd3, hfr3, hb3⟩; obtain ⟨b, rfl⟩ := one_of hd3; obtain ⟨g3, c3, rfl, q0, q1, q2, q3, q4, q5⟩ := ho3.one; have c0 := fun j => (rdCell hb3 w.heap.size hzw2 j).trans ((rdCell HB2.out w.heap.size hzw1 j).trans (rdCell HB1.out w.heap.size (by simp) j)); have f0 := fun j => (rdFree hb3 w.heap.size hzw2 j).trans ((rdFree HB2.out w.heap.size hzw1 j).trans (rdFree HB1.out w.heap.size (by simp) j)); have hzw3 : w.heap.size < w3.heap.size := Nat.lt_of_lt_of_le hzw2 hb3.size; have HB3 := Lib.hid hb3; have HO3 := Lib.hid ho3; have HD3 := Lib.hid hd3; have HFR3 := Lib.hid hfr3; clear hb3 ho3 hd3 hfr3)
    | (go_at_call 63; refine Calls.mono (position_any _ c l s _ (HS.out.below ?_) (by omega) HRI.out) ?_; (focus ((repeat (first | (with_reducible refine below_set ?_ (by first | exact Nat.le_refl _ | omega) _ _) | with_reducible exact Below.refl _ _ | with_reducible refine belowA ?_ _ | with_reducible refine below_own' ?_ HB1.out | with_reducible refine belowD ?_ | with_reducible refine belowN ?_ _)); done)); rintro e w2 ⟨rfl, hb2⟩; rw [HF.out, ← HK.out]; have hzw2 : w.heap.size < w2.heap.size := Nat.lt_of_lt_of_le hzw1 hb2.size; have HB2 := Lib.hid hb2; clear hb2)
    | (go_at_call 19; refine HC.out.mono ?_; rintro e w1 ⟨rfl, hb1⟩; rw [HR.out]; simp only [if_true]; have hzw1 : w.heap.size < w1.heap.size := (by have := Below.size hb1; simp at this; omega); have HB1 := Lib.hid hb1; clear hb1))
  refine bodyPost_ret (v := .tuple #[b.val, .int .i64 0]) (by simp [results, Tryz.results34, go_sem, c0, hzw3]) rfl ?_
  have hbw : Below w.heap.size w w3 := by (repeat (first | (with_reducible refine below_set ?_ (by first | exact Nat.le_refl _ | omega) _ _) | with_reducible exact Below.refl _ _ | with_reducible refine belowA ?_ _ | with_reducible refine below_own' ?_ HB3.out | with_reducible refine below_own' ?_ HB2.out | with_reducible refine below_own' ?_ HB1.out | with_reducible refine belowD ?_ | with_reducible refine belowN ?_ _))
  have hgr := six_grown w3 w.heap.size 0 b
  have hbf : Below w.heap.size w (six w3 w.heap.size 0 b) := hbw.grown hgr hbw.size (fun t e => by cases e; exact Nat.le_refl _)
  refine ⟨hbf, ?_⟩
  rw [HR.out, HF.out]
  simp only [if_true]
  refine ⟨b, rfl, (HO3.out.lies b (by simp)).grown hgr (fun x hx e => ?_), HO3.out.fits b (by simp), ?_⟩
  · have h1 := HFR3.out b (by simp) x hx
    have h2 := Option.some.inj e
    omega
  · have h3 := HD3.out
    rw [← HK.out, List.getElem?_map, List.getElem?_eq_getElem hlt]
    simp at h3
    rw [h3]; rfl
theorem get_any (p : Option Addr) (c : Nat) (l : List Atr) (s : ByteArray) (w : World) (hs : AtrSl w p l) (hc : l.length ≤ c) (hl : l.length ≤ 100000000000000) :
    Calls Tryz.prog 34 #[.slice p l.length c, .string s] w (GetPost l s w) := by
  cases hr : rightL l with
  | false => exact get_no p c l s w hs hl (.inl hr)
  | true =>
    cases hf : foundB l s with
    | false => exact get_no p c l s w hs hl (.inr ⟨hr, hf⟩)
    | true => exact get_yes p c l s w hs hc hr hf
end Go.Proofs.YtmepjbjmjbpchaaGreatDoor
end
