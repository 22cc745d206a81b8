/- Texts of this claim, laid together: Ac3, Ac4. -/
import Derived.IntWalk
import Derived.Test.YtmepjbjmjbpchaaGreatDoorMg7
import Derived.Test.YtmepjbjmjbpchaaGreatDoorMg11
section
/- attrs.put: a new name. -/
namespace Go.Proofs.YtmepjbjmjbpchaaGreatDoor
open Go Go.RowKit Go.Sort
set_option linter.unusedVariables false
set_option linter.unusedSimpArgs false
attribute [local go_sem] Oper.semAt_some

def madeA (n : Nat) : Array Value := madeCells zAttr.cells (n * 6)
theorem madeA_size (n : Nat) : (madeA n).size = n * 6 := by unfold madeA madeCells; simp
theorem make_attrs (n : Nat) (hn : n ≤ 200000) (W : World) : (Instr.makeSlice 22 (.int .i64 ((n : Int) + 1)) (.int .i64 ((n : Int) + 1))).run Tryz.prog W = .ok (.slice (some ⟨W.heap.size, 0, none⟩) (n + 1) (n + 1)) (W.alloc (.cells (madeA (n + 1)) 27)) := by
  obtain ⟨i0, hin, hz0, hz1, hz2⟩ := info_parts (show (Tryz.prog.info? 27).map (fun i => (i.zero, i.size, i.bytes)) = some (some zAttr, 6, 96) by kernel_rfl)
  have := run_make W 22 27 i0 zAttr Tryz.underlying22 hin hz0 .i64 .i64 ((n : Int) + 1) ((n : Int) + 1) (by omega) (by omega) (by rw [hz2]; omega) (by omega)
  rw [this, hz1]
  have e : ((n : Int) + 1).toNat = n + 1 := by omega
  rw [e]; rfl

theorem attr_size : (Tryz.prog.info? 27).map (·.size) = some 6 := by kernel_rfl
theorem copy_eq (W : World) (G o dLen dCap g so sLen sCap m : Nat) (cur src : Array Value) (cs : List Value) (hG : W.heap[G]? = some (.cells cur 27 (0, 0))) (hg : W.heap[g]? = some (.cells src 27 (0, 0)))
    (hm : m = Nat.min sLen dLen) (hn : cs.length = m * 6) (hsrc : ∀ j, j < cs.length → src[so + j]? = cs[j]?) (hfit : o + cs.length ≤ cur.size) (h1 : ∀ v ∈ cs, v.oneCell' = true) :
    (Builtin.copy_ #[22, 22] 3 #[.slice (some ⟨G, o, none⟩) dLen dCap, .slice (some ⟨g, so, none⟩) sLen sCap]).run Tryz.prog W = .ok (goInt m) (W.setRow G (cur.toList.take o ++ cs ++ cur.toList.drop (o + cs.length)).toArray) := by
  subst hm
  refine run_copy_rowN W _ _ _ 27 G o dLen dCap ⟨g, so, none⟩ sLen sCap cur _ cs 6 Tryz.underlying22 attr_size hG hn ?_ hfit h1
  intro j v hj
  have hlt := (List.getElem?_eq_some_iff.1 hj).1
  have hadd : (⟨g, so, none⟩ : Addr).add j = ⟨g, so + j, none⟩ := by
    unfold Addr.add; split
    · rename_i h; subst h; rfl
    · rfl
  rw [hadd, blkCell hg, hsrc j hlt, hj]
theorem flat_one (l : List Atr) : ∀ v ∈ l.flatMap Atr.cells, v.oneCell' = true := by
  intro v hv
  obtain ⟨a, _, ha⟩ := List.mem_flatMap.1 hv
  simp only [Atr.cells, List.mem_cons, List.not_mem_nil, or_false] at ha
  rcases ha with rfl | rfl | rfl | rfl | rfl | rfl <;> rfl
theorem flat_take (l : List Atr) (k : Nat) (hk : k ≤ l.length) : (l.take k).flatMap Atr.cells = (l.flatMap Atr.cells).take (k * 6) := by
  have h : l.flatMap Atr.cells = (l.take k).flatMap Atr.cells ++ (l.drop k).flatMap Atr.cells := by rw [← List.flatMap_append, List.take_append_drop]
  have h2 : ((l.take k).flatMap Atr.cells).length = k * 6 := by rw [flat_len]; simp [Nat.min_eq_left hk]
  conv => rhs; rw [h]
  rw [← h2, List.take_left]
theorem flat_drop (l : List Atr) (k : Nat) (hk : k ≤ l.length) : (l.drop k).flatMap Atr.cells = (l.flatMap Atr.cells).drop (k * 6) := by
  have h : l.flatMap Atr.cells = (l.take k).flatMap Atr.cells ++ (l.drop k).flatMap Atr.cells := by rw [← List.flatMap_append, List.take_append_drop]
  have h2 : ((l.take k).flatMap Atr.cells).length = k * 6 := by rw [flat_len]; simp [Nat.min_eq_left hk]
  conv => rhs; rw [h]
  rw [← h2, List.drop_left]

theorem flat_src {l : List Atr} {cur : Array Value} (htk : cur.toList.take (l.length * 6) = l.flatMap Atr.cells) {j : Nat} (hj : j < l.length * 6) : cur[j]? = (l.flatMap Atr.cells)[j]? := by
  rw [← htk, List.getElem?_take, if_pos hj]; simp
def row1 (l : List Atr) (n k : Nat) : Array Value := ((madeA (n + 1)).toList.take 0 ++ (l.take k).flatMap Atr.cells ++ (madeA (n + 1)).toList.drop (0 + ((l.take k).flatMap Atr.cells).length)).toArray
theorem cp1 {l : List Atr} {n k g : Nat} {cur : Array Value} {w1 : World} (hn : n = l.length) (htk : cur.toList.take (l.length * 6) = l.flatMap Atr.cells) (hg1 : w1.heap[g]? = some (.cells cur 27 (0, 0))) (hk : k ≤ n) (c : Nat) :
    (Builtin.copy_ #[22, 22] 3 #[.slice (some ⟨w1.heap.size, 0, none⟩) (n + 1) (n + 1), .slice (some ⟨g, 0, none⟩) k c]).run Tryz.prog (w1.alloc (.cells (madeA (n + 1)) 27)) =
      .ok (goInt k) ((w1.alloc (.cells (madeA (n + 1)) 27)).setRow w1.heap.size (row1 l n k)) := by
  have hl : ((l.take k).flatMap Atr.cells).length = k * 6 := by rw [flat_len, List.length_take, ← hn, Nat.min_eq_left hk]
  refine copy_eq _ w1.heap.size 0 (n + 1) (n + 1) g 0 k c k (madeA (n + 1)) cur ((l.take k).flatMap Atr.cells) (heap_alloc_new _ _) (heap_alloc_old hg1 _) (by show k = min k (n + 1); omega) hl (fun j hj => ?_) (by rw [hl, madeA_size]; omega) (flat_one _)
  rw [hl] at hj
  rw [Nat.zero_add, flat_src htk (by omega), flat_take _ _ (by omega), List.getElem?_take, if_pos hj]

def row2 (l : List Atr) (k : Nat) (R1 : Array Value) : Array Value := (R1.toList.take ((k + 1) * 6) ++ (l.drop k).flatMap Atr.cells ++ R1.toList.drop ((k + 1) * 6 + ((l.drop k).flatMap Atr.cells).length)).toArray
theorem cp2 {l : List Atr} {n k g G c : Nat} {cur R1 : Array Value} {W : World} (hn : n = l.length) (htk : cur.toList.take (l.length * 6) = l.flatMap Atr.cells) (hg : W.heap[g]? = some (.cells cur 27 (0, 0))) (hG : W.heap[G]? = some (.cells R1 27 (0, 0))) (hs : R1.size = (n + 1) * 6) (hk : k < n) (c2 : Nat) :
    (Builtin.copy_ #[22, 22] 3 #[.slice (some ⟨G, (k + 1) * 6, none⟩) (n - k) c2, .slice (some ⟨g, k * 6, none⟩) (n - k) c]).run Tryz.prog W =
      .ok (goInt ((n - k : Nat) : Int)) (W.setRow G (row2 l k R1)) := by
  have hl : ((l.drop k).flatMap Atr.cells).length = (n - k) * 6 := by rw [flat_len, List.length_drop, ← hn]
  refine copy_eq W G ((k + 1) * 6) (n - k) c2 g (k * 6) (n - k) c (n - k) R1 cur ((l.drop k).flatMap Atr.cells) hG hg (by show n - k = min (n - k) (n - k); omega) hl (fun j hj => ?_) (by rw [hl, hs]; omega) (flat_one _)
  rw [hl] at hj
  rw [flat_src htk (by omega), flat_drop _ _ (by omega), List.getElem?_drop]

theorem row2_size {l : List Atr} {n k : Nat} {R1 : Array Value} (hn : n = l.length) (hs : R1.size = (n + 1) * 6) (hk : k ≤ n) : (row2 l k R1).size = (n + 1) * 6 := by
  unfold row2
  simp only [List.size_toArray, List.length_append, List.length_take, List.length_drop, Array.length_toList, flat_len, ← hn, hs]; omega
theorem row_final {l : List Atr} {n k : Nat} {R1 : Array Value} (a : Atr) (hn : n = l.length) (hs : R1.size = (n + 1) * 6) (hk : k ≤ n) (h1 : ∀ t, t < k * 6 → R1[t]? = ((l.take k).flatMap Atr.cells)[t]?) :
    (((((((row2 l k R1).toList.set (k * 6) (.string a.name)).set (k * 6 + 1) (.int .i64 a.kind)).set (k * 6 + 2) (.int .i64 a.num)).set (k * 6 + 3) (.string a.text)).set (k * 6 + 4) (.slice a.ia a.ints.length a.ic)).set (k * 6 + 5) (.slice a.ta a.texts.length a.tc)) = (l.take k ++ a :: l.drop k).flatMap Atr.cells := by
  have hz := row2_size hn hs hk
  have hlt : ((l.take k).flatMap Atr.cells).length = k * 6 := by rw [flat_len, List.length_take, ← hn, Nat.min_eq_left hk]
  have hld : ((l.drop k).flatMap Atr.cells).length = (n - k) * 6 := by rw [flat_len, List.length_drop, ← hn]
  apply List.ext_getElem?
  intro t
  rw [set6_at _ _ _ _ _ _ _ _ _ (by rw [Array.length_toList, hz]; omega), List.flatMap_append, List.flatMap_cons]
  by_cases hc : k * 6 ≤ t ∧ t < k * 6 + 6
  · rw [if_pos hc, List.getElem?_append_right (by omega), hlt, List.getElem?_append_left (by rw [cells_len]; omega)]
    rfl
  · rw [if_neg hc]
    have hlen : (R1.toList.take ((k + 1) * 6)).length = (k + 1) * 6 := by rw [List.length_take, Array.length_toList, hs]; omega
    have hrow : (row2 l k R1).toList = R1.toList.take ((k + 1) * 6) ++ ((l.drop k).flatMap Atr.cells ++ R1.toList.drop ((k + 1) * 6 + ((l.drop k).flatMap Atr.cells).length)) := by
      unfold row2; rw [List.append_assoc]
    rw [hrow]
    rcases Nat.lt_or_ge t (k * 6) with h | h
    · rw [List.getElem?_append_left (l₁ := R1.toList.take ((k + 1) * 6)) (by omega), List.getElem?_append_left (l₁ := (l.take k).flatMap Atr.cells) (by omega), List.getElem?_take, if_pos (by omega), Array.getElem?_toList, h1 t h]
    · rw [List.getElem?_append_right (l₁ := R1.toList.take ((k + 1) * 6)) (by omega), List.getElem?_append_right (l₁ := (l.take k).flatMap Atr.cells) (by omega), List.getElem?_append_right (l₁ := a.cells) (by rw [cells_len]; omega), hlen, hlt, cells_len]
      rcases Nat.lt_or_ge (t - (k + 1) * 6) ((n - k) * 6) with h2 | h2
      · rw [List.getElem?_append_left (by omega), show t - k * 6 - 6 = t - (k + 1) * 6 by omega]
      · rw [List.getElem?_append_right (by omega), List.getElem?_eq_none (by rw [List.length_drop, Array.length_toList, hs]; omega), List.getElem?_eq_none (by omega)]
theorem own_final {W : World} {base G m : Nat} {R : Array Value} {l : List Atr} (a : Atr) (k : Nat) (hG : W.heap[G]? = some (.cells R 27 (0, 0))) (hb : base ≤ G) (hm : m = l.length) (hmax : m ≤ 200000) (hs : R.size = m * 6)
    (hfin : ((((((R.toList.set (k * 6) (.string a.name)).set (k * 6 + 1) (.int .i64 a.kind)).set (k * 6 + 2) (.int .i64 a.num)).set (k * 6 + 3) (.string a.text)).set (k * 6 + 4) (.slice a.ia a.ints.length a.ic)).set (k * 6 + 5) (.slice a.ta a.texts.length a.tc)) = l.flatMap Atr.cells) :
    (six W G (k * 6) a).ownsRow base 27 6 (.slice (some ⟨G, 0, none⟩) m m) l.length (l.flatMap Atr.cells) := by
  have h0 := heap_setCell_same W G (k * 6) R 27 (.string a.name) hG
  have h1 := heap_setCell_same _ G (k * 6 + 1) _ 27 (.int .i64 a.kind) h0
  have h2 := heap_setCell_same _ G (k * 6 + 2) _ 27 (.int .i64 a.num) h1
  have h3 := heap_setCell_same _ G (k * 6 + 3) _ 27 (.string a.text) h2
  have h4 := heap_setCell_same _ G (k * 6 + 4) _ 27 (.slice a.ia a.ints.length a.ic) h3
  have h5 := heap_setCell_same _ G (k * 6 + 5) _ 27 (.slice a.ta a.texts.length a.tc) h4
  subst hm
  refine ⟨flat_len l, .inr ⟨G, l.length, _, rfl, hb, h5, Nat.le_refl _, by unfold maxLen; omega, by simpa using hs, ?_⟩⟩
  simp only [Array.toList_setIfInBounds]
  rw [hfin, List.take_of_length_le (by rw [flat_len]; omega)]

set_option maxRecDepth 100000 in
set_option maxHeartbeats 8000000 in
theorem put_mid (v : Value) (l : List Atr) (base : Nat) (a : Atr) (w : World) (ho : AtrOwn w base v l) (hl : l.length ≤ 100000) (hr : Rises l) (hf : foundB l a.name = false) (hlt : lowerB l a.name < l.length) (ha : a.Lies w) (haf : a.Fits)
    (hoff : ∀ x, (a.ia = some x ∨ a.ta = some x) → x.block < w.heap.size) :
    Calls Tryz.prog 40 #[v, a.val] w fun e w' => ∃ g, e = .returned (.slice (some ⟨g, 0, none⟩) (l.length + 1) (l.length + 1)) ∧ w.heap.size ≤ g ∧ AtrOwn w' w.heap.size (.slice (some ⟨g, 0, none⟩) (l.length + 1) (l.length + 1)) (l.take (lowerB l a.name) ++ a :: l.drop (lowerB l a.name)) ∧ Below w.heap.size w w' := by
  obtain ⟨g, c, cur, rfl, hbg, hgc, hcap, hcs, htk⟩ := ho.form (by omega)
  have hz := blkLt hgc
  have HOS := Lib.hid ho.sl
  have HO := Lib.hid ho
  have HR := Lib.hid hr
  have HF := Lib.hid hf
  have HOFF := Lib.hid hoff
  have HTK := Lib.hid htk
  have HA := Lib.hid ha
  have HGC := Lib.hid hgc
  obtain ⟨k, hk⟩ : ∃ k, k = lowerB l a.name := ⟨_, rfl⟩
  rw [← hk] at hlt ⊢
  have HK := Lib.hid hk
  obtain ⟨n, hn⟩ : ∃ n, n = l.length := ⟨_, rfl⟩
  rw [← hn] at hlt hl hcap
  have HN := Lib.hid hn
  rw [← hn]
  have hk0 : (0 : Int) ≤ (k : Int) := by omega
  have hkl : (k : Int) < (n : Int) := by omega
  have hkc : (k : Int) ≤ (c : Int) := by omega
  have hmk := make_attrs n (by omega)
  clear ho hr hf hoff htk ha hk hgc hn
  have HCS := Lib.hid hcs
  clear hcs
  have hpos : ∀ W, Below w.heap.size w W → Calls Tryz.prog 63 #[.slice (some ⟨g, 0, none⟩) n c, .string a.name, .func (.func 64) #[] #[]] W fun e w' => e = .returned (.tuple #[.int .i64 k, .bool false]) ∧ Below W.heap.size W w' := by
    intro W hb
    have := position_any _ c l a.name W (HOS.out.below hb) (by rw [← HN.out]; omega) HR.out
    rw [HF.out, ← HK.out, ← HN.out] at this
    exact this
  have HPOS := Lib.hid hpos
  clear hpos
  refine (callsIn_wide (n := 6)).1 ?_
  refine callsIn_of_wp Tryz.func40 rfl trivial ?_ rfl
  simp only [Tryz.ntmps40, List.size_toArray, List.length_cons, List.length_nil, Nat.reduceAdd, Nat.reduceSub, Array.replicate_succ, Array.replicate_zero, List.push_toArray, List.append_toArray, List.nil_append, List.cons_append]
  gi_wp2_with (refine ⟨trivial, ?_⟩; gi_at_call 63; refine CallsIn.mono (callsIn_wide.2 (HPOS.out _ ?_)) ?_; (focus ((repeat (first | (with_reducible refine below_set ?_ (by first | exact Nat.le_refl _ | omega) _ _) | with_reducible exact Below.refl _ _ | with_reducible refine belowA ?_ _ | with_reducible refine belowD ?_ | with_reducible refine belowN ?_ _)); done)); rintro e w1 ⟨rfl, hb1⟩; have c0 := rdCell hb1 w.heap.size (by simp); have f0 := rdFree hb1 w.heap.size (by simp); have hzw1 : w.heap.size < w1.heap.size := (by have := Below.size hb1; simp at this; omega); have hg1 := (hb1.block g (by simp; omega)).trans (heap_alloc_old HGC.out _); have hzg1 := blkLt hg1; have hcp1 := cp1 HN.out HTK.out hg1 (show k ≤ n by omega) c)
  have hR1s : (row1 l n k).size = (n + 1) * 6 := by
    unfold row1
    have := madeA_size (n + 1)
    simp only [List.size_toArray, List.length_append, List.length_take, List.length_drop, Array.length_toList, flat_len, ← HN.out, this]; omega
  have hR1k : ∀ t, t < k * 6 → (row1 l n k)[t]? = ((l.take k).flatMap Atr.cells)[t]? := by
    intro t ht
    unfold row1
    simp only [List.take_zero, List.nil_append, List.getElem?_toArray]
    rw [List.getElem?_append_left (by rw [flat_len, List.length_take, ← HN.out]; omega)]
  obtain ⟨R1, hR1⟩ : ∃ R, R = row1 l n k := ⟨_, rfl⟩
  refine wpIn_world (fun W => W.heap[w1.heap.size]? = some (.cells R1 27 (0, 0)) ∧ Below w1.heap.size w1 W) ⟨by rw [hR1]; exact setRow_heap _ _ _ _ _ _ (heap_alloc_new _ _), below_setRow ((Below.refl _ _).alloc (Nat.le_refl _) _) (Nat.le_refl _) _⟩ ?_
  rw [← hR1] at hR1s hR1k
  have HR1S := Lib.hid hR1s
  have HR1K := Lib.hid hR1k
  clear hR1s hR1k hR1 hcp1 hmk c0 f0
  rintro W2 ⟨hG2, hb2⟩
  have hg2 := (hb2.block g hzg1).trans hg1
  have HG2b := Lib.hid hg2
  have HG2 := Lib.hid hG2
  have HB2 := Lib.hid hb2
  clear hG2 hb2
  have hk1 : (0 : Int) ≤ (k : Int) + 1 := by omega
  have hk2 : (k : Int) + 1 < (n : Int) + 1 := by omega
  have hk3 : (k : Int) < (c : Int) := by omega
  have hkw : IntKind.i64.wrap ((k : Int) + 1) = (k : Int) + 1 := IntWalk.i64_in _ (by omega)
  have hkn : ((k : Int) + 1).toNat = k + 1 := by omega
  generalize hops : (#[_, _, _, _, _, _, _, _] : Array Oper) = ops
  refine wpIn_region_inv_tail 7 (fun i => match i with | 0 => .slice (some ⟨w1.heap.size, 0, none⟩) (n + 1) (n + 1) | 1 => .int .i64 (k : Int) | 2 => .int .i64 ((k : Int) + 1) | 3 => .slice (some ⟨w1.heap.size, (k + 1) * 6, none⟩) (n - k) (n - k) | 4 => .slice (some ⟨g, 0, none⟩) n c | 5 => .int .i64 (k : Int) | 6 => .slice (some ⟨g, k * 6, none⟩) (n - k) (c - k) | _ => undef)
    (fun _ Wy => Below W2.heap.size W2 Wy) (by kernel_rfl) (by rw [← hops]; kernel_rfl) (by rw [← hops]; kernel_rfl) (by rw [← hops]; kernel_rfl) (by rw [← hops]; decide) (by rw [← hops]; kernel_rfl) ((Below.refl _ _).drew) ?step ?tail
  case step =>
    intro i o listed a Wy ho hs hu hall ha hi hy hlt
    have old7 : a.eval (.tmp 7) = .slice (some ⟨w1.heap.size, 0, none⟩) (n + 1) (n + 1) := by rw [ha.eval_old (noDst_spec (by rw [← hops]; kernel_rfl))]; rfl
    have old5 : a.eval (.tmp 5) = .int .i64 (k : Int) := by rw [ha.eval_old (noDst_spec (by rw [← hops]; kernel_rfl))]; rfl
    have old0 : a.eval (.tmp 0) = .slice (some ⟨g, 0, none⟩) n c := by rw [ha.eval_old (noDst_spec (by rw [← hops]; kernel_rfl))]; rfl
    have hcase : i = 0 ∨ i = 1 ∨ i = 2 ∨ i = 3 ∨ i = 4 ∨ i = 5 ∨ i = 6 := by omega
    rcases hcase with rfl | rfl | rfl | rfl | rfl | rfl | rfl
    all_goals (have ho' := ho; rw [← hops] at ho'; simp only [List.getElem?_toArray, List.getElem?_cons_zero, List.getElem?_cons_succ, Option.some.injEq] at ho'; subst ho')
    · refine step_none rfl ?_
      refine opIn_value wideAt_plain (fun c h => by cases h) (v := .slice (some ⟨w1.heap.size, 0, none⟩) (n + 1) (n + 1)) (W' := Wy) ?_ ⟨rfl, hi⟩
      simp only [execOp, old7]
      simp only [Sem.run_pure]
    · refine step_none rfl ?_
      refine opIn_value wideAt_plain (fun c h => by cases h) (v := .int .i64 (k : Int)) (W' := Wy) ?_ ⟨rfl, hi⟩
      simp only [execOp, old5]
      simp only [Sem.run_pure]
    · refine step_none rfl ?_
      have h31 : a.eval (.tmp 31) = .int .i64 (k : Int) := ha.eval_got (j := 1) (by rw [← hops]; rfl) rfl (hall ⟨1, .data⟩ (by simp) rfl)
      refine opIn_value wideAt_plain (fun c h => by cases h) (v := .int .i64 ((k : Int) + 1)) (W' := Wy) ?_ ⟨rfl, hi⟩
      simp only [execOp, h31]
      simp [go_sem, hkw]
    · refine step_none rfl ?_
      have h30 : a.eval (.tmp 30) = .slice (some ⟨w1.heap.size, 0, none⟩) (n + 1) (n + 1) := ha.eval_got (j := 0) (by rw [← hops]; rfl) rfl (hall ⟨0, .data⟩ (by simp) rfl)
      have h32 : a.eval (.tmp 32) = .int .i64 ((k : Int) + 1) := ha.eval_got (j := 2) (by rw [← hops]; rfl) rfl (hall ⟨2, .data⟩ (by simp) rfl)
      have q_h30 := h30; simp only [Act.eval, Array.getD_eq_getD_getElem?] at q_h30
      have q_h32 := h32; simp only [Act.eval, Array.getD_eq_getD_getElem?] at q_h32
      refine opIn_value wideAt_plain (fun c h => by cases h) (v := .slice (some ⟨w1.heap.size, (k + 1) * 6, none⟩) (n - k) (n - k)) (W' := Wy) ?_ ⟨rfl, hi⟩
      simp only [execOp, h30, h32]
      simp [go_sem, q_h30, q_h32, hk1, hk2, hkn, show k ≤ n by omega, show ¬ n = k by omega]
    · refine step_none rfl ?_
      refine opIn_value wideAt_plain (fun c h => by cases h) (v := .slice (some ⟨g, 0, none⟩) n c) (W' := Wy) ?_ ⟨rfl, hi⟩
      simp only [execOp, old0]
      simp only [Sem.run_pure]
    · refine step_none rfl ?_
      refine opIn_value wideAt_plain (fun c h => by cases h) (v := .int .i64 (k : Int)) (W' := Wy) ?_ ⟨rfl, hi⟩
      simp only [execOp, old5]
      simp only [Sem.run_pure]
    · refine step_none rfl ?_
      have h34 : a.eval (.tmp 34) = .slice (some ⟨g, 0, none⟩) n c := ha.eval_got (j := 4) (by rw [← hops]; rfl) rfl (hall ⟨4, .data⟩ (by simp) rfl)
      have h35 : a.eval (.tmp 35) = .int .i64 (k : Int) := ha.eval_got (j := 5) (by rw [← hops]; rfl) rfl (hall ⟨5, .data⟩ (by simp) rfl)
      have q_h34 := h34; simp only [Act.eval, Array.getD_eq_getD_getElem?] at q_h34
      have q_h35 := h35; simp only [Act.eval, Array.getD_eq_getD_getElem?] at q_h35
      refine opIn_value wideAt_plain (fun c h => by cases h) (v := .slice (some ⟨g, k * 6, none⟩) (n - k) (c - k)) (W' := Wy) ?_ ⟨rfl, hi⟩
      simp only [execOp, h34, h35]
      simp [go_sem, q_h34, q_h35, hk0, hk3, show k ≤ n by omega, show ¬ c = k by omega]
  case tail =>
    intro Wz hz
    subst hops
    simp only [frameOf, Act.put, Option.bind_some, List.getElem?_toArray, List.getElem?_cons_zero, List.getElem?_cons_succ, List.setIfInBounds_toArray, List.set_cons_zero, List.set_cons_succ, List.drop_succ_cons, List.drop_zero]
    have hGz := (hz.block _ (blkLt HG2.out)).trans HG2.out
    have hgz := (hz.block _ (blkLt HG2b.out)).trans HG2b.out
    have hcp2 := cp2 (W := Wz) HN.out HTK.out hgz hGz HR1S.out (show k < n by omega) (n - k) (c := c - k)
    have hG3 := setRow_heap Wz w1.heap.size R1 (row2 l k R1) 27 (0, 0) hGz
    have hb3 : Below w1.heap.size w1 (Wz.setRow w1.heap.size (row2 l k R1)) := below_setRow (HB2.out.trans (hz.mono HB2.out.size)) (Nat.le_refl _) _
    have hc3 := fun j => (rdCell hb3 w.heap.size hzw1 j).trans (rdCell hb1 w.heap.size (by simp) j)
    have c4 := blkCell hG3
    have f4 := blkFree hG3
    have hrs := row2_size HN.out HR1S.out (show k ≤ n by omega)
    obtain ⟨y0, e0⟩ : ∃ y, (row2 l k R1)[k * 6]? = some y := ⟨_, Array.getElem?_eq_getElem (by omega)⟩
    obtain ⟨y1, e1⟩ : ∃ y, (row2 l k R1)[k * 6 + 1]? = some y := ⟨_, Array.getElem?_eq_getElem (by omega)⟩
    obtain ⟨y2, e2⟩ : ∃ y, (row2 l k R1)[k * 6 + 2]? = some y := ⟨_, Array.getElem?_eq_getElem (by omega)⟩
    obtain ⟨y3, e3⟩ : ∃ y, (row2 l k R1)[k * 6 + 3]? = some y := ⟨_, Array.getElem?_eq_getElem (by omega)⟩
    obtain ⟨y4, e4⟩ : ∃ y, (row2 l k R1)[k * 6 + 4]? = some y := ⟨_, Array.getElem?_eq_getElem (by omega)⟩
    obtain ⟨y5, e5⟩ : ∃ y, (row2 l k R1)[k * 6 + 5]? = some y := ⟨_, Array.getElem?_eq_getElem (by omega)⟩
    have HG3 := Lib.hid hG3
    have HB3 := Lib.hid hb3
    have HRS := Lib.hid hrs
    have HB1 := Lib.hid hb1
    clear hz hGz hgz hG3 hb3 hrs hg1 hb1
    gi_wp2_with fail
    go_ret
    have hbw : Below w.heap.size w (Wz.setRow w1.heap.size (row2 l k R1)) := by (repeat (first | (with_reducible refine below_set ?_ (by first | exact Nat.le_refl _ | omega) _ _) | with_reducible exact Below.refl _ _ | with_reducible refine belowA ?_ _ | with_reducible refine below_own' ?_ HB3.out | with_reducible refine below_own' ?_ HB1.out | with_reducible refine belowD ?_ | with_reducible refine belowN ?_ _))
    have hgr := six_grown (Wz.setRow w1.heap.size (row2 l k R1)) w1.heap.size (k * 6) a
    have hbf : Below w.heap.size w (six (Wz.setRow w1.heap.size (row2 l k R1)) w1.heap.size (k * 6) a) := hbw.grown hgr hbw.size (fun t e => by cases e; omega)
    have hmem : ∀ b ∈ l.take k ++ a :: l.drop k, b.Lies w ∧ b.Fits ∧ ∀ x, (b.ia = some x ∨ b.ta = some x) → x.block < w.heap.size := by
      intro b hb
      rcases List.mem_append.1 hb with hb | hb
      · have := List.mem_of_mem_take hb; exact ⟨HO.out.lies b this, HO.out.fits b this, fun x hx => (HO.out.off b this x hx).1⟩
      · rcases List.mem_cons.1 hb with rfl | hb
        · exact ⟨HA.out, haf, HOFF.out⟩
        · have := List.mem_of_mem_drop hb; exact ⟨HO.out.lies b this, HO.out.fits b this, fun x hx => (HO.out.off b this x hx).1⟩
    refine ⟨w1.heap.size, rfl, by omega, ⟨?_, fun b hb => (hmem b hb).1.below hbf, fun b hb => (hmem b hb).2.1, fun b hb x hx => ⟨Nat.lt_of_lt_of_le ((hmem b hb).2.2 x hx) hbf.size, fun e => by have := (hmem b hb).2.2 x hx; have e2 := Option.some.inj e; simp at e2; omega⟩, fun e => by simp at e⟩, hbf⟩
    exact own_final a k HG3.out (by omega) (by simp [← HN.out]; omega) (by omega) HRS.out (row_final a HN.out HR1S.out (by omega) HR1K.out)
end Go.Proofs.YtmepjbjmjbpchaaGreatDoor
end
section
/- attrs.put: a new name at the end. -/
namespace Go.Proofs.YtmepjbjmjbpchaaGreatDoor
open Go Go.RowKit Go.Sort
set_option linter.unusedVariables false
set_option linter.unusedSimpArgs false
attribute [local go_sem] Oper.semAt_some

theorem row2_end {l : List Atr} {k : Nat} {R1 : Array Value} (hn : k = l.length) (hs : R1.size = (k + 1) * 6) : row2 l k R1 = R1 := by
  unfold row2
  rw [List.drop_of_length_le (by omega)]
  apply Array.ext'
  simp [List.take_of_length_le, List.drop_of_length_le, hs]
set_option maxRecDepth 100000 in
set_option maxHeartbeats 8000000 in
theorem put_end (v : Value) (l : List Atr) (base : Nat) (a : Atr) (w : World) (ho : AtrOwn w base v l) (hl : l.length ≤ 100000) (hr : Rises l) (hf : foundB l a.name = false) (hle : lowerB l a.name = l.length) (hn0 : 0 < l.length) (ha : a.Lies w) (haf : a.Fits)
    (hoff : ∀ x, (a.ia = some x ∨ a.ta = some x) → x.block < w.heap.size) :
    Calls Tryz.prog 40 #[v, a.val] w fun e w' => ∃ g, e = .returned (.slice (some ⟨g, 0, none⟩) (l.length + 1) (l.length + 1)) ∧ w.heap.size ≤ g ∧ AtrOwn w' w.heap.size (.slice (some ⟨g, 0, none⟩) (l.length + 1) (l.length + 1)) (l.take (lowerB l a.name) ++ a :: l.drop (lowerB l a.name)) ∧ Below w.heap.size w w' := by
  obtain ⟨g, c, cur, rfl, hbg, hgc, hcap, hcs, htk⟩ := ho.form (by omega)
  have hz := blkLt hgc
  have HOS := Lib.hid ho.sl
  have HO := Lib.hid ho
  have HR := Lib.hid hr
  have HF := Lib.hid hf
  have HOFF := Lib.hid hoff
  have HTK := Lib.hid htk
  have HA := Lib.hid ha
  have HGC := Lib.hid hgc
  obtain ⟨k, hk⟩ : ∃ k, k = lowerB l a.name := ⟨_, rfl⟩
  rw [← hk] at hle ⊢
  have HK := Lib.hid hk
  obtain ⟨n, hn⟩ : ∃ n, n = l.length := ⟨_, rfl⟩
  rw [← hn] at hle hn0 hl hcap
  subst hle
  have HN := Lib.hid hn
  rw [← hn]
  have hk0 : (0 : Int) ≤ (k : Int) := by omega
  have hkc : (k : Int) ≤ (c : Int) := by omega
  have hmk := make_attrs k (by omega)
  clear ho hr hf hoff htk ha hk hgc hn
  have HCS := Lib.hid hcs
  clear hcs
  have hpos : ∀ W, Below w.heap.size w W → Calls Tryz.prog 63 #[.slice (some ⟨g, 0, none⟩) k c, .string a.name, .func (.func 64) #[] #[]] W fun e w' => e = .returned (.tuple #[.int .i64 k, .bool false]) ∧ Below W.heap.size W w' := by
    intro W hb
    have := position_any _ c l a.name W (HOS.out.below hb) (by rw [← HN.out]; omega) HR.out
    rw [HF.out, ← HK.out, ← HN.out] at this
    exact this
  have HPOS := Lib.hid hpos
  clear hpos
  refine (callsIn_wide (n := 6)).1 ?_
  refine callsIn_of_wp Tryz.func40 rfl trivial ?_ rfl
  simp only [Tryz.ntmps40, List.size_toArray, List.length_cons, List.length_nil, Nat.reduceAdd, Nat.reduceSub, Array.replicate_succ, Array.replicate_zero, List.push_toArray, List.append_toArray, List.nil_append, List.cons_append]
  gi_wp2_with (refine ⟨trivial, ?_⟩; gi_at_call 63; refine CallsIn.mono (callsIn_wide.2 (HPOS.out _ ?_)) ?_; (focus ((repeat (first | (with_reducible refine below_set ?_ (by first | exact Nat.le_refl _ | omega) _ _) | with_reducible exact Below.refl _ _ | with_reducible refine belowA ?_ _ | with_reducible refine belowD ?_ | with_reducible refine belowN ?_ _)); done)); rintro e w1 ⟨rfl, hb1⟩; have c0 := rdCell hb1 w.heap.size (by simp); have f0 := rdFree hb1 w.heap.size (by simp); have hzw1 : w.heap.size < w1.heap.size := (by have := Below.size hb1; simp at this; omega); have hg1 := (hb1.block g (by simp; omega)).trans (heap_alloc_old HGC.out _); have hzg1 := blkLt hg1; have hcp1 := cp1 HN.out HTK.out hg1 (Nat.le_refl k) c)
  have hR1s : (row1 l k k).size = (k + 1) * 6 := by
    unfold row1
    have := madeA_size (k + 1)
    simp only [List.size_toArray, List.length_append, List.length_take, List.length_drop, Array.length_toList, flat_len, ← HN.out, this]; omega
  have hR1k : ∀ t, t < k * 6 → (row1 l k k)[t]? = ((l.take k).flatMap Atr.cells)[t]? := by
    intro t ht
    unfold row1
    simp only [List.take_zero, List.nil_append, List.getElem?_toArray]
    rw [List.getElem?_append_left (by rw [flat_len, List.length_take, ← HN.out]; omega)]
  obtain ⟨R1, hR1⟩ : ∃ R, R = row1 l k k := ⟨_, rfl⟩
  refine wpIn_world (fun W => W.heap[w1.heap.size]? = some (.cells R1 27 (0, 0)) ∧ Below w1.heap.size w1 W) ⟨by rw [hR1]; exact setRow_heap _ _ _ _ _ _ (heap_alloc_new _ _), below_setRow ((Below.refl _ _).alloc (Nat.le_refl _) _) (Nat.le_refl _) _⟩ ?_
  rw [← hR1] at hR1s hR1k
  have HR1S := Lib.hid hR1s
  have HR1K := Lib.hid hR1k
  clear hR1s hR1k hR1 hcp1 hmk c0 f0
  rintro W2 ⟨hG2, hb2⟩
  have hg2 := (hb2.block g hzg1).trans hg1
  have HG2b := Lib.hid hg2
  have HG2 := Lib.hid hG2
  have HB2 := Lib.hid hb2
  clear hG2 hb2
  have hk1 : (0 : Int) ≤ (k : Int) + 1 := by omega
  have hk3 : (k : Int) ≤ (c : Int) := by omega
  have hkw : IntKind.i64.wrap ((k : Int) + 1) = (k : Int) + 1 := IntWalk.i64_in _ (by omega)
  have hkn : ((k : Int) + 1).toNat = k + 1 := by omega
  have hrs := HR1S.out
  have hr2 : Hid (row2 l k R1 = R1) := Lib.hid (row2_end HN.out HR1S.out)
  rcases Nat.eq_or_lt_of_le hcap with hck | hck
  · subst hck
    generalize hops : (#[_, _, _, _, _, _, _, _] : Array Oper) = ops
    refine wpIn_region_inv_tail 7 (fun i => match i with | 0 => .slice (some ⟨w1.heap.size, 0, none⟩) (k + 1) (k + 1) | 1 => .int .i64 (k : Int) | 2 => .int .i64 ((k : Int) + 1) | 3 => .slice (some ⟨w1.heap.size, 0, none⟩) 0 0 | 4 => .slice (some ⟨g, 0, none⟩) k k | 5 => .int .i64 (k : Int) | 6 => .slice (some ⟨g, 0, none⟩) 0 0 | _ => undef)
      (fun _ Wy => Below W2.heap.size W2 Wy) (by kernel_rfl) (by rw [← hops]; kernel_rfl) (by rw [← hops]; kernel_rfl) (by rw [← hops]; kernel_rfl) (by rw [← hops]; decide) (by rw [← hops]; kernel_rfl) ((Below.refl _ _).drew) ?step ?tail
    case step =>
      intro i o listed a Wy ho hs hu hall ha hi hy hlt
      have old7 : a.eval (.tmp 7) = .slice (some ⟨w1.heap.size, 0, none⟩) (k + 1) (k + 1) := by rw [ha.eval_old (noDst_spec (by rw [← hops]; kernel_rfl))]; rfl
      have old5 : a.eval (.tmp 5) = .int .i64 (k : Int) := by rw [ha.eval_old (noDst_spec (by rw [← hops]; kernel_rfl))]; rfl
      have old0 : a.eval (.tmp 0) = .slice (some ⟨g, 0, none⟩) k k := by rw [ha.eval_old (noDst_spec (by rw [← hops]; kernel_rfl))]; rfl
      have hcase : i = 0 ∨ i = 1 ∨ i = 2 ∨ i = 3 ∨ i = 4 ∨ i = 5 ∨ i = 6 := by omega
      rcases hcase with rfl | rfl | rfl | rfl | rfl | rfl | rfl
      all_goals (have ho' := ho; rw [← hops] at ho'; simp only [List.getElem?_toArray, List.getElem?_cons_zero, List.getElem?_cons_succ, Option.some.injEq] at ho'; subst ho')
      · refine step_none rfl ?_
        refine opIn_value wideAt_plain (fun c h => by cases h) (v := .slice (some ⟨w1.heap.size, 0, none⟩) (k + 1) (k + 1)) (W' := Wy) ?_ ⟨rfl, hi⟩
        simp only [execOp, old7]
        simp only [Sem.run_pure]
      · refine step_none rfl ?_
        refine opIn_value wideAt_plain (fun c h => by cases h) (v := .int .i64 (k : Int)) (W' := Wy) ?_ ⟨rfl, hi⟩
        simp only [execOp, old5]
        simp only [Sem.run_pure]
      · refine step_none rfl ?_
        have h31 : a.eval (.tmp 31) = .int .i64 (k : Int) := ha.eval_got (j := 1) (by rw [← hops]; rfl) rfl (hall ⟨1, .data⟩ (by simp) rfl)
        refine opIn_value wideAt_plain (fun c h => by cases h) (v := .int .i64 ((k : Int) + 1)) (W' := Wy) ?_ ⟨rfl, hi⟩
        simp only [execOp, h31]
        simp [go_sem, hkw]
      · refine step_none rfl ?_
        have h30 : a.eval (.tmp 30) = .slice (some ⟨w1.heap.size, 0, none⟩) (k + 1) (k + 1) := ha.eval_got (j := 0) (by rw [← hops]; rfl) rfl (hall ⟨0, .data⟩ (by simp) rfl)
        have h32 : a.eval (.tmp 32) = .int .i64 ((k : Int) + 1) := ha.eval_got (j := 2) (by rw [← hops]; rfl) rfl (hall ⟨2, .data⟩ (by simp) rfl)
        have q_h30 := h30; simp only [Act.eval, Array.getD_eq_getD_getElem?] at q_h30
        have q_h32 := h32; simp only [Act.eval, Array.getD_eq_getD_getElem?] at q_h32
        refine opIn_value wideAt_plain (fun c h => by cases h) (v := .slice (some ⟨w1.heap.size, 0, none⟩) 0 0) (W' := Wy) ?_ ⟨rfl, hi⟩
        simp only [execOp, h30, h32]
        simp [go_sem, q_h30, q_h32, hk1, hkn]
      · refine step_none rfl ?_
        refine opIn_value wideAt_plain (fun c h => by cases h) (v := .slice (some ⟨g, 0, none⟩) k k) (W' := Wy) ?_ ⟨rfl, hi⟩
        simp only [execOp, old0]
        simp only [Sem.run_pure]
      · refine step_none rfl ?_
        refine opIn_value wideAt_plain (fun c h => by cases h) (v := .int .i64 (k : Int)) (W' := Wy) ?_ ⟨rfl, hi⟩
        simp only [execOp, old5]
        simp only [Sem.run_pure]
      · refine step_none rfl ?_
        have h34 : a.eval (.tmp 34) = .slice (some ⟨g, 0, none⟩) k k := ha.eval_got (j := 4) (by rw [← hops]; rfl) rfl (hall ⟨4, .data⟩ (by simp) rfl)
        have h35 : a.eval (.tmp 35) = .int .i64 (k : Int) := ha.eval_got (j := 5) (by rw [← hops]; rfl) rfl (hall ⟨5, .data⟩ (by simp) rfl)
        have q_h34 := h34; simp only [Act.eval, Array.getD_eq_getD_getElem?] at q_h34
        have q_h35 := h35; simp only [Act.eval, Array.getD_eq_getD_getElem?] at q_h35
        refine opIn_value wideAt_plain (fun c h => by cases h) (v := .slice (some ⟨g, 0, none⟩) 0 0) (W' := Wy) ?_ ⟨rfl, hi⟩
        simp only [execOp, h34, h35]
        simp [go_sem, q_h34, q_h35, hk0, hk3, show k ≤ k by omega]
    case tail =>
      intro Wz hz
      subst hops
      simp only [frameOf, Act.put, Option.bind_some, List.getElem?_toArray, List.getElem?_cons_zero, List.getElem?_cons_succ, List.setIfInBounds_toArray, List.set_cons_zero, List.set_cons_succ, List.drop_succ_cons, List.drop_zero]
      have hGz := (hz.block _ (blkLt HG2.out)).trans HG2.out
      have hcp2 := run_copy_zero (P := Tryz.prog) Wz 22 22 3 27 (some ⟨w1.heap.size, 0, none⟩) (some ⟨g, 0, none⟩) 0 0 0 0 6 Tryz.underlying22 attr_size rfl
      have hb3 : Below w1.heap.size w1 Wz := HB2.out.trans (hz.mono HB2.out.size)
      have hc3 := fun j => (rdCell hb3 w.heap.size hzw1 j).trans (rdCell hb1 w.heap.size (by simp) j)
      have c4 := blkCell hGz
      have f4 := blkFree hGz
      obtain ⟨y0, e0⟩ : ∃ y, R1[k * 6]? = some y := ⟨_, Array.getElem?_eq_getElem (by omega)⟩
      obtain ⟨y1, e1⟩ : ∃ y, R1[k * 6 + 1]? = some y := ⟨_, Array.getElem?_eq_getElem (by omega)⟩
      obtain ⟨y2, e2⟩ : ∃ y, R1[k * 6 + 2]? = some y := ⟨_, Array.getElem?_eq_getElem (by omega)⟩
      obtain ⟨y3, e3⟩ : ∃ y, R1[k * 6 + 3]? = some y := ⟨_, Array.getElem?_eq_getElem (by omega)⟩
      obtain ⟨y4, e4⟩ : ∃ y, R1[k * 6 + 4]? = some y := ⟨_, Array.getElem?_eq_getElem (by omega)⟩
      obtain ⟨y5, e5⟩ : ∃ y, R1[k * 6 + 5]? = some y := ⟨_, Array.getElem?_eq_getElem (by omega)⟩
      have HG3 := Lib.hid hGz
      have HB3 := Lib.hid hb3
      have HB1 := Lib.hid hb1
      clear hz hGz hb3 hg1 hb1 hrs
      gi_wp2_with fail
      go_ret
      have hbw : Below w.heap.size w Wz := by (repeat (first | (with_reducible refine below_set ?_ (by first | exact Nat.le_refl _ | omega) _ _) | with_reducible exact Below.refl _ _ | with_reducible refine belowA ?_ _ | with_reducible refine below_own' ?_ HB3.out | with_reducible refine below_own' ?_ HB1.out | with_reducible refine belowD ?_ | with_reducible refine belowN ?_ _))
      have hgr := six_grown Wz w1.heap.size (k * 6) a
      have hbf : Below w.heap.size w (six Wz w1.heap.size (k * 6) a) := hbw.grown hgr hbw.size (fun t e => by cases e; omega)
      have hmem : ∀ b ∈ l.take k ++ a :: l.drop k, b.Lies w ∧ b.Fits ∧ ∀ x, (b.ia = some x ∨ b.ta = some x) → x.block < w.heap.size := by
        intro b hb
        rcases List.mem_append.1 hb with hb | hb
        · have := List.mem_of_mem_take hb; exact ⟨HO.out.lies b this, HO.out.fits b this, fun x hx => (HO.out.off b this x hx).1⟩
        · rcases List.mem_cons.1 hb with rfl | hb
          · exact ⟨HA.out, haf, HOFF.out⟩
          · have := List.mem_of_mem_drop hb; exact ⟨HO.out.lies b this, HO.out.fits b this, fun x hx => (HO.out.off b this x hx).1⟩
      refine ⟨w1.heap.size, rfl, by omega, ⟨?_, fun b hb => (hmem b hb).1.below hbf, fun b hb => (hmem b hb).2.1, fun b hb x hx => ⟨Nat.lt_of_lt_of_le ((hmem b hb).2.2 x hx) hbf.size, fun e => by have := (hmem b hb).2.2 x hx; have e2 := Option.some.inj e; simp at e2; omega⟩, fun e => by simp at e⟩, hbf⟩
      have hfin := row_final a HN.out HR1S.out (Nat.le_refl k) HR1K.out
      rw [hr2.out] at hfin
      exact own_final a k HG3.out (by omega) (by simp [← HN.out]) (by omega) HR1S.out hfin
  · have hckn : ¬ c = k := by omega
    generalize hops : (#[_, _, _, _, _, _, _, _] : Array Oper) = ops
    refine wpIn_region_inv_tail 7 (fun i => match i with | 0 => .slice (some ⟨w1.heap.size, 0, none⟩) (k + 1) (k + 1) | 1 => .int .i64 (k : Int) | 2 => .int .i64 ((k : Int) + 1) | 3 => .slice (some ⟨w1.heap.size, 0, none⟩) 0 0 | 4 => .slice (some ⟨g, 0, none⟩) k c | 5 => .int .i64 (k : Int) | 6 => .slice (some ⟨g, k * 6, none⟩) 0 (c - k) | _ => undef)
      (fun _ Wy => Below W2.heap.size W2 Wy) (by kernel_rfl) (by rw [← hops]; kernel_rfl) (by rw [← hops]; kernel_rfl) (by rw [← hops]; kernel_rfl) (by rw [← hops]; decide) (by rw [← hops]; kernel_rfl) ((Below.refl _ _).drew) ?step ?tail
    case step =>
      intro i o listed a Wy ho hs hu hall ha hi hy hlt
      have old7 : a.eval (.tmp 7) = .slice (some ⟨w1.heap.size, 0, none⟩) (k + 1) (k + 1) := by rw [ha.eval_old (noDst_spec (by rw [← hops]; kernel_rfl))]; rfl
      have old5 : a.eval (.tmp 5) = .int .i64 (k : Int) := by rw [ha.eval_old (noDst_spec (by rw [← hops]; kernel_rfl))]; rfl
      have old0 : a.eval (.tmp 0) = .slice (some ⟨g, 0, none⟩) k c := by rw [ha.eval_old (noDst_spec (by rw [← hops]; kernel_rfl))]; rfl
      have hcase : i = 0 ∨ i = 1 ∨ i = 2 ∨ i = 3 ∨ i = 4 ∨ i = 5 ∨ i = 6 := by omega
      rcases hcase with rfl | rfl | rfl | rfl | rfl | rfl | rfl
      all_goals (have ho' := ho; rw [← hops] at ho'; simp only [List.getElem?_toArray, List.getElem?_cons_zero, List.getElem?_cons_succ, Option.some.injEq] at ho'; subst ho')
      · refine step_none rfl ?_
        refine opIn_value wideAt_plain (fun c h => by cases h) (v := .slice (some ⟨w1.heap.size, 0, none⟩) (k + 1) (k + 1)) (W' := Wy) ?_ ⟨rfl, hi⟩
        simp only [execOp, old7]
        simp only [Sem.run_pure]
      · refine step_none rfl ?_
        refine opIn_value wideAt_plain (fun c h => by cases h) (v := .int .i64 (k : Int)) (W' := Wy) ?_ ⟨rfl, hi⟩
        simp only [execOp, old5]
        simp only [Sem.run_pure]
      · refine step_none rfl ?_
        have h31 : a.eval (.tmp 31) = .int .i64 (k : Int) := ha.eval_got (j := 1) (by rw [← hops]; rfl) rfl (hall ⟨1, .data⟩ (by simp) rfl)
        refine opIn_value wideAt_plain (fun c h => by cases h) (v := .int .i64 ((k : Int) + 1)) (W' := Wy) ?_ ⟨rfl, hi⟩
        simp only [execOp, h31]
        simp [go_sem, hkw]
      · refine step_none rfl ?_
        have h30 : a.eval (.tmp 30) = .slice (some ⟨w1.heap.size, 0, none⟩) (k + 1) (k + 1) := ha.eval_got (j := 0) (by rw [← hops]; rfl) rfl (hall ⟨0, .data⟩ (by simp) rfl)
        have h32 : a.eval (.tmp 32) = .int .i64 ((k : Int) + 1) := ha.eval_got (j := 2) (by rw [← hops]; rfl) rfl (hall ⟨2, .data⟩ (by simp) rfl)
        have q_h30 := h30; simp only [Act.eval, Array.getD_eq_getD_getElem?] at q_h30
        have q_h32 := h32; simp only [Act.eval, Array.getD_eq_getD_getElem?] at q_h32
        refine opIn_value wideAt_plain (fun c h => by cases h) (v := .slice (some ⟨w1.heap.size, 0, none⟩) 0 0) (W' := Wy) ?_ ⟨rfl, hi⟩
        simp only [execOp, h30, h32]
        simp [go_sem, q_h30, q_h32, hk1, hkn]
      · refine step_none rfl ?_
        refine opIn_value wideAt_plain (fun c h => by cases h) (v := .slice (some ⟨g, 0, none⟩) k c) (W' := Wy) ?_ ⟨rfl, hi⟩
        simp only [execOp, old0]
        simp only [Sem.run_pure]
      · refine step_none rfl ?_
        refine opIn_value wideAt_plain (fun c h => by cases h) (v := .int .i64 (k : Int)) (W' := Wy) ?_ ⟨rfl, hi⟩
        simp only [execOp, old5]
        simp only [Sem.run_pure]
      · refine step_none rfl ?_
        have h34 : a.eval (.tmp 34) = .slice (some ⟨g, 0, none⟩) k c := ha.eval_got (j := 4) (by rw [← hops]; rfl) rfl (hall ⟨4, .data⟩ (by simp) rfl)
        have h35 : a.eval (.tmp 35) = .int .i64 (k : Int) := ha.eval_got (j := 5) (by rw [← hops]; rfl) rfl (hall ⟨5, .data⟩ (by simp) rfl)
        have q_h34 := h34; simp only [Act.eval, Array.getD_eq_getD_getElem?] at q_h34
        have q_h35 := h35; simp only [Act.eval, Array.getD_eq_getD_getElem?] at q_h35
        refine opIn_value wideAt_plain (fun c h => by cases h) (v := .slice (some ⟨g, k * 6, none⟩) 0 (c - k)) (W' := Wy) ?_ ⟨rfl, hi⟩
        simp only [execOp, h34, h35]
        simp [go_sem, q_h34, q_h35, hk0, hk3, show k ≤ k by omega, hckn]
    case tail =>
      intro Wz hz
      subst hops
      simp only [frameOf, Act.put, Option.bind_some, List.getElem?_toArray, List.getElem?_cons_zero, List.getElem?_cons_succ, List.setIfInBounds_toArray, List.set_cons_zero, List.set_cons_succ, List.drop_succ_cons, List.drop_zero]
      have hGz := (hz.block _ (blkLt HG2.out)).trans HG2.out
      have hcp2 := run_copy_zero (P := Tryz.prog) Wz 22 22 3 27 (some ⟨w1.heap.size, 0, none⟩) (some ⟨g, k * 6, none⟩) 0 0 0 (c - k) 6 Tryz.underlying22 attr_size rfl
      have hb3 : Below w1.heap.size w1 Wz := HB2.out.trans (hz.mono HB2.out.size)
      have hc3 := fun j => (rdCell hb3 w.heap.size hzw1 j).trans (rdCell hb1 w.heap.size (by simp) j)
      have c4 := blkCell hGz
      have f4 := blkFree hGz
      obtain ⟨y0, e0⟩ : ∃ y, R1[k * 6]? = some y := ⟨_, Array.getElem?_eq_getElem (by omega)⟩
      obtain ⟨y1, e1⟩ : ∃ y, R1[k * 6 + 1]? = some y := ⟨_, Array.getElem?_eq_getElem (by omega)⟩
      obtain ⟨y2, e2⟩ : ∃ y, R1[k * 6 + 2]? = some y := ⟨_, Array.getElem?_eq_getElem (by omega)⟩
      obtain ⟨y3, e3⟩ : ∃ y, R1[k * 6 + 3]? = some y := ⟨_, Array.getElem?_eq_getElem (by omega)⟩
      obtain ⟨y4, e4⟩ : ∃ y, R1[k * 6 + 4]? = some y := ⟨_, Array.getElem?_eq_getElem (by omega)⟩
      obtain ⟨y5, e5⟩ : ∃ y, R1[k * 6 + 5]? = some y := ⟨_, Array.getElem?_eq_getElem (by omega)⟩
      have HG3 := Lib.hid hGz
      have HB3 := Lib.hid hb3
      have HB1 := Lib.hid hb1
      clear hz hGz hb3 hg1 hb1 hrs
      gi_wp2_with fail
      go_ret
      have hbw : Below w.heap.size w Wz := by (repeat (first | (with_reducible refine below_set ?_ (by first | exact Nat.le_refl _ | omega) _ _) | with_reducible exact Below.refl _ _ | with_reducible refine belowA ?_ _ | with_reducible refine below_own' ?_ HB3.out | with_reducible refine below_own' ?_ HB1.out | with_reducible refine belowD ?_ | with_reducible refine belowN ?_ _))
      have hgr := six_grown Wz w1.heap.size (k * 6) a
      have hbf : Below w.heap.size w (six Wz w1.heap.size (k * 6) a) := hbw.grown hgr hbw.size (fun t e => by cases e; omega)
      have hmem : ∀ b ∈ l.take k ++ a :: l.drop k, b.Lies w ∧ b.Fits ∧ ∀ x, (b.ia = some x ∨ b.ta = some x) → x.block < w.heap.size := by
        intro b hb
        rcases List.mem_append.1 hb with hb | hb
        · have := List.mem_of_mem_take hb; exact ⟨HO.out.lies b this, HO.out.fits b this, fun x hx => (HO.out.off b this x hx).1⟩
        · rcases List.mem_cons.1 hb with rfl | hb
          · exact ⟨HA.out, haf, HOFF.out⟩
          · have := List.mem_of_mem_drop hb; exact ⟨HO.out.lies b this, HO.out.fits b this, fun x hx => (HO.out.off b this x hx).1⟩
      refine ⟨w1.heap.size, rfl, by omega, ⟨?_, fun b hb => (hmem b hb).1.below hbf, fun b hb => (hmem b hb).2.1, fun b hb x hx => ⟨Nat.lt_of_lt_of_le ((hmem b hb).2.2 x hx) hbf.size, fun e => by have := (hmem b hb).2.2 x hx; have e2 := Option.some.inj e; simp at e2; omega⟩, fun e => by simp at e⟩, hbf⟩
      have hfin := row_final a HN.out HR1S.out (Nat.le_refl k) HR1K.out
      rw [hr2.out] at hfin
      exact own_final a k HG3.out (by omega) (by simp [← HN.out]) (by omega) HR1S.out hfin
end Go.Proofs.YtmepjbjmjbpchaaGreatDoor
end
