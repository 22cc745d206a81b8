/- What every statement asks of a program whatever the input is: it is so. -/
import Derived.Test.YthgiianmfehcaaaDoorAw0
import Derived.Deep.Cut
import Derived.Test.YthgiianmfehcaaaDoorRun
namespace Go.Proofs.YthgiianmfehcaaaDoor
open Go Go.RowKit Go.Sort
set_option linter.unusedVariables false
set_option linter.unusedSimpArgs false

/-- The library's variables that are read. -/
structure Glob (w : World) : Prop where
  pow : Pow w
  len : ∃ m : Int, w.cell? ⟨0, 0, none⟩ = some (.int .i64 m)
  pos : 0 < w.heap.size
theorem Glob.below {w w1 : World} (h : Glob w) (hb : Below w.heap.size w w1) : Glob w1 :=
  ⟨pow_below h.pow hb, by obtain ⟨m, hm⟩ := h.len; exact ⟨m, (rdCell hb 0 h.pos 0).trans hm⟩, Nat.lt_of_lt_of_le h.pos hb.size⟩

section
variable (w : World) (hg : Glob w)
theorem aw_kind : Calls Tryd.prog 30 #[.string ⟨#[97, 114, 114, 60, 48, 120, 105, 110, 100, 101, 120, 62]⟩] w fun e w' => e = .returned (.tuple #[.int .i64 3, .int .i64 0]) ∧ Below w.heap.size w w' :=
  (kindOf_any ⟨#[97, 114, 114, 60, 48, 120, 105, 110, 100, 101, 120, 62]⟩ w (by decide)).mono fun e w' ⟨he, hb⟩ => ⟨by rw [he, aw1]; rfl, hb⟩
theorem aw_cells : Calls Tryd.prog 33 #[.string ⟨#[109, 101, 109, 60, 52, 120, 51, 120, 105, 51, 50, 62]⟩] w fun e w' => e = .returned (.tuple #[.int .i64 12, .int .i64 0]) ∧ Below w.heap.size w w' :=
  (cells_any ⟨#[109, 101, 109, 60, 52, 120, 51, 120, 105, 51, 50, 62]⟩ w (by decide)).mono fun e w' ⟨he, hb⟩ => ⟨by rw [he, aw2]; kernel_rfl, hb⟩
theorem aw_wrap : Calls Tryd.prog 15 #[.string ⟨#[105, 56]⟩, .int .i64 200] w fun e w' => e = .returned (.tuple #[.int .i64 (-56), .int .i64 0]) ∧ Below w.heap.size w w' :=
  (wrap_any ⟨#[105, 56]⟩ w (by decide) 200 (by decide) (by decide)).mono fun e w' ⟨he, hb⟩ => ⟨by rw [he, aw3]; rfl, hb⟩
theorem aw_unsigned : Calls Tryd.prog 16 #[.string ⟨#[105, 56]⟩, .int .i64 (-56)] w fun e w' => e = .returned (.tuple #[.int .u64 200, .int .i64 0]) ∧ Below w.heap.size w w' :=
  (unsigned_any ⟨#[105, 56]⟩ w (by decide) (-56) (by decide) (by decide)).mono fun e w' ⟨he, hb⟩ => ⟨by rw [he, aw3]; rfl, hb⟩
theorem aw_range : Calls Tryd.prog 14 #[.string ⟨#[105, 49]⟩] w fun e w' => e = .returned (.tuple #[.int .i64 (-1), .int .i64 0, .int .i64 0]) ∧ Below w.heap.size w w' :=
  (range_any ⟨#[105, 49]⟩ w (by decide)).mono fun e w' ⟨he, hb⟩ => ⟨by rw [he, aw4]; rfl, hb⟩
theorem aw_turned (hg : Glob w) : Calls Tryd.prog 36 #[.string ⟨#[109, 101, 109, 60, 105, 56, 62]⟩] w fun e w' => e = .returned (.tuple #[.string ⟨#[97, 114, 114, 60, 105, 56, 62]⟩, .int .i64 0]) ∧ Below w.heap.size w w' :=
  (turned_any ⟨#[109, 101, 109, 60, 105, 56, 62]⟩ w (by decide) hg.pow).mono fun e w' ⟨he, hb⟩ => ⟨by rw [he, aw8]; exact congrArg (fun l : List UInt8 => Ending.returned (.tuple #[.string ⟨l.toArray⟩, .int .i64 0])) aw13, hb⟩
theorem aw_check {l : List UInt8} {r : Pd × Nat} (h : askAny l = r) (hl : l.length ≤ 100) : Calls Tryd.prog 29 #[.string ⟨l.toArray⟩] w fun e w' => e = .returned (.int .i64 r.2) ∧ Below w.heap.size w w' :=
  (check_any ⟨l.toArray⟩ w (by simp [ByteArray.size]; omega)).mono fun e w' ⟨he, hb⟩ => ⟨by rw [he, ← h], hb⟩
theorem aw_make (hg : Glob w) : Calls Tryd.prog 11 #[.int .i64 2, .slice (some ⟨w.heap.size, 0, none⟩) 2 2, .string ⟨#[105, 51, 50]⟩] (w.alloc (.cells #[.int .i64 4, .int .i64 3] 3)) fun e w' => e = .returned (.tuple #[.string ⟨#[109, 101, 109, 60, 52, 120, 51, 120, 105, 51, 50, 62]⟩, .int .i64 0]) ∧ Below w.heap.size w w' := by
  have hb := (Below.refl _ w).alloc (Nat.le_refl _) (.cells #[.int .i64 4, .int .i64 3] 3)
  refine (make_rest 2 (.inl rfl) (some ⟨w.heap.size, 0, none⟩) 2 [4, 3] ⟨#[105, 51, 50]⟩ _ (pow_below hg.pow hb) (.inr ⟨w.heap.size, 0, rfl, by simp, fun j hj => ?_⟩) (by decide)).mono fun e w' ⟨he, hb2⟩ => ⟨?_, below_next hb hb2⟩
  · rw [blkCell (heap_alloc_new w _)]
    match j, hj with
    | 0, _ => rfl
    | 1, _ => rfl
  · rw [he]
    exact congrArg (fun r : List UInt8 × Nat => Ending.returned (.tuple #[.string ⟨r.1.toArray⟩, .int .i64 r.2])) aw5
theorem aw_split (hg : Glob w) : Calls Tryd.prog 24 #[.string ⟨#[40, 105, 49, 44, 32, 105, 110, 100, 101, 120, 41]⟩] w fun e w' => ∃ g c, e = .returned (.tuple #[.slice (some ⟨g, 0, none⟩) 2 c, .int .i64 0]) ∧ g < w'.heap.size ∧ w'.cell? ⟨g, 0, none⟩ = some (.string ⟨#[105, 49]⟩) ∧ w'.cell? ⟨g, 1, none⟩ = some (.string ⟨#[105, 110, 100, 101, 120]⟩) ∧ Below w.heap.size w w' := by
  obtain ⟨m, hm⟩ := hg.len
  refine (splitT_some ⟨#[40, 105, 49, 44, 32, 105, 110, 100, 101, 120, 41]⟩ w (by decide) m hm hg.pos ⟨#[105, 49, 44, 32, 105, 110, 100, 101, 120]⟩ aw6 (by decide)).mono ?_
  rintro e w' ⟨hb, h⟩
  rw [aw6] at h
  dsimp only at h
  have hok : okPieces ⟨[105, 49, 44, 32, 105, 110, 100, 101, 120].toArray⟩ = true := by
    rw [okPieces, aw7]
    have h1 : badTy ⟨#[105, 49]⟩ = false := by rw [badTy]; exact decide_eq_false (by rw [show (ByteArray.mk #[105, 49]).data.toList = [105, 49] from rfl, aw14]; simp)
    have h2 : badTy ⟨#[105, 110, 100, 101, 120]⟩ = false := by rw [badTy]; exact decide_eq_false (by rw [show (ByteArray.mk #[105, 110, 100, 101, 120]).data.toList = [105, 110, 100, 101, 120] from rfl, aw15]; simp)
    simp [h1, h2]
  rw [if_neg (by simp), if_pos hok] at h
  obtain ⟨g, c, he, hs⟩ := h
  rw [aw7] at he hs
  rcases hs with h | ⟨g', off, h1, h2, h3⟩
  · cases h
  · cases h1
    exact ⟨g, c, he, h2, h3 0 (by decide), h3 1 (by decide), hb⟩
set_option maxRecDepth 100000 in
set_option maxHeartbeats 8000000 in
theorem awake_any (hg : Glob w) : Calls Tryd.prog 13 #[] w fun e w' => e = .returned (.bool true) ∧ Below w.heap.size w w' := by
  have HG := Lib.hid hg
  clear hg
  go_enter Tryd.func13, Tryd.ntmps13
  go_upto_region 9 with (first
    | (go_at_call 30; refine (aw_kind _).mono ?_; rintro e w1 ⟨rfl, hb1⟩)
    | (go_at_call 33; refine (aw_cells _).mono ?_; rintro e w2 ⟨rfl, hb2⟩)
    | (go_at_call 15; refine (aw_wrap _).mono ?_; rintro e w3 ⟨rfl, hb3⟩)
    | (go_at_call 16; refine (aw_unsigned _).mono ?_; rintro e w4 ⟨rfl, hb4⟩)
    | (go_at_call 14; refine (aw_range _).mono ?_; rintro e w5 ⟨rfl, hb5⟩; have hq5 := Lib.hid (below_next (below_next (below_next (below_next hb1 hb2) hb3) hb4) hb5); clear hb1 hb2 hb3 hb4 hb5)
    | (go_at_call 11; refine (aw_make _ (HG.out.below hq5.out)).mono ?_; rintro e w6 ⟨rfl, hb6⟩; have hq6 := Lib.hid (below_next hq5.out hb6); clear hb6)
    | (go_at_call 24; refine (aw_split _ (HG.out.below hq6.out)).mono ?_; rintro e w7 ⟨g, c, rfl, hgl, hc0, hc1, hb7⟩; have hq7 := Lib.hid (below_next hq6.out hb7); clear hb7)
    | (go_at_call 36; refine (aw_turned _ (HG.out.below hq7.out)).mono ?_; rintro e w8 ⟨rfl, hb8⟩; have hd0 := (rdCell hb8 g hgl 0).trans hc0; have hd1 := (rdCell hb8 g hgl 1).trans hc1; have hq8 := Lib.hid (below_next hq7.out hb8); clear hb8 hc0 hc1 hgl)
    | (go_at_call 29; refine (aw_check _ aw9 (by decide)).mono ?_; rintro e w9 ⟨rfl, hb9⟩)
    | (go_at_call 29; refine (aw_check _ aw10 (by decide)).mono ?_; rintro e w10 ⟨rfl, hb10⟩)
    | (go_at_call 29; refine (aw_check _ aw11 (by decide)).mono ?_; rintro e w11 ⟨rfl, hb11⟩)
    | (go_at_call 29; refine (aw_check _ aw12 (by decide)).mono ?_; rintro e w12 ⟨rfl, hb12⟩))
  rename_i Q K hK
  generalize hops : (List.toArray (List.append _ _) : Array Oper) = ops
  refine wp_region_from (n := 96) (by rw [← hops]; kernel_rfl) ?_
  refine wpOps_seg 58 0 38 (by rw [← hops]; kernel_rfl) (by rw [← hops]; kernel_rfl) ?_
  generalize hA1 : (Option.getD (runTo Tryd.prog ops 0 58 _ _) _).1 = A1
  rw [show 0 + 58 = 58 from rfl]
  obtain ⟨o1, ho1⟩ : ∃ o, ops[58]? = some o := by rw [← hops]; exact ⟨_, rfl⟩
  have hopo1 : o1.op = Op.load 9 (.tmp 109) ∧ o1.dst = some 110 ∧ Region.wanted o1 (yielded ops A1.tmps) = true := by
    rw [← hops] at ho1
    cases ho1
    rw [← hA1, ← hops]
    exact ⟨rfl, rfl, by kernel_rfl⟩
  refine wpOps_one (m := 37) ho1 hopo1.2.2 ?_
  have hso1 : A1.eval (.tmp 109) = .pointer (some ⟨g, 0, none⟩) := by rw [← hA1, ← hops]; kernel_rfl
  have hvo1 : (execOp A1.eval o1).run Tryd.prog w8 = .ok (.value (.string ⟨#[105, 49]⟩)) w8 := by
    simp only [execOp, hopo1.1, hso1]; simp [go_sem, hd0]
  rw [Oper.wp, hvo1, Oper.upon_value, hopo1.2.1]
  refine wpOps_seg 5 59 32 (by rw [← hA1, ← hops]; kernel_rfl) (by rw [← hA1, ← hops]; kernel_rfl) ?_
  generalize hA2 : (Option.getD (runTo Tryd.prog ops 59 5 _ _) _).1 = A2
  rw [show 59 + 5 = 64 from rfl]
  obtain ⟨o2, ho2⟩ : ∃ o, ops[64]? = some o := by rw [← hops]; exact ⟨_, rfl⟩
  have hopo2 : o2.op = Op.load 9 (.tmp 115) ∧ o2.dst = some 116 ∧ Region.wanted o2 (yielded ops A2.tmps) = true := by
    rw [← hops] at ho2
    cases ho2
    rw [← hA2, ← hA1, ← hops]
    exact ⟨rfl, rfl, by kernel_rfl⟩
  refine wpOps_one (m := 31) ho2 hopo2.2.2 ?_
  have hso2 : A2.eval (.tmp 115) = .pointer (some ⟨g, 1, none⟩) := by rw [← hA2, ← hA1, ← hops]; kernel_rfl
  have hvo2 : (execOp A2.eval o2).run Tryd.prog w8 = .ok (.value (.string ⟨#[105, 110, 100, 101, 120]⟩)) w8 := by
    simp only [execOp, hopo2.1, hso2]; simp [go_sem, hd1]
  rw [Oper.wp, hvo2, Oper.upon_value, hopo2.2.1]
  refine wpOps_seg 15 65 16 (by rw [← hA2, ← hA1, ← hops]; kernel_rfl) (by rw [← hA2, ← hA1, ← hops]; kernel_rfl) ?_
  generalize hA3 : (Option.getD (runTo Tryd.prog ops 65 15 _ _) _).1 = A3
  rw [show 65 + 15 = 80 from rfl]
  obtain ⟨c0, hc0⟩ : ∃ o, ops[80]? = some o := by rw [← hops]; exact ⟨_, rfl⟩
  have hopc0 : c0.op = Op.call { callee := .value (.func 29), args := #[.const (.string ⟨#[33, 99, 97, 108, 99, 46, 110, 117, 109]⟩)], argTypes := #[9] } ∧ c0.dst = some 132 ∧ Region.wanted c0 (yielded ops A3.tmps) = true := by
    rw [← hops] at hc0
    cases hc0
    rw [← hA3, ← hA2, ← hA1, ← hops]
    exact ⟨rfl, rfl, by kernel_rfl⟩
  refine wpOps_one (m := 15) hc0 hopc0.2.2 ?_
  have hvc0 : (execOp A3.eval c0).run Tryd.prog w8 = .ok (.enter 29 #[.string ⟨#[33, 99, 97, 108, 99, 46, 110, 117, 109]⟩]) w8 := by
    simp only [execOp, hopc0.1]; simp [go_sem, callFunc_enters Tryd.func29 (by kernel_rfl) rfl]
  rw [Oper.wp, hvc0, Oper.upon_enter, hopc0.2.1]
  refine (aw_check w8 aw9 (by decide)).mono ?_
  rintro e w9 ⟨rfl, hb9⟩
  dsimp only
  refine wpOps_seg 3 81 12 (by rw [← hA3, ← hA2, ← hA1, ← hops]; kernel_rfl) (by rw [← hA3, ← hA2, ← hA1, ← hops]; kernel_rfl) ?_
  generalize hA4 : (Option.getD (runTo Tryd.prog ops 81 3 _ _) _).1 = A4
  rw [show 81 + 3 = 84 from rfl]
  obtain ⟨c1, hc1⟩ : ∃ o, ops[84]? = some o := by rw [← hops]; exact ⟨_, rfl⟩
  have hopc1 : c1.op = Op.call { callee := .value (.func 29), args := #[.const (.string ⟨#[105, 48, 49]⟩)], argTypes := #[9] } ∧ c1.dst = some 136 ∧ Region.wanted c1 (yielded ops A4.tmps) = true := by
    rw [← hops] at hc1
    cases hc1
    rw [← hA4, ← hA3, ← hA2, ← hA1, ← hops]
    exact ⟨rfl, rfl, by kernel_rfl⟩
  refine wpOps_one (m := 11) hc1 hopc1.2.2 ?_
  have hvc1 : (execOp A4.eval c1).run Tryd.prog w9 = .ok (.enter 29 #[.string ⟨#[105, 48, 49]⟩]) w9 := by
    simp only [execOp, hopc1.1]; simp [go_sem, callFunc_enters Tryd.func29 (by kernel_rfl) rfl]
  rw [Oper.wp, hvc1, Oper.upon_enter, hopc1.2.1]
  refine (aw_check w9 aw10 (by decide)).mono ?_
  rintro e w10 ⟨rfl, hb10⟩
  dsimp only
  refine wpOps_seg 3 85 8 (by rw [← hA4, ← hA3, ← hA2, ← hA1, ← hops]; kernel_rfl) (by rw [← hA4, ← hA3, ← hA2, ← hA1, ← hops]; kernel_rfl) ?_
  generalize hA5 : (Option.getD (runTo Tryd.prog ops 85 3 _ _) _).1 = A5
  rw [show 85 + 3 = 88 from rfl]
  obtain ⟨c2, hc2⟩ : ∃ o, ops[88]? = some o := by rw [← hops]; exact ⟨_, rfl⟩
  have hopc2 : c2.op = Op.call { callee := .value (.func 29), args := #[.const (.string ⟨#[109, 101, 109, 60, 49, 48, 48, 120, 49, 48, 48, 120, 105, 56, 62]⟩)], argTypes := #[9] } ∧ c2.dst = some 140 ∧ Region.wanted c2 (yielded ops A5.tmps) = true := by
    rw [← hops] at hc2
    cases hc2
    rw [← hA5, ← hA4, ← hA3, ← hA2, ← hA1, ← hops]
    exact ⟨rfl, rfl, by kernel_rfl⟩
  refine wpOps_one (m := 7) hc2 hopc2.2.2 ?_
  have hvc2 : (execOp A5.eval c2).run Tryd.prog w10 = .ok (.enter 29 #[.string ⟨#[109, 101, 109, 60, 49, 48, 48, 120, 49, 48, 48, 120, 105, 56, 62]⟩]) w10 := by
    simp only [execOp, hopc2.1]; simp [go_sem, callFunc_enters Tryd.func29 (by kernel_rfl) rfl]
  rw [Oper.wp, hvc2, Oper.upon_enter, hopc2.2.1]
  refine (aw_check w10 aw11 (by decide)).mono ?_
  rintro e w11 ⟨rfl, hb11⟩
  dsimp only
  refine wpOps_seg 3 89 4 (by rw [← hA5, ← hA4, ← hA3, ← hA2, ← hA1, ← hops]; kernel_rfl) (by rw [← hA5, ← hA4, ← hA3, ← hA2, ← hA1, ← hops]; kernel_rfl) ?_
  generalize hA6 : (Option.getD (runTo Tryd.prog ops 89 3 _ _) _).1 = A6
  rw [show 89 + 3 = 92 from rfl]
  obtain ⟨c3, hc3⟩ : ∃ o, ops[92]? = some o := by rw [← hops]; exact ⟨_, rfl⟩
  have hopc3 : c3.op = Op.call { callee := .value (.func 29), args := #[.const (.string ⟨#[97, 114, 114, 60, 105, 56, 32, 62]⟩)], argTypes := #[9] } ∧ c3.dst = some 144 ∧ Region.wanted c3 (yielded ops A6.tmps) = true := by
    rw [← hops] at hc3
    cases hc3
    rw [← hA6, ← hA5, ← hA4, ← hA3, ← hA2, ← hA1, ← hops]
    exact ⟨rfl, rfl, by kernel_rfl⟩
  refine wpOps_one (m := 3) hc3 hopc3.2.2 ?_
  have hvc3 : (execOp A6.eval c3).run Tryd.prog w11 = .ok (.enter 29 #[.string ⟨#[97, 114, 114, 60, 105, 56, 32, 62]⟩]) w11 := by
    simp only [execOp, hopc3.1]; simp [go_sem, callFunc_enters Tryd.func29 (by kernel_rfl) rfl]
  rw [Oper.wp, hvc3, Oper.upon_enter, hopc3.2.1]
  refine (aw_check w11 aw12 (by decide)).mono ?_
  rintro e w12 ⟨rfl, hb12⟩
  dsimp only
  refine wpOps_seg 3 93 0 (by rw [← hA6, ← hA5, ← hA4, ← hA3, ← hA2, ← hA1, ← hops]; kernel_rfl) (by rw [← hA6, ← hA5, ← hA4, ← hA3, ← hA2, ← hA1, ← hops]; kernel_rfl) ?_
  generalize hA7 : (Option.getD (runTo Tryd.prog ops 93 3 _ _) _).1 = A7
  rw [show 93 + 3 = 96 from rfl]
  show K A7 w12
  refine hK _ _ (wp_ret ?_)
  refine bodyPost_ret (v := .bool true) (by rw [← hA7, ← hA6, ← hA5, ← hA4, ← hA3, ← hA2, ← hA1, ← hops]; kernel_rfl) (by rw [← hA7, ← hA6, ← hA5, ← hA4, ← hA3, ← hA2, ← hA1, ← hops]; kernel_rfl) ?_
  exact ⟨rfl, below_next (below_next (below_next (below_next hq8.out hb9) hb10) hb11) hb12⟩
end
end Go.Proofs.YthgiianmfehcaaaDoor
