/- Texts of this claim, laid together: At2, At3, Rf0, Rf1, Rf4, TyA, Rf5, Rf6, Rf7, Rf8, Rf9, Ar0, Ar1, InvT. -/
import Derived.Deep.RegionHeld3
import Derived.Deep.DrawnRows
import Derived.Laws.EntriesVeiled
import Derived.Test.YtmepjbjmjbpchaaGreatDoorMg1
import Derived.Test.YtmepjbjmjbpchaaGreatDoorMg3
import Derived.Test.YtmepjbjmjbpchaaGreatDoorMg4
section
/- attrs.isRight. -/
namespace Go.Proofs.YtmepjbjmjbpchaaGreatDoor
open Go Go.RowKit
set_option linter.unusedVariables false
set_option linter.unusedSimpArgs false
attribute [local go_sem ↓] Go.wp_at_zero Go.wp_at_succ

theorem run_lookup_miss {P : Program} {t kt et : TypeId} {d : TypeDesc} {w : World} {r clock : Nat} {es : Array MapEntry} {key z : Value} (ht : P.underlying t = some (.map kt et)) (hk : P.underlying kt = some d)
    (hck : ∀ b, (Instr.checkKey b 10000 kt key).run P w = .ok () w) (hf : Instr.findNow d key es.toList 0 = some none) (hr : w.heap[r]? = some (.map es clock)) (hz : (zeroValue et).run P w = .ok z w) (ok : Bool) :
    (Instr.lookup t (.map (some r)) key ok).run P w = .ok (if ok then .tuple #[z, .bool false] else z) w := by
  simp [Instr.lookup, run_underlying ht, run_getObj_map hr, hck, run_findKey_now hk hf, hz]
abbrev zKind : Value := .agg #[.nilFunc, .nilFunc, .nilFunc]
def kindRow (k : Int) : Option (Nat × Nat × Nat) := if 0 ≤ k then kindE[k.toNat]? else none
theorem find_no (k : Int) (h : kindRow k = none) : Instr.findNow (.int .i64) (.int .i64 k) ((kindE.take 6).mapIdx fun i x => (⟨.int .i64 (i : Nat), kv x.1 x.2.1 x.2.2, i⟩ : MapEntry)) 0 = some none := by
  have h6 : ¬ (k = 0 ∨ k = 1 ∨ k = 2 ∨ k = 3 ∨ k = 4 ∨ k = 5) := by
    rintro (rfl | rfl | rfl | rfl | rfl | rfl) <;> simp [kindRow, kindE] at h
  simp only [not_or] at h6
  obtain ⟨h0, h1, h2, h3, h4, h5⟩ := h6
  have e0 : (k == 0) = false := by simpa using h0
  have e1 : (k == 1) = false := by simpa using h1
  have e2 : (k == 2) = false := by simpa using h2
  have e3 : (k == 3) = false := by simpa using h3
  have e4 : (k == 4) = false := by simpa using h4
  have e5 : (k == 5) = false := by simpa using h5
  simp [Instr.findNow, Instr.sameNow, kindE, e0, e1, e2, e3, e4, e5]
theorem look_yes {w : World} {m : Nat} (hm : w.heap[m]? = some (kindO 6)) {k : Int} {x : Nat × Nat × Nat} (h : kindRow k = some x) (ok : Bool) :
    (Instr.lookup 118 (.map (some m)) (.int .i64 k) ok).run Tryz.prog w = .ok (if ok then .tuple #[kv x.1 x.2.1 x.2.2, .bool true] else kv x.1 x.2.1 x.2.2) w := by
  unfold kindRow at h
  split at h
  case isFalse => cases h
  rename_i h0
  obtain ⟨j, rfl⟩ := Int.eq_ofNat_of_zero_le h0
  have hj6 : j < 6 := by simpa [kindE] using (List.getElem?_eq_some_iff.1 h).1
  have : j = 0 ∨ j = 1 ∨ j = 2 ∨ j = 3 ∨ j = 4 ∨ j = 5 := by omega
  rcases this with rfl | rfl | rfl | rfl | rfl | rfl
  all_goals
    simp only [kindE, Int.toNat_natCast, List.getElem?_cons_succ, List.getElem?_cons_zero, Option.some.injEq] at h
    subst h
    exact run_lookup_hit Tryz.underlying118 Tryz.underlying23 (fun b => run_checkKey_int Tryz.underlying23 _ _ _) rfl hm ok
theorem look_no {w : World} {m : Nat} (hm : w.heap[m]? = some (kindO 6)) {k : Int} (h : kindRow k = none) (ok : Bool) :
    (Instr.lookup 118 (.map (some m)) (.int .i64 k) ok).run Tryz.prog w = .ok (if ok then .tuple #[zKind, .bool false] else zKind) w := by
  refine run_lookup_miss Tryz.underlying118 Tryz.underlying23 (fun b => run_checkKey_int Tryz.underlying23 _ _ _) ?_ hm (by kernel_rfl) ok
  exact find_no k h

theorem kinds_m (w : World) : Calls Tryz.prog 75 #[] w fun e w' => ∃ m, e = .returned (.map (some m)) ∧ w'.heap[m]? = some (kindO 6) ∧ Below w.heap.size w w' :=
  (kinds_any w).mono fun e w' ⟨he, hw⟩ => ⟨_, he, by rw [← hw]; exact heap_alloc_new _ _, by rw [← hw]; exact (Below.refl _ _).alloc (Nat.le_refl _) _⟩
theorem belowD {B : Nat} {a w : World} (h : Below B a w) : Below B a w.drew := ⟨h.os, h.tape, h.output, h.size, h.block⟩
theorem heap_alloc_old {w : World} {m : Nat} {x : Obj} (h : w.heap[m]? = some x) (o : Obj) : (w.alloc o).heap[m]? = some x := by
  have := blkLt h
  rw [Below.heap_alloc _ _ _ this]; exact h
section
variable (nm : ByteArray) (k n : Int) (tx : ByteArray) (ia : Option Addr) (il ic : Nat) (ta : Option Addr) (tl tc : Nat) (w : World)
set_option maxRecDepth 100000 in
set_option maxHeartbeats 2000000 in
theorem isRight_no (h : kindRow k = none) : Calls Tryz.prog 44 #[av nm k n tx ia il ic ta tl tc] w fun e w' => e = .returned (.bool false) ∧ Below w.heap.size w w' := by
  have hl := fun (W : World) (m : Nat) (hm : W.heap[m]? = some (kindO 6)) => look_no hm h true
  have HL := Lib.hid hl
  clear hl h
  go_enter Tryz.func44, Tryz.ntmps44
  go_wp2_with fail
  go_region_held3 (fun w' => w'.cell? ⟨w.heap.size, 1, none⟩ = some (.int .i64 k)) (go_keep)
    ((go_at_call 75; refine (kinds_m _).mono ?_; rintro e w1 ⟨m, rfl, hm, hb1⟩; have hl1 := HL.out w1 m hm; have hl2 := fun o => HL.out (w1.alloc o) m (heap_alloc_old hm o); have c0 := rdCell hb1 w.heap.size (by first | (simp; done) | (simp; omega)); have f0 := rdFree hb1 w.heap.size (by first | (simp; done) | (simp; omega)); first | (have c1 := rdCell hb1 (w.heap.size + 1) (by simp; done); have f1 := rdFree hb1 (w.heap.size + 1) (by simp; done); have hz1 : w.heap.size + 1 < w1.heap.size := (by have := hb1.size; simp at this; omega)) | (have hz1 : w.heap.size < w1.heap.size := (by have := hb1.size; simp at this; omega))))
  all_goals go_wp2_with fail
  all_goals go_ret
  all_goals refine ⟨rfl, ?_⟩
  all_goals ((repeat (first | (with_reducible refine below_set ?_ (by first | exact Nat.le_refl _ | omega) _ _) | with_reducible exact Below.refl _ _ | with_reducible refine belowA ?_ _ | with_reducible refine below_own' ?_ hb1 | with_reducible refine belowD ?_ | with_reducible refine belowN ?_ _)))
set_option maxRecDepth 100000 in
set_option maxHeartbeats 4000000 in
theorem isRight_row (f g t : Nat) (pr pa : Bool) (h : kindRow k = some (f, g, t)) (hinf : ∀ args w, (callFunc f args).run Tryz.prog w = .ok (.enter f args) w) (hing : ∀ args w, (callFunc g args).run Tryz.prog w = .ok (.enter g args) w)
    (hf : ∀ W, Below w.heap.size w W → Calls Tryz.prog f #[av nm k n tx ia il ic ta tl tc] W fun e w' => e = .returned (.bool pr) ∧ Below W.heap.size W w')
    (hg : ∀ W, Below w.heap.size w W → Calls Tryz.prog g #[av nm k n tx ia il ic ta tl tc] W fun e w' => e = .returned (.bool pa) ∧ Below W.heap.size W w') :
    Calls Tryz.prog 44 #[av nm k n tx ia il ic ta tl tc] w fun e w' => e = .returned (.bool (nameOf nm.data.toList && (pr && pa))) ∧ Below w.heap.size w w' := by
  have hl := fun (W : World) (m : Nat) (hm : W.heap[m]? = some (kindO 6)) => look_yes hm h true
  have HL := Lib.hid hl
  have HF := Lib.hid hf
  have HG := Lib.hid hg
  clear hl h hf hg
  obtain ⟨bn, hbn⟩ : ∃ bn, bn = nameOf nm.data.toList := ⟨_, rfl⟩
  rw [← hbn]
  have HBN := Lib.hid hbn
  clear hbn
  go_enter Tryz.func44, Tryz.ntmps44
  go_wp2_with fail
  go_region_held3 (fun w' => w'.cell? ⟨w.heap.size, 1, none⟩ = some (.int .i64 k)) (go_keep)
    ((go_at_call 75; refine (kinds_m _).mono ?_; rintro e w1 ⟨m, rfl, hm, hb1⟩; have hl1 := HL.out w1 m hm; have hl2 := fun o => HL.out (w1.alloc o) m (heap_alloc_old hm o); have c0 := rdCell hb1 w.heap.size (by first | (simp; done) | (simp; omega)); have f0 := rdFree hb1 w.heap.size (by first | (simp; done) | (simp; omega)); first | (have c1 := rdCell hb1 (w.heap.size + 1) (by simp; done); have f1 := rdFree hb1 (w.heap.size + 1) (by simp; done); have hz1 : w.heap.size + 1 < w1.heap.size := (by have := hb1.size; simp at this; omega)) | (have hz1 : w.heap.size < w1.heap.size := (by have := hb1.size; simp at this; omega))))
  all_goals cases bn
  all_goals try cases pr
  all_goals
    go_wp2_with (first
      | (go_at_call 42; refine (isName_any _ _).mono ?_; rintro e w9 ⟨rfl, rfl⟩; rw [← HBN.out])
      | ((with_reducible refine Calls.mono (HF.out _ ?_) ?_); (focus ((repeat (first | (with_reducible refine below_set ?_ (by first | exact Nat.le_refl _ | omega) _ _) | with_reducible exact Below.refl _ _ | with_reducible refine belowA ?_ _ | with_reducible refine below_own' ?_ hb1 | with_reducible refine belowD ?_ | with_reducible refine belowN ?_ _)); done)); rintro e w2 ⟨rfl, hb2⟩; have c2 := rdCell hb2 w.heap.size (by first | (simp; done) | (simp; omega)); have f2 := rdFree hb2 w.heap.size (by first | (simp; done) | (simp; omega)); first | (have c3 := rdCell hb2 w1.heap.size (by simp; done); have f3 := rdFree hb2 w1.heap.size (by simp; done); have hz2 : w1.heap.size < w2.heap.size := (by have := Below.size hb2; simp at this; omega)) | (have c3 := rdCell hb2 (w.heap.size + 1) (by first | (simp; done) | (simp; omega)); have f3 := rdFree hb2 (w.heap.size + 1) (by first | (simp; done) | (simp; omega)); have hz2 : w.heap.size + 1 < w2.heap.size := (by have := Below.size hb2; simp at this; omega)))
      | ((with_reducible refine Calls.mono (HG.out _ ?_) ?_); (focus ((repeat (first | (with_reducible refine below_set ?_ (by first | exact Nat.le_refl _ | omega) _ _) | with_reducible exact Below.refl _ _ | with_reducible refine belowA ?_ _ | with_reducible refine below_own' ?_ hb2 | with_reducible refine below_own' ?_ hb1 | with_reducible refine belowD ?_ | with_reducible refine belowN ?_ _)); done)); rintro e w3 ⟨rfl, hb3⟩))
  all_goals go_ret
  all_goals refine ⟨rfl, ?_⟩
  all_goals first
    | ((repeat (first | (with_reducible refine below_set ?_ (by first | exact Nat.le_refl _ | omega) _ _) | with_reducible exact Below.refl _ _ | with_reducible refine belowA ?_ _ | with_reducible refine below_own' ?_ hb1 | with_reducible refine belowD ?_ | with_reducible refine belowN ?_ _)); done)
    | ((repeat (first | (with_reducible refine below_set ?_ (by first | exact Nat.le_refl _ | omega) _ _) | with_reducible exact Below.refl _ _ | with_reducible refine belowA ?_ _ | with_reducible refine below_own' ?_ hb2 | with_reducible refine below_own' ?_ hb1 | with_reducible refine belowD ?_ | with_reducible refine belowN ?_ _)); done)
    | ((repeat (first | (with_reducible refine below_set ?_ (by first | exact Nat.le_refl _ | omega) _ _) | with_reducible exact Below.refl _ _ | with_reducible refine belowA ?_ _ | with_reducible refine below_own' ?_ hb3 | with_reducible refine below_own' ?_ hb2 | with_reducible refine below_own' ?_ hb1 | with_reducible refine belowD ?_ | with_reducible refine belowN ?_ _)); done)
end
end Go.Proofs.YtmepjbjmjbpchaaGreatDoor
end
section
/- attrs.isRight at an attribute. -/
namespace Go.Proofs.YtmepjbjmjbpchaaGreatDoor
open Go Go.RowKit
set_option linter.unusedVariables false
set_option linter.unusedSimpArgs false

theorem badTy_eq (s : ByteArray) : badTy s = !isTyB s := by
  unfold badTy isTyB askAny askOf
  cases readOf s.data.toList <;> rfl
theorem join_ok (ls : List ByteArray) : (((joinOf ls).2 : Int) == 0) = (decide (ls.length ≤ 100) && ls.all isTyB) := by
  have hall : ls.all isTyB = !ls.any badTy := by
    rw [List.not_any_eq_all_not]
    congr 1; funext s; simp [badTy_eq]
  unfold joinOf
  rw [hall]
  cases ls.any badTy
  · by_cases h : 100 < ls.length
    · simp [h]
    · simp [h]; omega
  · simp
theorem kindRow_no {k : Int} (h : ¬ (0 ≤ k ∧ k ≤ 5)) : kindRow k = none := by
  unfold kindRow
  split
  · rw [List.getElem?_eq_none]
    simp [kindE]; omega
  · rfl
theorem isRight_any (a : Atr) (w : World) (hl : a.Lies w) (hf : a.Fits) : Calls Tryz.prog 44 #[a.val] w fun e w' => e = .returned (.bool (rightA a)) ∧ Below w.heap.size w w' := by
  by_cases hk : 0 ≤ a.kind ∧ a.kind ≤ 5
  · have h6 : a.kind = 0 ∨ a.kind = 1 ∨ a.kind = 2 ∨ a.kind = 3 ∨ a.kind = 4 ∨ a.kind = 5 := by omega
    have hx : a.text.size ≤ 140737488355328 := by have := hf.text; omega
    have hq : ∀ s ∈ a.texts, s.size ≤ 140737488355328 := fun s hs => by have := hf.texts s hs; omega
    have hn : a.texts.length ≤ 9223372036854775807 := by have := hf.tl; omega
    have hi : (((a.ints.length : Nat) : Int) == 0) = (a.ints.length == 0) := by rw [Bool.eq_iff_iff]; simp
    have ht : (((a.texts.length : Nat) : Int) == 0) = (a.texts.length == 0) := by rw [Bool.eq_iff_iff]; simp
    have h100 : decide (((a.ints.length : Nat) : Int) ≤ 100) = decide (a.ints.length ≤ 100) := by rw [decide_eq_decide]; omega
    have go : ∀ (f g t : Nat) (pr pa : Bool), kindRow a.kind = some (f, g, t) → (∀ args w, (callFunc f args).run Tryz.prog w = .ok (.enter f args) w) → (∀ args w, (callFunc g args).run Tryz.prog w = .ok (.enter g args) w) →
        (∀ W, Below w.heap.size w W → Calls Tryz.prog f #[a.val] W fun e w' => e = .returned (.bool pr) ∧ Below W.heap.size W w') → (∀ W, Below w.heap.size w W → Calls Tryz.prog g #[a.val] W fun e w' => e = .returned (.bool pa) ∧ Below W.heap.size W w') →
        pr = ownB a → pa = aloneB a → Calls Tryz.prog 44 #[a.val] w fun e w' => e = .returned (.bool (rightA a)) ∧ Below w.heap.size w w' := by
      intro f g t pr pa h1 h2 h3 h4 h5 h6 h7
      have := isRight_row a.name a.kind a.num a.text a.ia a.ints.length a.ic a.ta a.texts.length a.tc w f g t pr pa h1 h2 h3 h4 h5
      have e : (nameOf a.name.data.toList && (pr && pa)) = rightA a := by
        unfold rightA
        rw [h6, h7]
        simp [hk, Bool.and_assoc]
      rwa [e] at this
    rcases h6 with h | h | h | h | h | h
    · refine go _ _ _ _ _ (by rw [h]; rfl) (fun args w => callFunc_enters Tryz.func100 (by kernel_rfl) rfl args w) (fun args w => callFunc_enters Tryz.func101 (by kernel_rfl) rfl args w)
        (fun W _ => always_any _ _ _ _ _ _ _ _ _ _ W) (fun W _ => noText_any _ _ _ _ _ _ _ _ _ _ W) ?_ ?_
      · simp [ownB, h]
      · simp [aloneB, h]
    · refine go _ _ _ _ _ (by rw [h]; rfl) (fun args w => callFunc_enters Tryz.func103 (by kernel_rfl) rfl args w) (fun args w => callFunc_enters Tryz.func104 (by kernel_rfl) rfl args w)
        (fun W _ => isText_any _ _ _ _ _ _ _ _ _ _ W) (fun W _ => noNumber_any _ _ _ _ _ _ _ _ _ _ W) ?_ ?_
      · simp [ownB, h]
      · simp [aloneB, h]
    · refine go _ _ _ _ _ (by rw [h]; rfl) (fun args w => callFunc_enters Tryz.func106 (by kernel_rfl) rfl args w) (fun args w => callFunc_enters Tryz.func104 (by kernel_rfl) rfl args w)
        (fun W _ => isSymbol_any _ _ _ _ _ _ _ _ _ _ W) (fun W _ => noNumber_any _ _ _ _ _ _ _ _ _ _ W) ?_ ?_
      · simp [ownB, h]
      · simp [aloneB, h]
    · refine go _ _ _ _ _ (by rw [h]; rfl) (fun args w => callFunc_enters Tryz.func108 (by kernel_rfl) rfl args w) (fun args w => callFunc_enters Tryz.func104 (by kernel_rfl) rfl args w)
        (fun W _ => isType_any _ _ _ _ _ _ _ _ _ _ W hx) (fun W _ => noNumber_any _ _ _ _ _ _ _ _ _ _ W) ?_ ?_
      · simp [ownB, h]
      · simp [aloneB, h]
    · refine go _ _ _ _ _ (by rw [h]; rfl) (fun args w => callFunc_enters Tryz.func110 (by kernel_rfl) rfl args w) (fun args w => callFunc_enters Tryz.func111 (by kernel_rfl) rfl args w)
        (fun W _ => isInts_any _ _ _ _ _ _ _ _ _ _ W) (fun W _ => noneOf_any _ _ _ _ _ _ _ _ _ _ W) ?_ ?_
      · rw [h100, ht]; simp [ownB, h]
      · simp [aloneB, h]
    · refine go _ _ _ _ _ (by rw [h]; rfl) (fun args w => callFunc_enters Tryz.func113 (by kernel_rfl) rfl args w) (fun args w => callFunc_enters Tryz.func111 (by kernel_rfl) rfl args w)
        (fun W hb => isTypes_any _ _ _ _ _ _ _ _ _ W a.texts (hl.texts.below hb) hn hf.textsC hq) (fun W _ => noneOf_any _ _ _ _ _ _ _ _ _ _ W) ?_ ?_
      · rw [join_ok, hi]; simp [ownB, h]
      · simp [aloneB, h]
  · have e : rightA a = false := by unfold rightA; simp [hk]
    rw [e]
    exact isRight_no _ _ _ _ _ _ _ _ _ _ w (kindRow_no hk)
end Go.Proofs.YtmepjbjmjbpchaaGreatDoor
end
section
/- The reference of types: numbers. -/
namespace Go.Proofs.YtmepjbjmjbpchaaGreatDoor
open Go Go.RowKit Go.Sort
set_option linter.unusedVariables false
set_option linter.unusedSimpArgs false

end Go.Proofs.YtmepjbjmjbpchaaGreatDoor
end
section
/- The reference of types: number types, digits. -/
namespace Go.Proofs.YtmepjbjmjbpchaaGreatDoor
open Go Go.RowKit Go.Sort
set_option linter.unusedVariables false
set_option linter.unusedSimpArgs false

end Go.Proofs.YtmepjbjmjbpchaaGreatDoor
end
section
/- The reference of types: names, and two names with a point between. -/
namespace Go.Proofs.YtmepjbjmjbpchaaGreatDoor
open Go Go.RowKit Go.Sort
set_option linter.unusedVariables false
set_option linter.unusedSimpArgs false

end Go.Proofs.YtmepjbjmjbpchaaGreatDoor
end
section
/- Package types: the parts of a type with cells; ranges. -/
namespace Go.Proofs.YtmepjbjmjbpchaaGreatDoor
open Go Go.RowKit
set_option linter.unusedVariables false
set_option linter.unusedSimpArgs false

/-- The element type of a type with cells. -/
def elStr (b : Nat) : List UInt8 := if b = 0 then [105, 110, 100, 101, 120] else 105 :: Lib.decDigits b

section
variable (k : Int) (b : Nat) (r x y z : Int) (w : World)
end
end Go.Proofs.YtmepjbjmjbpchaaGreatDoor
end
section
/- Plain laws of the reference of types: a number's string is the only one; what stands behind the extents. -/
namespace Go.Proofs.YtmepjbjmjbpchaaGreatDoor
open Go
set_option linter.unusedVariables false
set_option linter.unusedSimpArgs false

theorem decDigits_snoc {n d : Nat} (hn : 1 ≤ n) (hd : d < 10) : Lib.decDigits (10 * n + d) = Lib.decDigits n ++ [UInt8.ofNat (48 + d)] := by
  rw [Lib.decDigits, dif_neg (by omega)]
  rw [show (10 * n + d) / 10 = n by omega, show (10 * n + d) % 10 = d by omega]
theorem digit_back {c : UInt8} (h : 48 ≤ c.toNat) : UInt8.ofNat (48 + (c.toNat - 48)) = c := by
  apply UInt8.toNat_inj.1
  rw [UInt8.toNat_ofNat']
  have := c.toNat_lt
  omega
theorem numFrom_digits : ∀ (l : List UInt8) (n N : Nat), 1 ≤ n → numFrom l n = some N → Lib.decDigits N = Lib.decDigits n ++ l
  | [], n, N, _, h => by simp [numFrom] at h; simp [h]
  | c :: l, n, N, hn, h => by
    simp only [numFrom] at h
    split at h
    · rename_i hc
      rw [numFrom_digits l _ N (by omega) h, decDigits_snoc hn (by omega), digit_back hc.1, List.append_assoc]
      rfl
    · cases h
theorem numOf_digits {l : List UInt8} {N : Nat} (h : numOf l = some N) : l = Lib.decDigits N := by
  unfold numOf at h
  split at h
  · cases h
  · rename_i hc
    match l, hc, h with
    | [], hc, h => exact absurd (.inl rfl) hc
    | c :: l, hc, h =>
      simp only [numFrom] at h
      split at h
      · rename_i hr
        by_cases h48 : c = 48
        · have hl : l = [] := by
            by_cases hl : l = []
            · exact hl
            · exfalso; apply hc; right; right
              have : 0 < l.length := List.length_pos_iff.2 hl
              exact ⟨by simp; omega, by simp [h48]⟩
          subst hl
          subst h48
          simp [numFrom] at h
          subst h
          rw [Lib.decDigits_one (by decide)]
          rfl
        · have hne : c.toNat ≠ 48 := fun he => h48 (UInt8.toNat_inj.1 (by simpa using he))
          have := numFrom_digits l _ N (by omega) h
          rw [this, Lib.decDigits_one (by omega)]
          rw [show 10 * 0 + (c.toNat - 48) = c.toNat - 48 by omega, digit_back hr.1]
          rfl
      · cases h
theorem elemOf_str {l : List UInt8} {q : Pd} (h : elemOf l = some q) : l = elStr (if q.kind = 1 then 0 else q.bits) := by
  unfold elemOf at h
  split at h
  · rename_i hi; cases h; simpa [elStr] using hi
  · split at h
    · rename_i hp
      split at h
      · rename_i n hn
        split at h
        · rename_i hb
          cases h
          have := numOf_digits hn
          match l, hp with
          | [], hp => simp [Lib.hasPrefix, List.isPrefixOf] at hp
          | c :: l, hp =>
            simp [Lib.hasPrefix, List.isPrefixOf] at hp
            subst hp
            rw [elStr]
            simp at this ⊢
            rw [if_neg (by omega), this]
        · cases h
      · cases h
    · cases h
theorem numFrom_all : ∀ (l : List UInt8) (n N : Nat), numFrom l n = some N → ∀ c ∈ l, 48 ≤ c.toNat ∧ c.toNat ≤ 57
  | [], n, N, h => by simp
  | c :: l, n, N, h => by
    simp only [numFrom] at h
    split at h
    · rename_i hc
      intro x hx
      rcases List.mem_cons.1 hx with rfl | hx
      · exact hc
      · exact numFrom_all l _ N h x hx
    · cases h
theorem numOf_all {l : List UInt8} {N : Nat} (h : numOf l = some N) : ∀ c ∈ l, 48 ≤ c.toNat ∧ c.toNat ≤ 57 := by
  unfold numOf at h
  split at h
  · cases h
  · exact numFrom_all _ _ _ h
end Go.Proofs.YtmepjbjmjbpchaaGreatDoor
end
section
/- The reference of types: Read, where the string is no type with cells. -/
namespace Go.Proofs.YtmepjbjmjbpchaaGreatDoor
open Go Go.RowKit Go.Sort
set_option linter.unusedVariables false
set_option linter.unusedSimpArgs false

theorem own_slice {W : World} {base : Nat} {e : TypeId} {v : Value} {n : Nat} {xs : List Value} (h : W.ownsRow base e 1 v n xs) : ∃ sa sc, v = .slice sa n sc := by
  rcases h.2 with ⟨h1, h2⟩ | ⟨g, c, cur, h1, -⟩
  · exact ⟨none, 0, by rw [h1, h2]⟩
  · exact ⟨_, _, h1⟩
end Go.Proofs.YtmepjbjmjbpchaaGreatDoor
end
section
/- The reference of types: Read, where the string may be a type with cells: the plain laws. -/
namespace Go.Proofs.YtmepjbjmjbpchaaGreatDoor
open Go Go.RowKit Go.Sort
set_option linter.unusedVariables false
set_option linter.unusedSimpArgs false

theorem suffix_iff {l : List UInt8} {c : UInt8} (h : l ≠ []) : Lib.hasSuffix l [c] = (l.getLast h == c) := by
  have hs := List.dropLast_concat_getLast h
  rw [Bool.eq_iff_iff]
  simp only [Lib.hasSuffix, List.isSuffixOf_iff_suffix, beq_iff_eq]
  constructor
  · rintro ⟨t, ht⟩
    have : (t ++ [c]).getLast (by simp) = l.getLast h := by congr 1
    simpa using this.symm
  · intro he
    exact ⟨l.dropLast, by rw [← he]; exact hs⟩
theorem prefix_take {l p : List UInt8} : Lib.hasPrefix l p = (l.take p.length == p) := by
  rw [Bool.eq_iff_iff]
  simp only [Lib.hasPrefix, List.isPrefixOf_iff_prefix, beq_iff_eq]
  rw [List.prefix_iff_eq_take]
  exact eq_comm
end Go.Proofs.YtmepjbjmjbpchaaGreatDoor
end
section
/- The reference of types: Read, the walk where the string may be a type with cells. -/
namespace Go.Proofs.YtmepjbjmjbpchaaGreatDoor
open Go Go.RowKit Go.Sort
set_option linter.unusedVariables false
set_option linter.unusedSimpArgs false

end Go.Proofs.YtmepjbjmjbpchaaGreatDoor
end
section
/- The reference of types: Read at any string; Is, IsNumber, Bits, Shaped. -/
namespace Go.Proofs.YtmepjbjmjbpchaaGreatDoor
open Go Go.RowKit Go.Sort
set_option linter.unusedVariables false
set_option linter.unusedSimpArgs false

end Go.Proofs.YtmepjbjmjbpchaaGreatDoor
end
section
/- The reference: Right. -/
namespace Go.Proofs.YtmepjbjmjbpchaaGreatDoor
open Go Go.RowKit
set_option linter.unusedVariables false
set_option linter.unusedSimpArgs false

section
variable (nm : ByteArray) (k n : Int) (tx : ByteArray) (ia : Option Addr) (il ic : Nat) (ta : Option Addr) (tl tc : Nat) (w : World)
end
end Go.Proofs.YtmepjbjmjbpchaaGreatDoor
end
section
/- The reference: Right at the kinds whose texts are looked at. -/
namespace Go.Proofs.YtmepjbjmjbpchaaGreatDoor
open Go Go.RowKit
set_option linter.unusedVariables false
set_option linter.unusedSimpArgs false

section
variable (nm : ByteArray) (n : Int) (tx : ByteArray) (ia : Option Addr) (il ic : Nat) (ta : Option Addr) (tc : Nat) (w : World)
end
end Go.Proofs.YtmepjbjmjbpchaaGreatDoor
end
section
/- A region that draws its order: the operations ahead of m by an invariant, those from m on in the order of the text. -/
set_option linter.unusedVariables false
set_option linter.unusedSimpArgs false
namespace Go.Proofs.YtmepjbjmjbpchaaGreatDoor
open Go

section
variable {P : Program} {ops : Array Oper} {n : Nat} {Q : Exit → Act → World → Prop} {V : Nat → Value} {a0 : Act} {Inv : Array Bool → World → Prop}

def headsOf (m s : Nat) : Array Bool := Array.replicate m true ++ Array.replicate (s - m) false

theorem heads_of_count {m s : Nat} {listed : Array Bool} (hs : listed.size = s) (hm : m ≤ s) (ht : ∀ t, m ≤ t → t < s → listed.getD t true = false) (hc : listed.count false ≤ s - m) : listed = headsOf m s := by
  have h2 : listed = listed.extract 0 m ++ listed.extract m s := by
    rw [Array.extract_append_extract, show min 0 m = 0 by omega, show max m s = s by omega, ← hs]; simp
  have h3 : listed.extract m s = Array.replicate (s - m) false := by
    apply Array.ext
    · simp [hs]
    · intro i h1 h2
      simp [hs] at h1
      have := ht (m + i) (by omega) (by omega)
      rw [Array.getElem_extract, Array.getElem_replicate]
      simpa [hs, show m + i < s by omega] using this
  have hc2 : (listed.extract 0 m).count false = 0 := by
    rw [h2, Array.count_append, h3, Array.count_replicate] at hc
    simp at hc
    omega
  have h4 : listed.extract 0 m = Array.replicate m true := by
    apply Array.ext
    · simp [hs, hm]
    · intro i h1 h2
      rw [Array.getElem_replicate]
      have h5 : false ∉ listed.extract 0 m := by rw [← Array.count_eq_zero]; exact hc2
      have h3 : (listed.extract 0 m)[i] ∈ listed.extract 0 m := Array.getElem_mem h1
      cases hx : (listed.extract 0 m)[i] with
      | true => rfl
      | false => rw [hx] at h3; exact absurd h3 h5
  rw [h2, h3, h4, headsOf]

theorem headsOf_getD (m s j : Nat) (hm : m ≤ s) : (headsOf m s).getD j false = decide (j < m) := by
  unfold headsOf
  by_cases h : j < m
  · simp [Array.getElem?_append, h]
  · rcases Nat.lt_or_ge j s with h2 | h2
    · simp [Array.getElem?_append, h, show j - m < s - m by omega]
    · simp [Array.getElem?_append, h, show ¬ (j - m < s - m) by omega]
/-- The frame behind the first operations, put one by one. -/
def frameOf (ops : Array Oper) (V : Nat → Value) (a : Act) : Nat → Act
  | 0 => a
  | k + 1 => (frameOf ops V a k).put (ops[k]?.bind (·.dst)) (V k)
theorem headsOf_succ {k s : Nat} (h : k < s) : headsOf (k + 1) s = (headsOf k s).setIfInBounds k true := by
  apply Array.ext
  · simp [headsOf]; omega
  · intro i h1 h2
    have e1 := headsOf_getD (k + 1) s i (by omega)
    have e2 := headsOf_getD k s i (by omega)
    have h3 : i < s := by simp [headsOf] at h1; omega
    have h4 : i < (headsOf k s).size := by simp [headsOf]; omega
    simp [h1] at e1
    simp [h4] at e2
    rw [e1]
    by_cases hik : i = k
    · subst hik; simp
    · rw [Array.getElem_setIfInBounds_ne (by omega) (fun e => hik e.symm), e2]
      rw [decide_eq_decide]; omega
theorem frameOf_agrees (hok : regionOk ops a0.tmps.size = true) : ∀ k, k ≤ ops.size → Agrees ops V a0 (headsOf k ops.size) (frameOf ops V a0 k)
  | 0, _ => by
    have : headsOf 0 ops.size = Array.replicate ops.size false := by simp [headsOf]
    rw [this]; exact Agrees.start
  | k + 1, hk => by
    have ih := frameOf_agrees hok k (by omega)
    rw [headsOf_succ (by omega)]
    have ho : ops[k]? = some ops[k] := by simp [show k < ops.size by omega]
    have := Agrees.put hok ih (by simp [headsOf]; omega) ho
    simpa [frameOf, ho] using this
theorem Agrees.uniq {listed : Array Bool} {a b : Act} (ha : Agrees ops V a0 listed a) (hb : Agrees ops V a0 listed b) : a = b := by
  obtain ⟨t, ds⟩ := a
  obtain ⟨u, es⟩ := b
  have h1 : ds = es := ha.defers.trans hb.defers.symm
  have h2 : t = u := by
    apply Array.ext_getElem?
    intro d
    by_cases h : ∃ (j : Nat) (o : Oper), ops[j]? = some o ∧ listed.getD j false = true ∧ o.dst = some d
    · obtain ⟨j, o, ho, hl, hd⟩ := h
      exact (ha.got j o d ho hd hl).trans (hb.got j o d ho hd hl).symm
    · have hn : ∀ (j : Nat) (o : Oper), ops[j]? = some o → listed.getD j false = true → o.dst ≠ some d := fun j o ho hl hd => h ⟨j, o, ho, hl, hd⟩
      exact (ha.old d hn).trans (hb.old d hn).symm
  rw [h1, h2]
theorem frameOf_eq (hok : regionOk ops a0.tmps.size = true) {k : Nat} (hk : k ≤ ops.size) {a : Act} (ha : Agrees ops V a0 (headsOf k ops.size) a) : a = frameOf ops V a0 k := ha.uniq (frameOf_agrees hok k hk)

/-- THE LAW, in a fence as wide as can be. -/
theorem wpIn_region_inv_tail {F : Fence} {id : Nat} {w : World} (m : Nat) (V : Nat → Value) (Inv : Array Bool → World → Prop) (hm : P.follows .mixedOrders = true) (hok : regionOk ops a0.tmps.size = true)
    (hS : Region.sinkB .any ops m = true) (hC : Region.chainB .any ops m = true) (hn : m < ops.size) (hq : Region.seqB .any ops (ops.size - m) m (headsOf m ops.size) = true)
    (h0 : Inv (Array.replicate ops.size false) w.drew)
    (step : ∀ (i : Nat) (o : Oper) (listed : Array Bool) (a : Act) (w : World), ops[i]? = some o → listed.size = ops.size → listed.getD i false = false → (∀ e ∈ o.after, Region.binds .any e = true → listed.getD e.on false = true) → Agrees ops V a0 listed a → Inv listed w →
      (∀ j, listed.getD j false = true → (∃ p d, ops[j]? = some p ∧ p.dst = some d) → yielded ops a.tmps j = boolOf (V j)) → i < m →
      if Region.wanted o (yielded ops a.tmps) then o.wpIn F n P a w (fun a' w' => a' = a.put o.dst (V i) ∧ Inv (listed.setIfInBounds i true) w') Q else (∀ f, o.about P w a.eval = some f → F.fn f) ∧ a.put o.dst undef = a.put o.dst (V i) ∧ Inv (listed.setIfInBounds i true) w)
    (tail : ∀ w, Inv (headsOf m ops.size) w → wpListIn F n P ops Q (ops.toList.drop m) (frameOf ops V a0 m) w) :
    (Code.region id ops true).wpIn F n P Q a0 w := by
  refine wpIn_region_any hm ?_
  have main : ∀ (fuel : Nat) (listed : Array Bool) (a : Act) (w : World), listed.count false = fuel + (ops.size - m) → HeadInv .any ops m listed → Agrees ops V a0 listed a → Inv listed w → wpAnyIn F n P .any ops Q (fuel + (ops.size - m)) listed a w := by
    intro fuel
    induction fuel with
    | zero =>
      intro listed a w hc hH ha hi
      have hall := heads_of_count hH.size (Nat.le_of_lt hn) hH.tail (by omega)
      subst hall
      have htl := tail w hi
      rw [← frameOf_eq hok (Nat.le_of_lt hn) ha] at htl
      have := wpAnyIn_of_seq (md := .any) (F := F) (n := n) (Q := Q) (P := P) (ops.toList.drop m) m (headsOf m ops.size) a w (fun j => by simp [List.getElem?_drop]) (by simpa using hq) htl
      simpa using this
    | succ f ih =>
      intro listed a w hc hH ha hi
      have hs := hH.size
      have hx : ∃ i, i < m ∧ listed.getD i false = false := by
        by_cases hx : ∃ i, i < m ∧ listed.getD i false = false
        · exact hx
        · exfalso
          have hle : listed.count false ≤ ops.size - m := by
            have h2 : listed = listed.extract 0 m ++ listed.extract m ops.size := by
              rw [Array.extract_append_extract, show min 0 m = 0 by omega, show max m ops.size = ops.size by omega, ← hs]; simp
            have h5 : (listed.extract 0 m).count false = 0 := by
              rw [Array.count_eq_zero]
              intro hmem
              obtain ⟨i, hi1, hi2⟩ := Array.mem_iff_getElem.1 hmem
              simp at hi1
              refine hx ⟨i, by omega, ?_⟩
              rw [Array.getElem_extract] at hi2
              simp at hi2
              simp [show i < listed.size by omega, hi2]
            rw [h2, Array.count_append, h5]
            have := Array.count_le_size (a := false) (xs := listed.extract m ops.size)
            simp [hs] at this ⊢
            omega
          omega
      obtain ⟨i0, hi0, hl0⟩ := hx
      rw [show f + 1 + (ops.size - m) = (f + (ops.size - m)) + 1 by omega]
      refine ⟨fun he => ?_, fun i hir => ?_⟩
      · exact absurd he (ready_of_unlisted hok hs (i0 + 1) i0 (by omega) (by omega) hl0)
      · have him : i < m := by
          rcases Nat.lt_or_ge i m with h | h
          · exact h
          · exact absurd hir (tail_waits hS hC hn hH _ i0 rfl hi0 (getD_in (by rw [hs]; omega) hl0) i h)
        obtain ⟨hu, o, ho, hall⟩ := mem_ready.1 hir
        have hlt : i < listed.size := by rw [hs]; exact (Array.getElem?_eq_some_iff.1 ho).1
        have hu' : listed[i] = false := by simpa [hlt] using hu
        have hst := step i o listed a w ho hs (by simp [hlt, hu']) hall ha hi (fun j hj ⟨p, d, hp, hd⟩ => by simp only [yielded, hp, hd, Option.bind_some, ha.got j p d hp hd hj, boolOf]; cases V j <;> rfl) him
        have hst' : wpOpIn F n P ops Q i (fun a' w' => a' = a.put o.dst (V i) ∧ Inv (listed.setIfInBounds i true) w') a w := by unfold wpOpIn; rw [ho]; exact hst
        refine wpOpIn_mono (fun a' w' => ?_) hst'
        rintro ⟨rfl, hi'⟩
        refine ih _ _ _ ?_ (hH.set hir him) (ha.put hok hs ho) hi'
        have hpos : 0 < listed.count false := Array.count_pos_iff.2 (by rw [← hu']; exact Array.getElem_mem hlt)
        rw [Array.setIfInBounds, dif_pos hlt, Array.count_set]
        simp [hu']
        omega
  have hc0 : (Array.replicate ops.size false).count false = m + (ops.size - m) := by rw [Array.count_replicate]; simp; omega
  have := main m (Array.replicate ops.size false) a0 w.drew hc0 ⟨by simp, fun j oj _ hl => (by rw [getD_replicate_false] at hl; cases hl), fun t _ ht => getD_in (by simpa using ht) (getD_replicate_false _ _)⟩ Agrees.start h0
  rw [show m + (ops.size - m) = ops.size by omega] at this
  exact this
end
end Go.Proofs.YtmepjbjmjbpchaaGreatDoor
end
