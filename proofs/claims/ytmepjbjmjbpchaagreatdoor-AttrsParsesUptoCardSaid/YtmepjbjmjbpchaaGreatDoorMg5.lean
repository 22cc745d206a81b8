/- Texts of this claim, laid together: At2, At3, Rf0, Rf1, Rf4, TyA. -/
import Derived.Deep.RegionHeld3
import Derived.Deep.DrawnRows
import Derived.Laws.EntriesVeiled
import Derived.Test.YtmepjbjmjbpchaaGreatDoorMg3
import Derived.Test.YtmepjbjmjbpchaaGreatDoorMg4
section
/- attrs.isRight. -/
namespace Go.Proofs.YtmepjbjmjbpchaaGreatDoor
open Go Go.RowKit
set_option linter.unusedVariables false
set_option linter.unusedSimpArgs false
attribute [local go_sem ↓] Go.wp_at_zero Go.wp_at_succ

theorem run_lookup_miss {P : Program} {t kt et : TypeId} {d : TypeDesc} {w : World} {r clock : Nat} {es : Array MapEntry} {key z : Value} (ht : P.underlying t = some (.map kt et)) (hk : P.underlying kt = some d)
    (hck : ∀ b, (Instr.checkKey b 10000 kt key).run P w = .ok () w) (hf : Instr.findNow d key es.toList 0 = some none) (hr : w.heap[r]? = some (.map es clock)) (hz : (zeroValue et).run P w = .ok z w) (ok : Bool) :
    (Instr.lookup t (.map (some r)) key ok).run P w = .ok (if ok then .tuple #[z, .bool false] else z) w := by
  simp [Instr.lookup, run_underlying ht, run_getObj_map hr, hck, run_findKey_now hk hf, hz]
abbrev zKind : Value := .agg #[.nilFunc, .nilFunc, .nilFunc]
def kindRow (k : Int) : Option (Nat × Nat × Nat) := if 0 ≤ k then kindE[k.toNat]? else none
theorem find_no (k : Int) (h : kindRow k = none) : Instr.findNow (.int .i64) (.int .i64 k) ((kindE.take 6).mapIdx fun i x => (⟨.int .i64 (i : Nat), kv x.1 x.2.1 x.2.2, i⟩ : MapEntry)) 0 = some none := by
  have h6 : ¬ (k = 0 ∨ k = 1 ∨ k = 2 ∨ k = 3 ∨ k = 4 ∨ k = 5) := by
    rintro (rfl | rfl | rfl | rfl | rfl | rfl) <;> simp [kindRow, kindE] at h
  simp only [not_or] at h6
  obtain ⟨h0, h1, h2, h3, h4, h5⟩ := h6
  have e0 : (k == 0) = false := by simpa using h0
  have e1 : (k == 1) = false := by simpa using h1
  have e2 : (k == 2) = false := by simpa using h2
  have e3 : (k == 3) = false := by simpa using h3
  have e4 : (k == 4) = false := by simpa using h4
  have e5 : (k == 5) = false := by simpa using h5
  simp [Instr.findNow, Instr.sameNow, kindE, e0, e1, e2, e3, e4, e5]
theorem look_yes {w : World} {m : Nat} (hm : w.heap[m]? = some (kindO 6)) {k : Int} {x : Nat × Nat × Nat} (h : kindRow k = some x) (ok : Bool) :
    (Instr.lookup 118 (.map (some m)) (.int .i64 k) ok).run Tryz.prog w = .ok (if ok then .tuple #[kv x.1 x.2.1 x.2.2, .bool true] else kv x.1 x.2.1 x.2.2) w := by
  unfold kindRow at h
  split at h
  case isFalse => cases h
  rename_i h0
  obtain ⟨j, rfl⟩ := Int.eq_ofNat_of_zero_le h0
  have hj6 : j < 6 := by simpa [kindE] using (List.getElem?_eq_some_iff.1 h).1
  have : j = 0 ∨ j = 1 ∨ j = 2 ∨ j = 3 ∨ j = 4 ∨ j = 5 := by omega
  rcases this with rfl | rfl | rfl | rfl | rfl | rfl
  all_goals
    simp only [kindE, Int.toNat_natCast, List.getElem?_cons_succ, List.getElem?_cons_zero, Option.some.injEq] at h
    subst h
    exact run_lookup_hit Tryz.underlying118 Tryz.underlying23 (fun b => run_checkKey_int Tryz.underlying23 _ _ _) rfl hm ok
theorem look_no {w : World} {m : Nat} (hm : w.heap[m]? = some (kindO 6)) {k : Int} (h : kindRow k = none) (ok : Bool) :
    (Instr.lookup 118 (.map (some m)) (.int .i64 k) ok).run Tryz.prog w = .ok (if ok then .tuple #[zKind, .bool false] else zKind) w := by
  refine run_lookup_miss Tryz.underlying118 Tryz.underlying23 (fun b => run_checkKey_int Tryz.underlying23 _ _ _) ?_ hm (by kernel_rfl) ok
  exact find_no k h

theorem kinds_m (w : World) : Calls Tryz.prog 75 #[] w fun e w' => ∃ m, e = .returned (.map (some m)) ∧ w'.heap[m]? = some (kindO 6) ∧ Below w.heap.size w w' :=
  (kinds_any w).mono fun e w' ⟨he, hw⟩ => ⟨_, he, by rw [← hw]; exact heap_alloc_new _ _, by rw [← hw]; exact (Below.refl _ _).alloc (Nat.le_refl _) _⟩
theorem belowD {B : Nat} {a w : World} (h : Below B a w) : Below B a w.drew := ⟨h.os, h.tape, h.output, h.size, h.block⟩
theorem heap_alloc_old {w : World} {m : Nat} {x : Obj} (h : w.heap[m]? = some x) (o : Obj) : (w.alloc o).heap[m]? = some x := by
  have := blkLt h
  rw [Below.heap_alloc _ _ _ this]; exact h
section
variable (nm : ByteArray) (k n : Int) (tx : ByteArray) (ia : Option Addr) (il ic : Nat) (ta : Option Addr) (tl tc : Nat) (w : World)
set_option maxRecDepth 100000 in
set_option maxHeartbeats 2000000 in
theorem isRight_no (h : kindRow k = none) : Calls Tryz.prog 44 #[av nm k n tx ia il ic ta tl tc] w fun e w' => e = .returned (.bool false) ∧ Below w.heap.size w w' := by
  have hl := fun (W : World) (m : Nat) (hm : W.heap[m]? = some (kindO 6)) => look_no hm h true
  have HL := Lib.hid hl
  clear hl h
  go_enter Tryz.func44, Tryz.ntmps44
  go_wp2_with fail
  go_region_held3 (fun w' => w'.cell? ⟨w.heap.size, 1, none⟩ = some (.int .i64 k)) (go_keep)
    ((go_at_call 75; refine (kinds_m _).mono ?_; rintro e w1 ⟨m, rfl, hm, hb1⟩; have hl1 := HL.out w1 m hm; have hl2 := fun o => HL.out (w1.alloc o) m (heap_alloc_old hm o); have c0 := rdCell hb1 w.heap.size (by first | (simp; done) | (simp; omega)); have f0 := rdFree hb1 w.heap.size (by first | (simp; done) | (simp; omega)); first | (have c1 := rdCell hb1 (w.heap.size + 1) (by simp; done); have f1 := rdFree hb1 (w.heap.size + 1) (by simp; done); have hz1 : w.heap.size + 1 < w1.heap.size := (by have := hb1.size; simp at this; omega)) | (have hz1 : w.heap.size < w1.heap.size := (by have := hb1.size; simp at this; omega))))
  all_goals go_wp2_with fail
  all_goals go_ret
  all_goals refine ⟨rfl, ?_⟩
  all_goals ((repeat (first | (with_reducible refine below_set ?_ (by first | exact Nat.le_refl _ | omega) _ _) | with_reducible exact Below.refl _ _ | with_reducible refine belowA ?_ _ | with_reducible refine below_own' ?_ hb1 | with_reducible refine belowD ?_ | with_reducible refine belowN ?_ _)))
set_option maxRecDepth 100000 in
set_option maxHeartbeats 4000000 in
theorem isRight_row (f g t : Nat) (pr pa : Bool) (h : kindRow k = some (f, g, t)) (hinf : ∀ args w, (callFunc f args).run Tryz.prog w = .ok (.enter f args) w) (hing : ∀ args w, (callFunc g args).run Tryz.prog w = .ok (.enter g args) w)
    (hf : ∀ W, Below w.heap.size w W → Calls Tryz.prog f #[av nm k n tx ia il ic ta tl tc] W fun e w' => e = .returned (.bool pr) ∧ Below W.heap.size W w')
    (hg : ∀ W, Below w.heap.size w W → Calls Tryz.prog g #[av nm k n tx ia il ic ta tl tc] W fun e w' => e = .returned (.bool pa) ∧ Below W.heap.size W w') :
    Calls Tryz.prog 44 #[av nm k n tx ia il ic ta tl tc] w fun e w' => e = .returned (.bool (nameOf nm.data.toList && (pr && pa))) ∧ Below w.heap.size w w' := by
  have hl := fun (W : World) (m : Nat) (hm : W.heap[m]? = some (kindO 6)) => look_yes hm h true
  have HL := Lib.hid hl
  have HF := Lib.hid hf
  have HG := Lib.hid hg
  clear hl h hf hg
  obtain ⟨bn, hbn⟩ : ∃ bn, bn = nameOf nm.data.toList := ⟨_, rfl⟩
  rw [← hbn]
  have HBN := Lib.hid hbn
  clear hbn
  go_enter Tryz.func44, Tryz.ntmps44
  go_wp2_with fail
  go_region_held3 (fun w' => w'.cell? ⟨w.heap.size, 1, none⟩ = some (.int .i64 k)) (go_keep)
    ((go_at_call 75; refine (kinds_m _).mono ?_; rintro e w1 ⟨m, rfl, hm, hb1⟩; have hl1 := HL.out w1 m hm; have hl2 := fun o => HL.out (w1.alloc o) m (heap_alloc_old hm o); have c0 := rdCell hb1 w.heap.size (by first | (simp; done) | (simp; omega)); have f0 := rdFree hb1 w.heap.size (by first | (simp; done) | (simp; omega)); first | (have c1 := rdCell hb1 (w.heap.size + 1) (by simp; done); have f1 := rdFree hb1 (w.heap.size + 1) (by simp; done); have hz1 : w.heap.size + 1 < w1.heap.size := (by have := hb1.size; simp at this; omega)) | (have hz1 : w.heap.size < w1.heap.size := (by have := hb1.size; simp at this; omega))))
  all_goals cases bn
  all_goals try cases pr
  all_goals
    go_wp2_with (first
      | (go_at_call 42; refine (isName_any _ _).mono ?_; rintro e w9 ⟨rfl, rfl⟩; rw [← HBN.out])
      | ((with_reducible refine Calls.mono (HF.out _ ?_) ?_); (focus ((repeat (first | (with_reducible refine below_set ?_ (by first | exact Nat.le_refl _ | omega) _ _) | with_reducible exact Below.refl _ _ | with_reducible refine belowA ?_ _ | with_reducible refine below_own' ?_ hb1 | with_reducible refine belowD ?_ | with_reducible refine belowN ?_ _)); done)); rintro e w2 ⟨rfl, hb2⟩; have c2 := rdCell hb2 w.heap.size (by first | (simp; done) | (simp; omega)); have f2 := rdFree hb2 w.heap.size (by first | (simp; done) | (simp; omega)); first | (have c3 := rdCell hb2 w1.heap.size (by simp; done); have f3 := rdFree hb2 w1.heap.size (by simp; done); have hz2 : w1.heap.size < w2.heap.size := (by have := Below.size hb2; simp at this; omega)) | (have c3 := rdCell hb2 (w.heap.size + 1) (by first | (simp; done) | (simp; omega)); have f3 := rdFree hb2 (w.heap.size + 1) (by first | (simp; done) | (simp; omega)); have hz2 : w.heap.size + 1 < w2.heap.size := (by have := Below.size hb2; simp at this; omega)))
      | ((with_reducible refine Calls.mono (HG.out _ ?_) ?_); (focus ((repeat (first | (with_reducible refine below_set ?_ (by first | exact Nat.le_refl _ | omega) _ _) | with_reducible exact Below.refl _ _ | with_reducible refine belowA ?_ _ | with_reducible refine below_own' ?_ hb2 | with_reducible refine below_own' ?_ hb1 | with_reducible refine belowD ?_ | with_reducible refine belowN ?_ _)); done)); rintro e w3 ⟨rfl, hb3⟩))
  all_goals go_ret
  all_goals refine ⟨rfl, ?_⟩
  all_goals first
    | ((repeat (first | (with_reducible refine below_set ?_ (by first | exact Nat.le_refl _ | omega) _ _) | with_reducible exact Below.refl _ _ | with_reducible refine belowA ?_ _ | with_reducible refine below_own' ?_ hb1 | with_reducible refine belowD ?_ | with_reducible refine belowN ?_ _)); done)
    | ((repeat (first | (with_reducible refine below_set ?_ (by first | exact Nat.le_refl _ | omega) _ _) | with_reducible exact Below.refl _ _ | with_reducible refine belowA ?_ _ | with_reducible refine below_own' ?_ hb2 | with_reducible refine below_own' ?_ hb1 | with_reducible refine belowD ?_ | with_reducible refine belowN ?_ _)); done)
    | ((repeat (first | (with_reducible refine below_set ?_ (by first | exact Nat.le_refl _ | omega) _ _) | with_reducible exact Below.refl _ _ | with_reducible refine belowA ?_ _ | with_reducible refine below_own' ?_ hb3 | with_reducible refine below_own' ?_ hb2 | with_reducible refine below_own' ?_ hb1 | with_reducible refine belowD ?_ | with_reducible refine belowN ?_ _)); done)
end
end Go.Proofs.YtmepjbjmjbpchaaGreatDoor
end
section
/- attrs.isRight at an attribute. -/
namespace Go.Proofs.YtmepjbjmjbpchaaGreatDoor
open Go Go.RowKit
set_option linter.unusedVariables false
set_option linter.unusedSimpArgs false

theorem badTy_eq (s : ByteArray) : badTy s = !isTyB s := by
  unfold badTy isTyB askAny askOf
  cases readOf s.data.toList <;> rfl
theorem join_ok (ls : List ByteArray) : (((joinOf ls).2 : Int) == 0) = (decide (ls.length ≤ 100) && ls.all isTyB) := by
  have hall : ls.all isTyB = !ls.any badTy := by
    rw [List.not_any_eq_all_not]
    congr 1; funext s; simp [badTy_eq]
  unfold joinOf
  rw [hall]
  cases ls.any badTy
  · by_cases h : 100 < ls.length
    · simp [h]
    · simp [h]; omega
  · simp
theorem kindRow_no {k : Int} (h : ¬ (0 ≤ k ∧ k ≤ 5)) : kindRow k = none := by
  unfold kindRow
  split
  · rw [List.getElem?_eq_none]
    simp [kindE]; omega
  · rfl
theorem isRight_any (a : Atr) (w : World) (hl : a.Lies w) (hf : a.Fits) : Calls Tryz.prog 44 #[a.val] w fun e w' => e = .returned (.bool (rightA a)) ∧ Below w.heap.size w w' := by
  by_cases hk : 0 ≤ a.kind ∧ a.kind ≤ 5
  · have h6 : a.kind = 0 ∨ a.kind = 1 ∨ a.kind = 2 ∨ a.kind = 3 ∨ a.kind = 4 ∨ a.kind = 5 := by omega
    have hx : a.text.size ≤ 140737488355328 := by have := hf.text; omega
    have hq : ∀ s ∈ a.texts, s.size ≤ 140737488355328 := fun s hs => by have := hf.texts s hs; omega
    have hn : a.texts.length ≤ 9223372036854775807 := by have := hf.tl; omega
    have hi : (((a.ints.length : Nat) : Int) == 0) = (a.ints.length == 0) := by rw [Bool.eq_iff_iff]; simp
    have ht : (((a.texts.length : Nat) : Int) == 0) = (a.texts.length == 0) := by rw [Bool.eq_iff_iff]; simp
    have h100 : decide (((a.ints.length : Nat) : Int) ≤ 100) = decide (a.ints.length ≤ 100) := by rw [decide_eq_decide]; omega
    have go : ∀ (f g t : Nat) (pr pa : Bool), kindRow a.kind = some (f, g, t) → (∀ args w, (callFunc f args).run Tryz.prog w = .ok (.enter f args) w) → (∀ args w, (callFunc g args).run Tryz.prog w = .ok (.enter g args) w) →
        (∀ W, Below w.heap.size w W → Calls Tryz.prog f #[a.val] W fun e w' => e = .returned (.bool pr) ∧ Below W.heap.size W w') → (∀ W, Below w.heap.size w W → Calls Tryz.prog g #[a.val] W fun e w' => e = .returned (.bool pa) ∧ Below W.heap.size W w') →
        pr = ownB a → pa = aloneB a → Calls Tryz.prog 44 #[a.val] w fun e w' => e = .returned (.bool (rightA a)) ∧ Below w.heap.size w w' := by
      intro f g t pr pa h1 h2 h3 h4 h5 h6 h7
      have := isRight_row a.name a.kind a.num a.text a.ia a.ints.length a.ic a.ta a.texts.length a.tc w f g t pr pa h1 h2 h3 h4 h5
      have e : (nameOf a.name.data.toList && (pr && pa)) = rightA a := by
        unfold rightA
        rw [h6, h7]
        simp [hk, Bool.and_assoc]
      rwa [e] at this
    rcases h6 with h | h | h | h | h | h
    · refine go _ _ _ _ _ (by rw [h]; rfl) (fun args w => callFunc_enters Tryz.func100 (by kernel_rfl) rfl args w) (fun args w => callFunc_enters Tryz.func101 (by kernel_rfl) rfl args w)
        (fun W _ => always_any _ _ _ _ _ _ _ _ _ _ W) (fun W _ => noText_any _ _ _ _ _ _ _ _ _ _ W) ?_ ?_
      · simp [ownB, h]
      · simp [aloneB, h]
    · refine go _ _ _ _ _ (by rw [h]; rfl) (fun args w => callFunc_enters Tryz.func103 (by kernel_rfl) rfl args w) (fun args w => callFunc_enters Tryz.func104 (by kernel_rfl) rfl args w)
        (fun W _ => isText_any _ _ _ _ _ _ _ _ _ _ W) (fun W _ => noNumber_any _ _ _ _ _ _ _ _ _ _ W) ?_ ?_
      · simp [ownB, h]
      · simp [aloneB, h]
    · refine go _ _ _ _ _ (by rw [h]; rfl) (fun args w => callFunc_enters Tryz.func106 (by kernel_rfl) rfl args w) (fun args w => callFunc_enters Tryz.func104 (by kernel_rfl) rfl args w)
        (fun W _ => isSymbol_any _ _ _ _ _ _ _ _ _ _ W) (fun W _ => noNumber_any _ _ _ _ _ _ _ _ _ _ W) ?_ ?_
      · simp [ownB, h]
      · simp [aloneB, h]
    · refine go _ _ _ _ _ (by rw [h]; rfl) (fun args w => callFunc_enters Tryz.func108 (by kernel_rfl) rfl args w) (fun args w => callFunc_enters Tryz.func104 (by kernel_rfl) rfl args w)
        (fun W _ => isType_any _ _ _ _ _ _ _ _ _ _ W hx) (fun W _ => noNumber_any _ _ _ _ _ _ _ _ _ _ W) ?_ ?_
      · simp [ownB, h]
      · simp [aloneB, h]
    · refine go _ _ _ _ _ (by rw [h]; rfl) (fun args w => callFunc_enters Tryz.func110 (by kernel_rfl) rfl args w) (fun args w => callFunc_enters Tryz.func111 (by kernel_rfl) rfl args w)
        (fun W _ => isInts_any _ _ _ _ _ _ _ _ _ _ W) (fun W _ => noneOf_any _ _ _ _ _ _ _ _ _ _ W) ?_ ?_
      · rw [h100, ht]; simp [ownB, h]
      · simp [aloneB, h]
    · refine go _ _ _ _ _ (by rw [h]; rfl) (fun args w => callFunc_enters Tryz.func113 (by kernel_rfl) rfl args w) (fun args w => callFunc_enters Tryz.func111 (by kernel_rfl) rfl args w)
        (fun W hb => isTypes_any _ _ _ _ _ _ _ _ _ W a.texts (hl.texts.below hb) hn hf.textsC hq) (fun W _ => noneOf_any _ _ _ _ _ _ _ _ _ _ W) ?_ ?_
      · rw [join_ok, hi]; simp [ownB, h]
      · simp [aloneB, h]
  · have e : rightA a = false := by unfold rightA; simp [hk]
    rw [e]
    exact isRight_no _ _ _ _ _ _ _ _ _ _ w (kindRow_no hk)
end Go.Proofs.YtmepjbjmjbpchaaGreatDoor
end
section
/- The reference of types: numbers. -/
namespace Go.Proofs.YtmepjbjmjbpchaaGreatDoor
open Go Go.RowKit Go.Sort
set_option linter.unusedVariables false
set_option linter.unusedSimpArgs false

/-- `Num`. -/
def rnumOf (l : List UInt8) : Option Nat :=
  if l = [] ∨ 9 < l.length ∨ (1 < l.length ∧ l.head? = some 48) then none else numFrom l 0
theorem numFrom_ge : ∀ (l : List UInt8) (n N : Nat), numFrom l n = some N → n * 10 ^ l.length ≤ N
  | [], n, N, h => by simp [numFrom] at h; simp; omega
  | c :: l, n, N, h => by
    simp only [numFrom] at h
    split at h
    · have := numFrom_ge l _ _ h
      rw [List.length_cons, Nat.pow_succ]
      have h2 : 10 * n * 10 ^ l.length ≤ (10 * n + (c.toNat - 48)) * 10 ^ l.length := Nat.mul_le_mul_right _ (by omega)
      rw [Nat.mul_comm (10 ^ l.length) 10, ← Nat.mul_assoc, Nat.mul_comm n 10]
      omega
    · cases h
theorem rnum_small {l : List UInt8} {n : Nat} (h : n ≤ 1000) : rnumOf l = some n ↔ numOf l = some n := by
  unfold rnumOf numOf
  by_cases h9 : l.length = 9
  · rw [if_pos (c := l = [] ∨ 8 < l.length ∨ _) (.inr (.inl (by omega)))]
    constructor
    · intro hn
      split at hn
      · cases hn
      · rename_i hc
        match l, h9, hc, hn with
        | c :: l, h9, hc, hn =>
          simp only [numFrom] at hn
          split at hn
          · rename_i hr
            have hl8 : l.length = 8 := by simpa using h9
            have hc48 : c ≠ 48 := fun he => hc (.inr (.inr ⟨by simp; omega, by simp [he]⟩))
            have hcn : c.toNat ≠ 48 := fun he => hc48 (UInt8.toNat_inj.1 (by simpa using he))
            have := numFrom_ge l _ _ hn
            rw [hl8] at this
            omega
          · cases hn
    · intro hn; cases hn
  · have h98 : (9 < l.length) = (8 < l.length) := by rw [eq_iff_iff]; omega
    simp only [h98]

def RNumPost (l : List UInt8) (m : Int) (w : World) (e : Ending) (w' : World) : Prop := e = .returned (numRes (rnumOf l) m) ∧ w = w'
theorem rnum_stop {s : ByteArray} {pos acc : Nat} (h : pos < s.size) (hd : Hid (s.data.toList.drop pos = s[pos]'h :: s.data.toList.drop (pos + 1)))
    (Hr : Hid (numFrom (s.data.toList.drop pos) acc = rnumOf s.data.toList)) (hb : ((s[pos]'h).toNat : Int) < 48 ∨ 57 < ((s[pos]'h).toNat : Int)) : rnumOf s.data.toList = none := by
  rw [← Hr.out, hd.out, numFrom, if_neg (by omega)]
theorem rnum_more {s : ByteArray} {pos acc : Nat} (h : pos < s.size) (hd : Hid (s.data.toList.drop pos = s[pos]'h :: s.data.toList.drop (pos + 1)))
    (Hr : Hid (numFrom (s.data.toList.drop pos) acc = rnumOf s.data.toList)) (hb : 48 ≤ ((s[pos]'h).toNat : Int) ∧ ((s[pos]'h).toNat : Int) ≤ 57) : numFrom (s.data.toList.drop (pos + 1)) (10 * acc + ((s[pos]'h).toNat - 48)) = rnumOf s.data.toList := by
  rw [← Hr.out, hd.out, numFrom, if_pos (by omega)]
theorem rnumPost_none {l : List UInt8} {m : Int} {w w' : World} (h : rnumOf l = none) (hb : w = w') :
    RNumPost l m w (.returned (.tuple #[.int .i64 0, .bool false])) w' := ⟨by rw [h]; rfl, hb⟩
theorem rnumPost_some {l : List UInt8} {m : Int} {n : Nat} {w w' : World} (h : rnumOf l = some n) (hb : w = w') :
    RNumPost l m w (.returned (.tuple #[.int .i64 n, .bool (decide ((n : Int) ≤ m))])) w' := ⟨by rw [h]; rfl, hb⟩

set_option maxHeartbeats 1000000 in
theorem rnum_loop (s : ByteArray) (m : Int) (w : World) (h1 : 0 < s.size) (h2 : s.size ≤ 9) (h3 : s.data.toList.head? = some 48 → s.size = 1) :
    Calls Tryz.prog 88 #[.string s, .int .i64 m] w (RNumPost s.data.toList m w) := by
  have hl : s.data.toList.length = s.size := by simp
  have hn : rnumOf s.data.toList = numFrom s.data.toList 0 := by
    unfold rnumOf; rw [if_neg]; rintro (h | h | ⟨h, h'⟩)
    · rw [h] at hl; simp at hl; omega
    · omega
    · have := h3 h'; omega
  have hne : s.toList.isEmpty = false := by
    rw [List.isEmpty_eq_false_iff]; intro h; rw [toList_nil_iff] at h; rw [h] at hl; simp at hl; omega
  have h48 : 1 < s.size → ((((s[0]'h1).toNat : Int)) == 48) = false := by
    intro h; rw [beq_eq_false_iff_ne]; intro h'
    have := data_get s 0 h1
    rw [List.drop_zero] at this
    have := h3 (by rw [this]; simp; exact UInt8.toNat_inj.1 (by simp; omega))
    omega
  have HN := Lib.hid hn; clear hn hl
  have key : ∀ (b1 : s.size ≤ 1 ∨ 1 < s.size), Calls Tryz.prog 88 #[.string s, .int .i64 m] w (RNumPost s.data.toList m w) := by
    intro b1
    rcases b1 with b1 | b1
    all_goals
      first
        | (have hb : ((1 : Int) < (s.size : Int)) = False := by simp; omega)
        | (have h0 := h48 b1)
      clear h48 h3
      go_enter Tryz.func88, Tryz.ntmps88
      go_wp2_with fail
      go_loop [6, 7] (fun n i => ∃ (pos acc : Nat), pos ≤ s.size ∧ i = .int .i64 pos ∧ n = .int .i64 acc ∧ acc < 10 ^ pos ∧ numFrom (s.data.toList.drop pos) acc = rnumOf s.data.toList) (fun _ i => s.size - (intOf i).toNat)
      case atStart => exact ⟨0, 0, by omega, rfl, rfl, by simp, by rw [HN.out]; rfl⟩
      case round =>
        obtain ⟨pos, acc, hp, rfl, rfl, hacc, hrest⟩ := hrel
        have Hr := Lib.hid hrest
        have hacc8 : acc < 1000000000 := Nat.lt_of_lt_of_le hacc (Nat.le_trans (Nat.pow_le_pow_right (by omega) (show pos ≤ 9 by omega)) (by decide))
        have Hacc := Lib.hid hacc
        clear hrest hacc
        rcases Nat.lt_or_ge pos s.size with hlt | hge
        · have hd := Lib.hid (data_get s pos hlt)
          obtain ⟨c, hc⟩ : ∃ c, c = s[pos]'hlt := ⟨_, rfl⟩
          have hcases : (((s[pos]'hlt).toNat : Int) < 48) ∨ (57 < ((s[pos]'hlt).toNat : Int)) ∨ (48 ≤ ((s[pos]'hlt).toNat : Int) ∧ ((s[pos]'hlt).toNat : Int) ≤ 57) := by omega
          clear hc
          rcases hcases with h | h | ⟨h, h'⟩
          · go_wp2_with fail
            all_goals (go_ret2; exact rnumPost_none (rnum_stop hlt hd Hr (by omega)) rfl)
          · go_wp2_with fail
            all_goals (go_ret2; exact rnumPost_none (rnum_stop hlt hd Hr (by omega)) rfl)
          · go_wp2_with fail
            go_round
            case rel =>
              refine ⟨pos + 1, 10 * acc + ((s[pos]'hlt).toNat - 48), by omega, by go_num, by go_num, ?_, rnum_more hlt hd Hr ⟨by omega, by omega⟩⟩
              have := Hacc.out
              rw [Nat.pow_succ]; omega
            case measure => simp [intOf]; omega
        · have hpe : pos = s.size := by omega
          subst hpe
          go_wp2_with fail
          all_goals (go_ret2; exact rnumPost_some (by rw [← Hr.out, List.drop_of_length_le (by simp)]; rfl) rfl)
  exact key (by omega)
theorem rnum_any (s : ByteArray) (m : Int) (w : World) :
    Calls Tryz.prog 88 #[.string s, .int .i64 m] w (RNumPost s.data.toList m w) := by
  have hl : s.data.toList.length = s.size := by simp
  by_cases hc : s.data.toList = [] ∨ 9 < s.data.toList.length ∨ (1 < s.data.toList.length ∧ s.data.toList.head? = some 48)
  · have hn : rnumOf s.data.toList = none := by unfold rnumOf; rw [if_pos hc]
    have HN := Lib.hid hn; clear hn
    have hr : ∀ e w', e = .returned (.tuple #[.int .i64 0, .bool false]) → w = w' → RNumPost s.data.toList m w e w' := fun e w' h1 h2 => by subst h1; exact rnumPost_none HN.out h2
    have hc2 : s.toList.isEmpty = true ∨ (s.toList.isEmpty = false ∧ 9 < s.size) ∨ (s.toList.isEmpty = false ∧ 1 < s.size ∧ s.size ≤ 9 ∧ ∃ h : 0 < s.size, ((((s[0]'h).toNat : Int)) == 48) = true) := by
      rw [hl] at hc
      by_cases h : s.toList = []
      · exact .inl (by rw [h]; rfl)
      · right
        have h' : s.toList.isEmpty = false := by rw [List.isEmpty_eq_false_iff]; exact h
        rw [toList_nil_iff] at h
        rcases hc with hc | hc | ⟨hc, hc'⟩
        · exact absurd hc h
        · exact .inl ⟨h', hc⟩
        · by_cases h8 : 9 < s.size
          · exact .inl ⟨h', h8⟩
          · refine .inr ⟨h', hc, by omega, by omega, ?_⟩
            have := data_get s 0 (by omega)
            rw [List.drop_zero] at this
            rw [this] at hc'
            simp at hc'
            rw [hc']; decide
    clear hc hl
    rcases hc2 with h | ⟨h, h8⟩ | ⟨h, h1, h8, hp, h0⟩
    all_goals
      go_enter Tryz.func88, Tryz.ntmps88
      go_wp2_with fail
      all_goals (go_ret2; exact hr _ _ rfl rfl)
  · have h1 : 0 < s.size := by
      rcases Nat.eq_zero_or_pos s.size with h | h
      · exact absurd (.inl (List.length_eq_zero_iff.1 (by omega))) hc
      · exact h
    exact rnum_loop s m w h1 (by omega) (fun h => by
      rcases Nat.lt_or_ge 1 s.size with h' | h'
      · exact absurd (.inr (.inr ⟨by omega, h⟩)) hc
      · omega)
end Go.Proofs.YtmepjbjmjbpchaaGreatDoor
end
section
/- The reference of types: number types, digits. -/
namespace Go.Proofs.YtmepjbjmjbpchaaGreatDoor
open Go Go.RowKit Go.Sort
set_option linter.unusedVariables false
set_option linter.unusedSimpArgs false

theorem elemOf_index : elemOf [105, 110, 100, 101, 120] = some ⟨1, 64, []⟩ := by rfl
theorem elemOf_i {l : List UInt8} (h : 105 :: l ≠ [105, 110, 100, 101, 120]) : elemOf (105 :: l) = match numOf l with | some n => if 0 < n ∧ n ≤ 64 then some ⟨0, n, []⟩ else none | none => none := by
  unfold elemOf; rw [if_neg h]; rfl
theorem elemOf_other {c : UInt8} {l : List UInt8} (h : c ≠ 105) : elemOf (c :: l) = none := by
  unfold elemOf
  rw [if_neg (by intro he; cases he; exact h rfl), if_neg]
  simp [Lib.hasPrefix, List.isPrefixOf, Ne.symm h]
/-- `number`: bits, whether it is the index type, whether it is a number type. -/
def NumTPost (l : List UInt8) (w : World) (e : Ending) (w' : World) : Prop :=
  w = w' ∧ match elemOf l with
  | some q => e = .returned (.tuple #[.int .i64 q.bits, .bool (q.kind == 1), .bool true])
  | none => ∃ v : Int, e = .returned (.tuple #[.int .i64 v, .bool false, .bool false])
theorem numT_yes {l : List UInt8} {w w' : World} {e : Ending} {q : Pd} (hw : w = w') (h : elemOf l = some q) (he : e = .returned (.tuple #[.int .i64 q.bits, .bool (q.kind == 1), .bool true])) : NumTPost l w e w' := ⟨hw, by rw [h]; exact he⟩
theorem numT_no {l : List UInt8} {w w' : World} {e : Ending} (v : Int) (hw : w = w') (h : elemOf l = none) (he : e = .returned (.tuple #[.int .i64 v, .bool false, .bool false])) : NumTPost l w e w' := ⟨hw, by rw [h]; exact ⟨v, he⟩⟩

set_option maxRecDepth 100000 in
set_option maxHeartbeats 1000000 in
theorem numT_any (s : ByteArray) (w : World) : Calls Tryz.prog 86 #[.string s] w (NumTPost s.data.toList w) := by
  have hl : s.data.toList.length = s.size := by simp
  by_cases hi : s.data.toList = [105, 110, 100, 101, 120]
  · have hs : s = ⟨#[105, 110, 100, 101, 120]⟩ := ByteArray.ext (by rw [← Array.toList_inj, hi])
    subst hs
    clear hl hi
    go_enter Tryz.func86, Tryz.ntmps86
    go_wp2_with fail
    go_ret3
    exact numT_yes rfl elemOf_index rfl
  · have hne : (s.toList == [105, 110, 100, 101, 120]) = false := by
      rw [beq_eq_false_iff_ne, ByteArray.toList_eq]; exact hi
    by_cases h0 : s.toList = []
    · have he : s.toList.isEmpty = true := by rw [h0]; rfl
      have hn : elemOf s.data.toList = none := by rw [(toList_nil_iff s).1 h0]; rfl
      have HN := Lib.hid hn
      clear hl hi hn h0
      go_enter Tryz.func86, Tryz.ntmps86
      go_wp2_with fail
      go_ret3
      exact numT_no 0 rfl HN.out rfl
    · have he : s.toList.isEmpty = false := by rw [List.isEmpty_eq_false_iff]; exact h0
      have h1 : 0 < s.size := by
        rcases Nat.eq_zero_or_pos s.size with h | h
        · exact absurd ((toList_nil_iff s).2 (List.length_eq_zero_iff.1 (by omega))) h0
        · exact h
      have hd := data_get s 0 h1
      rw [List.drop_zero] at hd
      by_cases hc : s[0]'h1 = 105
      · have hcn : ((s[0]'h1).toNat : Int) = 105 := by rw [hc]; rfl
        have hd1 : s.data.toList = 105 :: s.data.toList.drop 1 := by rw [hd, hc]; rfl
        have hel := elemOf_i (l := s.data.toList.drop 1) (by rw [← hd1]; exact hi)
        rw [← hd1] at hel
        have hex : (s.extract 1 s.size).data.toList = s.data.toList.drop 1 := by
          simp [ByteArray.data_extract]
          exact List.take_of_length_le (by simp)
        have HEX := Lib.hid hex
        have HEL := Lib.hid hel
        have hq1 : (1 : Int) ≤ (s.size : Int) := by omega
        clear hl hi hd hc hd1 hel hex h0
        cases hr : rnumOf (s.data.toList.drop 1) with
        | none =>
          have hno : elemOf s.data.toList = none := by
            rw [HEL.out]
            cases hn : numOf (s.data.toList.drop 1) with
            | none => rfl
            | some n =>
              dsimp only
              rw [if_neg]
              intro ⟨h1, h2⟩
              have := (rnum_small (l := s.data.toList.drop 1) (n := n) (by omega)).2 hn
              rw [hr] at this; cases this
          have HR := Lib.hid hr
          have HNO := Lib.hid hno
          clear hr hno
          go_enter Tryz.func86, Tryz.ntmps86
          go_wp2_with (go_at_call 88; refine (rnum_any _ _ _).mono ?_; rintro e w' ⟨rfl, rfl⟩; rw [HEX.out, HR.out]; (simp only [numRes]))
          go_ret3
          exact numT_no 0 rfl HNO.out rfl
        | some n =>
          by_cases hn : 0 < n ∧ n ≤ 64
          · have hyes : elemOf s.data.toList = some ⟨0, n, []⟩ := by
              rw [HEL.out, (rnum_small (by omega)).1 hr]
              dsimp only
              rw [if_pos hn]
            have HR := Lib.hid hr
            have HY := Lib.hid hyes
            have hn1 : (1 : Int) ≤ (n : Int) := by omega
            have hn2 : (n : Int) ≤ 64 := by omega
            clear hr hyes
            go_enter Tryz.func86, Tryz.ntmps86
            go_wp2_with (go_at_call 88; refine (rnum_any _ _ _).mono ?_; rintro e w' ⟨rfl, rfl⟩; rw [HEX.out, HR.out]; (simp only [numRes]))
            go_ret3
            exact numT_yes rfl HY.out (by simp [hn1, hn2])
          · have hno : elemOf s.data.toList = none := by
              rw [HEL.out]
              cases hm : numOf (s.data.toList.drop 1) with
              | none => rfl
              | some m =>
                dsimp only
                rw [if_neg]
                intro ⟨h1, h2⟩
                have := (rnum_small (l := s.data.toList.drop 1) (n := m) (by omega)).2 hm
                rw [hr] at this; cases this
                exact hn ⟨h1, h2⟩
            have HR := Lib.hid hr
            have HNO := Lib.hid hno
            have hn12 : ((n : Int) < 1 ∧ (n : Int) ≤ 64) ∨ (1 ≤ (n : Int) ∧ 64 < (n : Int)) := by omega
            clear hr hno
            rcases hn12 with ⟨h3, h4⟩ | ⟨h3, h4⟩
            all_goals
              go_enter Tryz.func86, Tryz.ntmps86
              go_wp2_with (go_at_call 88; refine (rnum_any _ _ _).mono ?_; rintro e w' ⟨rfl, rfl⟩; rw [HEX.out, HR.out]; (simp only [numRes]))
              go_ret3
              exact numT_no n rfl HNO.out (by simp [h3, h4]; try omega)
      · have hcn : ¬ ((s[0]'h1).toNat : Int) = 105 := by
          intro h; exact hc (UInt8.toNat_inj.1 (by simp; omega))
        have hno : elemOf s.data.toList = none := by rw [hd]; exact elemOf_other hc
        have HNO := Lib.hid hno
        clear hl hi hd hc h0 hno
        go_enter Tryz.func86, Tryz.ntmps86
        go_wp2_with fail
        go_ret3
        exact numT_no 0 rfl HNO.out rfl

end Go.Proofs.YtmepjbjmjbpchaaGreatDoor
end
section
/- The reference of types: names, and two names with a point between. -/
namespace Go.Proofs.YtmepjbjmjbpchaaGreatDoor
open Go Go.RowKit Go.Sort
set_option linter.unusedVariables false
set_option linter.unusedSimpArgs false

theorem isWord_cases (c : UInt8) : isWord c = true ↔ (97 ≤ (c.toNat : Int) ∧ (c.toNat : Int) ≤ 122) ∨ (48 ≤ (c.toNat : Int) ∧ (c.toNat : Int) ≤ 57) ∨ (c.toNat : Int) = 95 := by
  simp [isWord, isLet]; omega
set_option maxHeartbeats 1000000 in
theorem risName_any (s : ByteArray) (w : World) :
    Calls Tryz.prog 37 #[.string s] w (BoolPost (nameOf s.data.toList) w) := by
  have hl : s.data.toList.length = s.size := by simp
  by_cases h0 : s.toList = []
  · have hf := Lib.hid (nameOf_empty (l := s.data.toList) (by rw [← toList_nil_iff]; exact h0))
    have h0' : s.toList.isEmpty = true := by rw [h0]; rfl
    clear h0 hl
    go_enter Tryz.func37, Tryz.ntmps37
    go_wp2_with fail
    all_goals (go_ret; exact ⟨by rw [hf.out]; rfl, rfl⟩)
  have h0' : s.toList.isEmpty = false := by rw [List.isEmpty_eq_false_iff]; exact h0
  have hpos : 0 < s.size := by
    rcases Nat.eq_zero_or_pos s.size with h | h
    · exact absurd ((toList_nil_iff s).2 (List.length_eq_zero_iff.1 (by omega))) h0
    · exact h
  rcases Nat.lt_or_ge 60 s.size with h60 | h60
  · have hf := Lib.hid (nameOf_long (l := s.data.toList) (by omega))
    clear h0 hl
    go_enter Tryz.func37, Tryz.ntmps37
    go_wp2_with fail
    all_goals (go_ret; exact ⟨by rw [hf.out]; rfl, rfl⟩)
  have hhd : s.data.toList.head? = some (s[0]'hpos) := by rw [List.head?_eq_getElem?]; exact bytes_get s 0 hpos
  have hcs : ((s[0]'hpos).toNat : Int) < 97 ∨ (97 ≤ ((s[0]'hpos).toNat : Int) ∧ 122 < ((s[0]'hpos).toNat : Int)) ∨ (97 ≤ ((s[0]'hpos).toNat : Int) ∧ ((s[0]'hpos).toNat : Int) ≤ 122) := by omega
  have hnl : (((s[0]'hpos).toNat : Int) < 97 ∨ 122 < ((s[0]'hpos).toNat : Int)) → nameOf s.data.toList = false := fun h => nameOf_first hhd (by simp [isLet]; omega)
  have hyl : (97 ≤ ((s[0]'hpos).toNat : Int) ∧ ((s[0]'hpos).toNat : Int) ≤ 122) → isLet (s[0]'hpos) = true := fun h => by simp [isLet]; omega
  have HNL := Lib.hid hnl
  have HYL := Lib.hid hyl
  have Hhd := Lib.hid hhd
  have hget0 := Lib.hid (bytes_get s 0 hpos)
  clear h0 hl hhd hnl hyl
  rcases hcs with h | ⟨h, h'⟩ | ⟨h, h'⟩
  · go_enter Tryz.func37, Tryz.ntmps37
    go_wp2_with fail
    all_goals (go_ret; exact ⟨by rw [HNL.out (.inl h)]; rfl, rfl⟩)
  · go_enter Tryz.func37, Tryz.ntmps37
    go_wp2_with fail
    all_goals (go_ret; exact ⟨by rw [HNL.out (.inr h')]; rfl, rfl⟩)
  · have hlet := Lib.hid (HYL.out ⟨h, h'⟩)
    go_enter Tryz.func37, Tryz.ntmps37
    go_wp2_with fail
    go_loop [3] (fun i => ∃ k : Nat, 1 ≤ k ∧ k ≤ s.size ∧ i = .int .i64 k ∧ (s.data.toList.take k).all isWord = true) (fun i => s.size - (intOf i).toNat)
    case atStart => exact ⟨1, Nat.le_refl _, hpos, rfl, by rw [show (1 : Nat) = 0 + 1 from rfl, take_word hget0.out]; simp [isWord, hlet.out]⟩
    case round =>
      obtain ⟨k, hk1, hk, rfl, hall⟩ := hrel
      have Hall := Lib.hid hall; clear hall
      rcases Nat.lt_or_ge k s.size with hlt | hge
      · have hget := Lib.hid (bytes_get s k hlt)
        have hw := Lib.hid (isWord_cases (s[k]'hlt))
        go_wp2_with fail
        all_goals (try simp only [Bool.not_eq_eq_eq_not, Bool.not_true, Bool.not_false, decide_eq_true_eq, decide_eq_false_iff_not, bne_iff_ne, bne_eq_false_iff_eq, beq_iff_eq, beq_eq_false_iff_ne] at *)
        all_goals first
          | (go_ret
             have hno : isWord (s[k]'hlt) = false := by
               rw [Bool.eq_false_iff]; intro he; have := hw.out.1 he; omega
             exact ⟨by rw [nameOf_bad hget.out hno]; rfl, rfl⟩)
          | (go_round
             case rel => exact ⟨k + 1, by omega, by omega, by go_num, by rw [take_word hget.out, Hall.out, hw.out.2 (by omega)]; rfl⟩
             case measure => simp [intOf]; omega)
      · go_wp2_with fail
        all_goals
          (go_ret
           exact ⟨by
            have h1 : nameOf s.data.toList = true := by
              have := Hall.out
              rw [List.take_of_length_le (by simp; omega)] at this
              have h60' : s.data.toList.length ≤ 60 := by simpa using h60
              simp [nameOf, this, Hhd.out, hlet.out]
              constructor
              · intro hn; rw [hn] at Hhd; have := Hhd.out; simp at this
              · simpa using h60'
            rw [h1]; rfl, rfl⟩)

/-- `IsPair`. -/
def pairOf (l : List UInt8) (most : Nat) : Bool :=
  decide (l.length ≤ most) && match cutOf 46 l with
  | some (x, y) => nameOf x && nameOf y
  | none => false
theorem cutOf_take : ∀ (l : List UInt8) (c : UInt8) (k : Nat), (∀ x ∈ l.take k, x ≠ c) → (∀ x, l[k]? = some x → x = c) → cutOf c l = if k < l.length then some (l.take k, l.drop (k + 1)) else none
  | [], c, k, _, _ => by simp [cutOf]
  | b :: l, c, 0, _, h => by
    have := h b (by simp)
    simp [cutOf, this]
  | b :: l, c, k + 1, h1, h2 => by
    have hb : b ≠ c := h1 b (by simp)
    have ih := cutOf_take l c k (fun x hx => h1 x (by simp [hx])) (fun x hx => h2 x (by simpa using hx))
    simp only [cutOf, if_neg hb, ih, List.length_cons, Nat.add_lt_add_iff_right]
    split <;> simp
theorem pair_found {l : List UInt8} {k most : Nat} (h1 : ∀ x ∈ l.take k, x ≠ 46) (h2 : l[k]? = some 46) (hm : l.length ≤ most) : pairOf l most = (nameOf (l.take k) && nameOf (l.drop (k + 1))) := by
  have hk : k < l.length := by
    rcases Nat.lt_or_ge k l.length with h | h
    · exact h
    · rw [List.getElem?_eq_none h] at h2; cases h2
  rw [pairOf, cutOf_take l 46 k h1 (fun x hx => by rw [h2] at hx; exact (Option.some.inj hx).symm), if_pos hk]
  simp [hm]
theorem pair_none {l : List UInt8} {most : Nat} (h1 : ∀ x ∈ l, x ≠ 46) : pairOf l most = false := by
  rw [pairOf, cutOf_take l 46 l.length (by simpa using h1) (by simp), if_neg (Nat.lt_irrefl _)]
  simp
theorem take_ne {l : List UInt8} {k : Nat} {c d : UInt8} (h : ∀ x ∈ l.take k, x ≠ d) (hk : l[k]? = some c) (hc : c ≠ d) : ∀ x ∈ l.take (k + 1), x ≠ d := by
  intro x hx
  rw [List.take_add_one, hk] at hx
  simp at hx
  rcases hx with hx | rfl
  · exact h x hx
  · exact hc
theorem byte_ne {c : UInt8} (n : Nat) (hn : n < 256) (h : ¬ (c.toNat : Int) = (n : Int)) : c ≠ UInt8.ofNat n := by
  intro he; apply h; rw [he, UInt8.toNat_ofNat']; omega
theorem byte_eq {c : UInt8} (n : Nat) (hn : n < 256) (h : (c.toNat : Int) = (n : Int)) : c = UInt8.ofNat n := by
  apply UInt8.toNat_inj.1; rw [UInt8.toNat_ofNat']; omega

set_option maxHeartbeats 1000000 in
theorem risPair_any (s : ByteArray) (m : Nat) (hm : m ≤ 1000) (w : World) :
    Calls Tryz.prog 87 #[.string s, .int .i64 m] w (BoolPost (pairOf s.data.toList m) w) := by
  have hl : s.data.toList.length = s.size := by simp
  rcases Nat.lt_or_ge m s.size with hlt | hge
  · have hf : pairOf s.data.toList m = false := by simp [pairOf]; intro h; omega
    have HF := Lib.hid hf
    have hpos : (0 : Int) < (s.size : Int) := by omega
    clear hf hl
    go_enter Tryz.func87, Tryz.ntmps87
    go_wp2_with fail
    go_loop [5] (fun i => i = .int .i64 0) (fun i => 0)
    case atStart => rfl
    case round =>
      subst hrel
      go_wp2_with fail
      all_goals (go_ret; exact ⟨by rw [HF.out]; rfl, rfl⟩)
  · have hsz : s.size ≤ 1000 := by omega
    have HL := Lib.hid hl
    clear hl
    go_enter Tryz.func87, Tryz.ntmps87
    go_wp2_with fail
    go_loop [5] (fun i => ∃ k : Nat, k ≤ s.size ∧ i = .int .i64 k ∧ ∀ x ∈ s.data.toList.take k, x ≠ 46) (fun i => s.size - (intOf i).toNat)
    case atStart => exact ⟨0, Nat.zero_le _, rfl, by simp⟩
    case round =>
      obtain ⟨k, hk, rfl, hall⟩ := hrel
      have Hall := Lib.hid hall; clear hall
      rcases Nat.lt_or_ge k s.size with hlt | hge2
      · have hget := Lib.hid (bytes_get s k hlt)
        by_cases hc : ((s[k]'hlt).toNat : Int) = 46
        · have hp : pairOf s.data.toList m = (nameOf (s.extract 0 k).data.toList && nameOf (s.extract (k + 1) s.size).data.toList) := by
            rw [pair_found (k := k) Hall.out (by rw [hget.out, byte_eq 46 (by omega) hc]; rfl) (by rw [HL.out]; omega)]
            congr 2
            · simp [ByteArray.data_extract]
            · simp [ByteArray.data_extract]
              exact (List.take_of_length_le (by simp)).symm
          have HP := Lib.hid hp
          have hb : (((s[k]'hlt).toNat : Int) == 46) = true := by rw [hc]; rfl
          have hk1 : wrap64 ((k : Int) + 1) = (k : Int) + 1 := by unfold wrap64; omega
          have hk2 : (k : Int) + 1 ≤ (s.size : Int) := by omega
          clear hp hc
          cases hn1 : nameOf (s.extract 0 k).data.toList
          · have HN1 := Lib.hid hn1
            clear hn1
            go_wp2_with (go_at_call 37; refine (risName_any _ _).mono ?_; rintro e w1 ⟨rfl, rfl⟩; rw [HN1.out])
            go_ret
            exact ⟨by rw [HP.out, HN1.out]; rfl, rfl⟩
          · have HN1 := Lib.hid hn1
            clear hn1
            go_wp2_with fail
            refine (risName_any _ _).mono ?_
            rintro e w1 ⟨rfl, rfl⟩
            rw [HN1.out]
            obtain ⟨b2, hb2⟩ : ∃ b, nameOf (s.extract (k + 1) s.size).data.toList = b := ⟨_, rfl⟩
            have HB2 := Lib.hid hb2
            clear hb2
            go_wp2_with fail
            refine (risName_any _ _).mono ?_
            rintro e w1 ⟨rfl, rfl⟩
            rw [HB2.out]
            go_wp2_with fail
            go_ret
            exact ⟨by rw [HP.out, HN1.out, HB2.out]; simp, rfl⟩
        · have hb : (((s[k]'hlt).toNat : Int) == 46) = false := by rw [beq_eq_false_iff_ne]; exact hc
          have hne := Lib.hid (byte_ne (c := s[k]'hlt) 46 (by omega) hc)
          clear hc
          go_wp2_with fail
          go_round
          case rel => exact ⟨k + 1, by omega, by go_num, take_ne Hall.out hget.out hne.out⟩
          case measure => simp [intOf]; omega
      · have hn : pairOf s.data.toList m = false := pair_none (by have := Hall.out; rw [List.take_of_length_le (by simp; omega)] at this; exact this)
        have HN := Lib.hid hn
        clear hn
        go_wp2_with fail
        all_goals (go_ret; exact ⟨by rw [HN.out]; rfl, rfl⟩)
end Go.Proofs.YtmepjbjmjbpchaaGreatDoor
end
section
/- Package types: the parts of a type with cells; ranges. -/
namespace Go.Proofs.YtmepjbjmjbpchaaGreatDoor
open Go Go.RowKit
set_option linter.unusedVariables false
set_option linter.unusedSimpArgs false

/-- The element type of a type with cells. -/
def elStr (b : Nat) : List UInt8 := if b = 0 then [105, 110, 100, 101, 120] else 105 :: Lib.decDigits b

section
variable (k : Int) (b : Nat) (r x y z : Int) (w : World)
end
end Go.Proofs.YtmepjbjmjbpchaaGreatDoor
end
