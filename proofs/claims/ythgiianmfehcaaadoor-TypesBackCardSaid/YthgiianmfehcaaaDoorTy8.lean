/- Package types: types.asked, and what is told of a type that was read. -/
import Derived.Test.YthgiianmfehcaaaDoorTy7
namespace Go.Proofs.YthgiianmfehcaaaDoor
open Go Go.RowKit
set_option linter.unusedVariables false
set_option linter.unusedSimpArgs false

theorem read_any (s : ByteArray) (w : World) (hs : s.size ≤ 140737488355328) :
    Calls Tryd.prog 74 #[.string s] w (ReadPost s.data.toList w) := by
  cases h : elemOf s.data.toList with
  | some q => exact read_elem s q w h
  | none =>
    cases h2 : Lib.hasSuffix s.data.toList [62] with
    | true => exact read_suffix s w hs h h2
    | false => exact read_foreign s w hs h h2

/-- `types.asked` with a property of the kind: what was read, and the error's number. -/
def askOf (P : Nat → Bool) (l : List UInt8) : Pd × Nat :=
  match readOf l with
  | none => (⟨0, 0, []⟩, 10)
  | some q => if P q.kind then (q, 0) else (⟨0, 0, []⟩, 1)

set_option maxRecDepth 100000 in
set_option maxHeartbeats 2000000 in
theorem asked_any (P : Nat → Bool) (f : Nat) (hin : ∀ args w, (callFunc f args).run Tryd.prog w = .ok (.enter f args) w) (hf : ∀ (k : Nat) (b r x y z : Int) (w : World), Calls Tryd.prog f #[pv k b r x y z] w fun e w' => e = .returned (.bool (P k)) ∧ Below w.heap.size w w')
    (s : ByteArray) (w : World) (hs : s.size ≤ 140737488355328) :
    Calls Tryd.prog 45 #[.string s, .func (.func f) #[] #[]] w fun e w' => e = .returned (.tuple #[(askOf P s.data.toList).1.val, .int .i64 (askOf P s.data.toList).2]) ∧ Below w.heap.size w w' := by
  cases h : readOf s.data.toList with
  | none =>
    have ha : askOf P s.data.toList = (⟨0, 0, []⟩, 10) := by unfold askOf; rw [h]
    rw [ha]
    have H := Lib.hid h
    clear h ha hf hin
    go_enter Tryd.func45, Tryd.ntmps45
    go_wp2_with (go_at_call 74; refine (read_any _ _ hs).mono ?_; rintro e w1 ⟨⟨pk, pb, pe⟩, -, -, rfl, hb1⟩; rw [H.out]; (simp only [Pd.val, Option.isSome]); have hz : w.heap.size < w1.heap.size := (by have := hb1.size; simp at this; omega); have c0 := rdCell hb1 w.heap.size (by simp); have f0 := rdFree hb1 w.heap.size (by simp))
    refine bodyPost_ret (v := .tuple #[.agg #[.int .i64 0, .int .i64 0, .int .i64 0, .int .i64 0, .int .i64 0, .int .i64 0], .int .i64 10]) (by simp [results, Tryd.results45, go_sem, c0, hz]) rfl ?_
    refine ⟨rfl, ?_⟩
    have hbw := below_own hb1
    repeat (with_reducible (first | exact hbw | refine below_set ?_ (Nat.le_refl _) _ _ | refine belowN ?_ _ | refine belowA ?_ _))
  | some q =>
    cases hp : P q.kind with
    | false =>
      have ha : askOf P s.data.toList = (⟨0, 0, []⟩, 1) := by unfold askOf; rw [h]; simp [hp]
      rw [ha]
      have H := Lib.hid h
      have HP := Lib.hid hp
      have HF := Lib.hid hf
      clear h ha hp hf
      go_enter Tryd.func45, Tryd.ntmps45
      go_wp2_with (first
        | (go_at_call 74; refine (read_any _ _ hs).mono ?_; rintro e w1 ⟨⟨pk, pb, pe⟩, h1, -, rfl, hb1⟩; (obtain rfl := h1 q H.out); rw [H.out]; (simp only [Pd.val, Option.isSome]); have hz : w.heap.size < w1.heap.size := (by have := hb1.size; simp at this; omega); have c0 := rdCell hb1 w.heap.size (by simp); have f0 := rdFree hb1 w.heap.size (by simp))
        | (refine (HF.out _ _ _ _ _ _ _).mono ?_; rintro e w2 ⟨rfl, hb2⟩; rw [HP.out]; have hz2 : w.heap.size < w2.heap.size := (by have := hb2.size; simp at this; omega); have hz3 : w1.heap.size < w2.heap.size := (by have := hb2.size; simp at this; omega); have c2 := rdCell hb2 w.heap.size (by simp; omega); have f2 := rdFree hb2 w.heap.size (by simp; omega)))
      refine bodyPost_ret (v := .tuple #[.agg #[.int .i64 0, .int .i64 0, .int .i64 0, .int .i64 0, .int .i64 0, .int .i64 0], .int .i64 1]) (by simp [results, Tryd.results45, go_sem, c0, c2, hz, hz2, hz3]) rfl ?_
      refine ⟨rfl, ?_⟩
      have hbw := (Below.alloc (below_own hb1) (Nat.le_of_lt hz) _).trans (hb2.mono (by simp; omega))
      repeat (with_reducible (first | exact hbw | refine below_set ?_ (Nat.le_refl _) _ _ | refine belowN ?_ _ | refine belowA ?_ _))
    | true =>
      have ha : askOf P s.data.toList = (q, 0) := by unfold askOf; rw [h]; simp [hp]
      rw [ha]
      have H := Lib.hid h
      have HP := Lib.hid hp
      have HF := Lib.hid hf
      clear h ha hp hf
      go_enter Tryd.func45, Tryd.ntmps45
      go_wp2_with (first
        | (go_at_call 74; refine (read_any _ _ hs).mono ?_; rintro e w1 ⟨⟨pk, pb, pe⟩, h1, -, rfl, hb1⟩; (obtain rfl := h1 q H.out); rw [H.out]; (simp only [Pd.val, Option.isSome]); have hz : w.heap.size < w1.heap.size := (by have := hb1.size; simp at this; omega); have c0 := rdCell hb1 w.heap.size (by simp); have f0 := rdFree hb1 w.heap.size (by simp))
        | (refine (HF.out _ _ _ _ _ _ _).mono ?_; rintro e w2 ⟨rfl, hb2⟩; rw [HP.out]; have hz2 : w.heap.size < w2.heap.size := (by have := hb2.size; simp at this; omega); have hz3 : w1.heap.size < w2.heap.size := (by have := hb2.size; simp at this; omega); have c2 := rdCell hb2 w.heap.size (by simp; omega); have f2 := rdFree hb2 w.heap.size (by simp; omega); have c3 := rdCell hb2 w1.heap.size (by simp); have f3 := rdFree hb2 w1.heap.size (by simp)))
      refine bodyPost_ret (v := .tuple #[Pd.val ⟨pk, pb, pe⟩, .int .i64 0]) (by simp [results, Tryd.results45, go_sem, c0, c2, hz, hz2, hz3, Pd.val]) rfl ?_
      refine ⟨rfl, ?_⟩
      have hbw := (Below.alloc (below_own hb1) (Nat.le_of_lt hz) _).trans (hb2.mono (by simp; omega))
      repeat (with_reducible (first | exact hbw | refine below_set ?_ (Nat.le_refl _) _ _ | refine belowN ?_ _ | refine belowA ?_ _))

theorem callFunc_enters {P : Program} {f : FuncId} {fn : Func} {c : Code} (hf : P.funcs[f]? = some fn) (hname : (fn.name == "runtime.NumGoroutine") = false) (hb : fn.body = some c) (args : Array Value) (w : World) :
    (callFunc f args).run P w = .ok (.enter f args) w := by
  have h1 : fn.name ≠ "runtime.NumGoroutine" := by simpa using hname
  simp [callFunc, hf, h1, hb]
theorem beq_cast (k n : Nat) : ((k : Int) == (n : Int)) = (k == n) := by rw [Bool.eq_iff_iff]; simp; omega
def askAny (l : List UInt8) : Pd × Nat := askOf (fun _ => true) l
def askNum (l : List UInt8) : Pd × Nat := askOf (fun k => k == 0 || k == 1) l
def askCel (l : List UInt8) : Pd × Nat := askOf (fun k => k == 2 || k == 3) l
section
variable (s : ByteArray) (w : World) (hs : s.size ≤ 140737488355328)
include hs
theorem asked_anything : Calls Tryd.prog 45 #[.string s, .func (.func 59) #[] #[]] w fun e w' => e = .returned (.tuple #[(askAny s.data.toList).1.val, .int .i64 (askAny s.data.toList).2]) ∧ Below w.heap.size w w' :=
  asked_any (fun _ => true) _ (fun args w => callFunc_enters Tryd.func59 (by kernel_rfl) rfl args w) (fun k b r x y z w => anything_any k b r x y z w) s w hs
theorem asked_numeric : Calls Tryd.prog 45 #[.string s, .func (.func 46) #[] #[]] w fun e w' => e = .returned (.tuple #[(askNum s.data.toList).1.val, .int .i64 (askNum s.data.toList).2]) ∧ Below w.heap.size w w' :=
  asked_any (fun k => k == 0 || k == 1) _ (fun args w => callFunc_enters Tryd.func46 (by kernel_rfl) rfl args w) (fun k b r x y z w => (numeric_any k b r x y z w).mono fun e w' ⟨he, hb⟩ => ⟨by rw [he, show ((k : Int) == 0) = (k == 0) from beq_cast k 0, show ((k : Int) == 1) = (k == 1) from beq_cast k 1], hb⟩) s w hs
theorem asked_celled : Calls Tryd.prog 45 #[.string s, .func (.func 61) #[] #[]] w fun e w' => e = .returned (.tuple #[(askCel s.data.toList).1.val, .int .i64 (askCel s.data.toList).2]) ∧ Below w.heap.size w w' :=
  asked_any (fun k => k == 2 || k == 3) _ (fun args w => callFunc_enters Tryd.func61 (by kernel_rfl) rfl args w) (fun k b r x y z w => (celled_any k b r x y z w).mono fun e w' ⟨he, hb⟩ => ⟨by rw [he, show ((k : Int) == 2) = (k == 2) from beq_cast k 2, show ((k : Int) == 3) = (k == 3) from beq_cast k 3], hb⟩) s w hs
end
end Go.Proofs.YthgiianmfehcaaaDoor
