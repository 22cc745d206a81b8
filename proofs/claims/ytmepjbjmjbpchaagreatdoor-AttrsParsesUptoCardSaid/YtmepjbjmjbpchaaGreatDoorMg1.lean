/- Texts of this claim, laid together: Range, Ty4, Still, Inv. -/
import Derived.RangeFuncNested
import Derived.RangeFuncBound
import Derived.RangeFuncLeaves
import Derived.WalkKit
import Derived.RangeFuncCalls
import Derived.Shelf.RegionOpen
import Derived.OwnWalkIn
import Derived.TacticsInMore
import Derived.LoopNIn
import Derived.LoopIn
import Derived.StillTail
import Derived.StillTailTactics
import Derived.OrdersIn
import Derived.TacticsIn
import Derived.Test.YtmepjbjmjbpchaaGreatDoorMg0
section
/- A range over a function whose iterator may also write blocks of its own: the iterator's contract, and the two laws for the caller. -/
set_option linter.unusedVariables false
set_option linter.unusedSimpArgs false
namespace Go.Proofs.YtmepjbjmjbpchaaGreatDoor
open Go Go.RowKit

/-- An invariant that stands whatever of the blocks in `T` is turned, and whatever is laid anew. -/
def Stands {β : Type} (T : World → Nat → Prop) (J : β → World → Prop) : Prop :=
  ∀ s W W' row, J s W → W.grownBy W' row → (∀ r, row = some r → T W r) → J s W'
theorem Stands.put {β : Type} {T : World → Nat → Prop} {J : β → World → Prop} (h : Stands T J) {s : β} {W : World} {l : Nat} (o : Obj) (hs : J s W) (hl : T W l) : J s (W.putObj l o) :=
  h s W _ (some l) hs (grownBy_putObj' W l o) (fun r e => by cases e; exact hl)
theorem Stands.alloc {β : Type} {T : World → Nat → Prop} {J : β → World → Prop} (h : Stands T J) {s : β} {W : World} (o : Obj) (hs : J s W) : J s (W.alloc o) :=
  h s W _ none hs (World.grownBy_alloc W o none) (fun r e => by cases e)
theorem Stands.and {β : Type} {T : World → Nat → Prop} {I J : β → World → Prop} (h : Stands T I) (k : Stands T J) : Stands T (fun s W => I s W ∧ J s W) :=
  fun s W W' row hs hg hr => ⟨h s W W' row hs.1 hg hr, k s W W' row hs.2 hg hr⟩
/-- What the iterator called at heap size B may turn: a walk's object of its own, or a block in `T`. -/
def TurnsOf (T : World → Nat → Prop) (B : Nat) : World → Nat → Prop := fun W r => T W r ∨ (B ≤ r ∧ ∃ o, W.heap[r]? = some o ∧ o.isWalk = true)

/-- The contract of an iterator value: it calls yield with the elements of a list, one by one, from a world in which its own things lie (`Pre`), as long as rounds keep them (`Kp`). -/
def SeqT {α : Type} (F : Fence) (n : Nat) (P : Program) (g : Nat) (lb : Array Value) (encs : α → Array Value) (Kp : World → World → Prop) (T : World → Nat → Prop) (S Sp : List α → Prop) (N : List α → α → Prop) (Pre : World → Prop) : Prop :=
  ∀ (l : Nat) (J Jx : List α → World → Prop) (W : World), Pre W → Stands (TurnsOf T W.heap.size) J → Stands (TurnsOf T W.heap.size) Jx →
    (∀ pre x W1, J pre W1 → N pre x → YieldAt F (n - 1) P l (encs x) W1 fun e W' =>
      (e = .returned (.bool true) ∧ J (pre ++ [x]) W' ∧ Kp W1 W') ∨ (e = .returned (.bool false) ∧ Jx (pre ++ [x]) W')) →
    J [] W →
    CallsIn F n P g (#[.func (.yield l) #[] #[]] ++ lb) W fun e W' => (∃ v, e = .returned v) ∧ ((∃ xs, S xs ∧ J xs W') ∨ (∃ pre, Sp pre ∧ Jx pre W'))

/-- What the caller's invariant must stand: the iterator's turns, and the law's own book-keeping (blocks from B on that are no cells). -/
def TurnsAll (T : World → Nat → Prop) (B : Nat) : World → Nat → Prop := fun W r => T W r ∨ (B ≤ r ∧ ∃ o, W.heap[r]? = some o ∧ o.isCells = false)

section
variable {F : Fence} {n : Nat} {P : Program} {α : Type} {ps : Array Tmp} {assign body : Code} {a : Act}
  {gf : Nat} {lb : Array Value} {encs : α → Array Value} {Kp : World → World → Prop} {T : World → Nat → Prop} {S Sp : List α → Prop} {N : List α → α → Prop} {Pre : World → Prop}

/-- The call of the iterator, the record at l being ready; D: one more block that is no cells and no walk's, and stays. -/
theorem range_core (hseq : SeqT F (n - 1) P gf lb encs Kp T S Sp N Pre) (hT : ∀ W r, T W r → ∃ o, W.heap[r]? = some o ∧ (o.isWalk = true ∨ o.isCells = true))
    {B l D : Nat} {oD : Obj} {fn : FuncId} {dd : Nat} (hfn : F.fn fn) (hBl : B ≤ l)
    (hDc : oD.isCells = false) (hDl : D ≠ l)
    (rec : LoopState → Option Code → Loop) (hrec : rec = fun st pe => { state := st, pending := pe, fn, tmps := a.tmps, params := ps, assign, body, defers := dd })
    (W1 : World) (hP1 : Pre W1) (hL1 : W1.heap[l]? = some (.loop (rec .ready none))) (hD1 : W1.heap[D]? = some oD) (hDw : oD.isWalk = false) (hBW : B ≤ W1.heap.size)
    (hKt : ∀ {X Y Z : World}, Kp X Y → Kp Y Z → Kp X Z) (hKb : ∀ (W : World) (o o' : Obj), W.heap[l]? = some o → o.isCells = false → o.isWalk = false → Kp W (W.putObj l o')) (hps : ∀ x, (encs x).size = ps.size)
    (I : List α → World → Prop) (Ix : Code → List α → World → Prop) (hI : Stands (TurnsAll T B) I) (hIx : ∀ c, Stands (TurnsAll T B) (Ix c)) (h0 : I [] W1)
    (Ax : α → Act → World → Prop) (hAx : ∀ x a', Stands (TurnsAll (fun _ _ => False) B) (fun (_ : Unit) W => Ax x a' W))
    (keep : World → World → Prop) (hkeep : ∀ X Y, keep X Y → ∀ k o, (k = l ∨ k = D) → X.heap[k]? = some o → o.isCells = false → Y.heap[k]? = some o)
    (hassign : ∀ (pre : List α) (x : α) (W : World) (K : Act → World → Prop), I pre W → (∀ a' W', keep W W' → Kp W W' → I pre W' → Ax x a' W' → K a' W') →
      assign.wpIn (F.inRound l) (n - 1 - 1) P (Exit.then K (fun _ _ _ => False)) { tmps := (ps.zip (encs x)).foldl (fun t (p, v) => t.setIfInBounds p v) a.tmps, defers := [] } W)
    (hbody : ∀ (pre : List α) (x : α) (a' : Act) (W : World), (∃ r, W.heap[l]? = some (.loop r)) → I pre W → Ax x a' W → N pre x → body.wpIn (F.inRound l) (n - 1 - 1) P (fun e a2 W' => match e with
      | .normal => keep W W' ∧ Kp W W' ∧ I (pre ++ [x]) W'
      | .ret => keep W W' ∧ Ix .ret (pre ++ [x]) W'
      | .exit id => keep W W' ∧ Ix (.exit id) (pre ++ [x]) W'
      | .goto t => keep W W' ∧ Ix (.goto t) (pre ++ [x]) W'
      | _ => False) a' W) :
    CallsIn F (n - 1) P gf (#[.func (.yield l) #[] #[]] ++ lb) W1 fun e W2 => (∃ v, e = .returned v) ∧
      ((∃ xs, S xs ∧ I xs W2 ∧ W2.heap[l]? = some (.loop (rec .ready none)) ∧ W2.heap[D]? = some oD) ∨
       (∃ pre c, Sp pre ∧ Ix c pre W2 ∧ W2.heap[l]? = some (.loop (rec .done (some c))) ∧ W2.heap[D]? = some oD)) := by
  have hst : ∀ {k : Nat} {o : Obj} {A C : World} {row : Option Nat}, A.grownBy C row → (∀ r, row = some r → TurnsOf T W1.heap.size A r) → A.heap[k]? = some o → o.isCells = false → o.isWalk = false → C.heap[k]? = some o := by
    intro k o A C row hg hr hk hc hw
    refine (hg.block k (Array.getElem?_eq_some_iff.1 hk).1 (fun e => ?_)).trans hk
    have : ∃ o', A.heap[k]? = some o' ∧ (o'.isWalk = true ∨ o'.isCells = true) := by
      rcases hr k e.symm with h | ⟨_, o', ho', hw'⟩
      · exact hT A k h
      · exact ⟨o', ho', .inl hw'⟩
    obtain ⟨o', ho', hx⟩ := this
    rw [hk] at ho'; cases ho'
    rcases hx with hx | hx
    · rw [hw] at hx; cases hx
    · rw [hc] at hx; cases hx
  have hTA : ∀ W r, TurnsOf T W1.heap.size W r → TurnsAll T B W r := by
    rintro W r (h | ⟨hB, o, ho, hw⟩)
    · exact .inl h
    · exact .inr ⟨by omega, o, ho, Obj.not_cells_of_walk hw⟩
  have hbk : ∀ {W : World} {r : Loop}, W.heap[l]? = some (.loop r) → TurnsAll T B W l := fun h => .inr ⟨hBl, _, h, rfl⟩
  have hbk' : ∀ {W : World} {r : Loop}, W.heap[l]? = some (.loop r) → TurnsAll (fun _ _ => False) B W l := fun h => .inr ⟨hBl, _, h, rfl⟩
  refine (hseq l
    (fun pre W => I pre W ∧ W.heap[l]? = some (.loop (rec .ready none)) ∧ W.heap[D]? = some oD)
    (fun pre W => ∃ c, Ix c pre W ∧ W.heap[l]? = some (.loop (rec .done (some c))) ∧ W.heap[D]? = some oD)
    W1 hP1
    (fun s A C row hs hg hr => ⟨hI s A C row hs.1 hg (fun r e => hTA A r (hr r e)), hst hg hr hs.2.1 rfl rfl, hst hg hr hs.2.2 hDc hDw⟩)
    (fun s A C row hs hg hr => by
      obtain ⟨c, hc, hl, hk⟩ := hs
      exact ⟨c, hIx c s A C row hc hg (fun r e => hTA A r (hr r e)), hst hg hr hl rfl rfl, hst hg hr hk hDc hDw⟩)
    ?_ ⟨h0, hL1, hD1⟩).mono ?_
  · rintro pre x W ⟨hi, hl, hk⟩ hlen
    have hy := run_yield (P := P) (args := encs x) hl (by rw [hrec]; exact hps x)
    rw [hrec] at hy
    refine ⟨fn, _, assign, body, hy, roundIn_of_wpIn hfn (hassign pre x W _ hi ?_)⟩
    clear hy
    intro a' Wa hka hkpa hia hax
    have hl1 := hkeep _ _ hka _ _ (.inl rfl) hl rfl
    have hk1 := hkeep _ _ hka _ _ (.inr rfl) hk hDc
    have hlt : l < Wa.heap.size := (Array.getElem?_eq_some_iff.1 hl1).1
    refine ⟨_, run_beginRound hl1 (by rw [hrec]), ?_⟩
    have hl2 : (Wa.putObj l (.loop { rec .ready none with state := .busy })).heap[l]? = some (.loop { rec .ready none with state := .busy }) := World.putObj_heap_same hlt
    have hk2 : (Wa.putObj l (.loop { rec .ready none with state := .busy })).heap[D]? = some oD := (World.putObj_heap_other hDl).trans hk1
    have hw2 : Kp Wa (Wa.putObj l (.loop { rec .ready none with state := .busy })) := hKb _ _ _ hl1 rfl rfl
    refine wpIn_mono (hbody pre x a' _ ⟨_, hl2⟩ (hI.put _ hia (hbk hl1)) ((hAx x a').put (s := ()) _ hax (hbk' hl1)) hlen) ?_
    have fin : ∀ (jump : Option Code) (W3 : World), keep (Wa.putObj l (.loop { rec .ready none with state := .busy })) W3 →
        (Instr.endRound l jump).run P W3 = .ok (.bool jump.isNone) (W3.putObj l (.loop (rec (if jump.isNone then .ready else .done) jump))) ∧
        W3.heap[l]? = some (.loop { rec .ready none with state := .busy }) ∧
        (W3.putObj l (.loop (rec (if jump.isNone then .ready else .done) jump))).heap[l]? = some (.loop (rec (if jump.isNone then .ready else .done) jump)) ∧
        (W3.putObj l (.loop (rec (if jump.isNone then .ready else .done) jump))).heap[D]? = some oD := fun jump W3 hk3 => by
      have hl3 := hkeep _ _ hk3 _ _ (.inl rfl) hl2 rfl
      have := run_endRound (P := P) jump hl3
      rw [hrec] at this ⊢
      exact ⟨this, by rw [hrec] at hl3; exact hl3, World.putObj_heap_same (Array.getElem?_eq_some_iff.1 hl3).1, (World.putObj_heap_other hDl).trans (hkeep _ _ hk3 _ _ (.inr rfl) hk2 hDc)⟩
    rintro e a3 W3 hp
    cases e with
    | normal =>
      obtain ⟨hk3, hkp3, hi3⟩ := hp
      obtain ⟨hr, hl3, hl4, hk4⟩ := fin none W3 hk3
      exact ⟨_, _, hr, .inl ⟨rfl, ⟨hI.put _ hi3 (hbk hl3), hl4, hk4⟩, hKt hkpa (hKt (hKt hw2 hkp3) (hKb _ _ _ hl3 rfl rfl))⟩⟩
    | ret =>
      obtain ⟨hk3, hi3⟩ := hp
      obtain ⟨hr, hl3, hl4, hk4⟩ := fin (some .ret) W3 hk3
      exact ⟨_, _, hr, .inr ⟨rfl, .ret, (hIx _).put _ hi3 (hbk hl3), hl4, hk4⟩⟩
    | exit id =>
      obtain ⟨hk3, hi3⟩ := hp
      obtain ⟨hr, hl3, hl4, hk4⟩ := fin (some (.exit id)) W3 hk3
      exact ⟨_, _, hr, .inr ⟨rfl, .exit id, (hIx _).put _ hi3 (hbk hl3), hl4, hk4⟩⟩
    | goto t =>
      obtain ⟨hk3, hi3⟩ := hp
      obtain ⟨hr, hl3, hl4, hk4⟩ := fin (some (.goto t)) W3 hk3
      exact ⟨_, _, hr, .inr ⟨rfl, .goto t, (hIx _).put _ hi3 (hbk hl3), hl4, hk4⟩⟩
    | panic ch => exact hp.elim
    | outgrown => exact hp.elim
  · rintro e W2 ⟨⟨v, rfl⟩, (⟨xs, hS, hi, hl, hk⟩ | ⟨pre, hSp, c, hi, hl, hk⟩)⟩
    · exact ⟨⟨v, rfl⟩, .inl ⟨xs, hS, hi, hl, hk⟩⟩
    · exact ⟨⟨v, rfl⟩, .inr ⟨pre, c, hSp, hi, hl, hk⟩⟩

/-- How a round may be left. -/
def roundOut (B : Nat) (Kp : World → World → Prop) (I : List α → World → Prop) (Ix : Code → List α → World → Prop) (xs : List α) (W : World) : Exit → Act → World → Prop
  | .normal, _, W' => KeepsFrom B W W' ∧ Kp W W' ∧ I xs W'
  | .ret, _, W' => KeepsFrom B W W' ∧ Ix .ret xs W'
  | .exit id, _, W' => KeepsFrom B W W' ∧ Ix (.exit id) xs W'
  | .goto t, _, W' => KeepsFrom B W W' ∧ Ix (.goto t) xs W'
  | _, _, _ => False

/-- THE LAW at an outermost loop. -/
theorem wpIn_range_outer {g : Operand} {Q : Exit → Act → World → Prop} {w : World} (hro : F.round = none) (h1 : 1 ≤ n) (hg : a.eval g = .func (.func gf) #[] lb) (hFg : F.fn gf)
    (eg : ∀ args w, (callFunc gf args).run P w = .ok (.enter gf args) w)
    (hseq : SeqT F (n - 1) P gf lb encs Kp T S Sp N Pre) (hT : ∀ W r, T W r → ∃ o, W.heap[r]? = some o ∧ (o.isWalk = true ∨ o.isCells = true))
    (hPre : ∀ W1, Below w.heap.size w W1 → Pre W1)
    (hKt : ∀ {X Y Z : World}, Kp X Y → Kp Y Z → Kp X Z) (hKb : ∀ (W : World) (l : Nat) (o o' : Obj), w.heap.size ≤ l → W.heap[l]? = some o → o.isCells = false → o.isWalk = false → Kp W (W.putObj l o')) (hps : ∀ x, (encs x).size = ps.size)
    (I : List α → World → Prop) (Ix : Code → List α → World → Prop) (hI : Stands (TurnsAll T w.heap.size) I) (hIx : ∀ c, Stands (TurnsAll T w.heap.size) (Ix c)) (h0 : I [] w)
    (Ax : α → Act → World → Prop) (hAx : ∀ x a', Stands (TurnsAll (fun _ _ => False) w.heap.size) (fun (_ : Unit) W => Ax x a' W))
    (hassign : ∀ (l : Nat) (pre : List α) (x : α) (W : World) (K : Act → World → Prop), I pre W → (∀ a' W', KeepsFrom w.heap.size W W' → Kp W W' → I pre W' → Ax x a' W' → K a' W') →
      assign.wpIn (F.inRound l) (n - 1 - 1) P (Exit.then K (fun _ _ _ => False)) { tmps := (ps.zip (encs x)).foldl (fun t (p, v) => t.setIfInBounds p v) a.tmps, defers := [] } W)
    (hbody : ∀ (l : Nat) (pre : List α) (x : α) (a' : Act) (W : World), w.heap.size ≤ l → (∃ r, W.heap[l]? = some (.loop r)) → I pre W → Ax x a' W → N pre x → body.wpIn (F.inRound l) (n - 1 - 1) P (roundOut w.heap.size Kp I Ix (pre ++ [x]) W) a' W)
    (hdone : ∀ (D : Nat) (xs : List α) (W : World), w.heap.size ≤ D → S xs → I xs W → W.heap[D]? = some (.deferred (some [])) → Q .normal { a with defers := { target := .collected D, args := #[] } :: a.defers } W)
    (hstop : ∀ (D : Nat) (c : Code) (pre : List α) (W : World), w.heap.size ≤ D → Sp pre → Ix c pre W → W.heap[D]? = some (.deferred (some [])) → c.wpIn F n P Q { a with defers := { target := .collected D, args := #[] } :: a.defers } W) :
    (Code.rangeFunc g ps assign body).wpIn F n P Q a w := by
  refine wpIn_rangeFunc ?_
  intro fn hfn
  rw [hro]
  obtain ⟨rec, hrec⟩ : ∃ rec : LoopState → Option Code → Loop, rec = fun st pe => { state := st, pending := pe, fn, tmps := a.tmps, params := ps, assign, body, defers := w.heap.size } := ⟨_, rfl⟩
  obtain ⟨W1, hW1⟩ : ∃ W1, (w.alloc (.deferred (some []))).alloc (.loop (rec .ready none)) = W1 := ⟨_, rfl⟩
  have hz : W1.heap.size = w.heap.size + 2 := by rw [← hW1]; simp
  have hL1 : W1.heap[w.heap.size + 1]? = some (.loop (rec .ready none)) := by
    rw [← hW1]; have := World.alloc_heap_new (w.alloc (.deferred (some []))) (.loop (rec .ready none)); rwa [World.size_alloc] at this
  have hK1 : W1.heap[w.heap.size]? = some (.deferred (some [])) := by
    rw [← hW1]; exact (Below.heap_alloc _ _ _ (by simp)).trans (World.alloc_heap_new w _)
  have hI1 : I [] W1 := by rw [← hW1]; exact hI.alloc _ (hI.alloc _ h0)
  have hb1 : Below w.heap.size w W1 := by
    rw [← hW1]; exact ((Below.refl _ w).alloc (Nat.le_refl _) _).alloc (by simp) _
  refine ⟨w.heap.size + 1, [{ target := .collected w.heap.size, args := #[] }], W1, { target := .fn (.func gf) lb, args := #[.func (.yield (w.heap.size + 1)) #[] #[]] }, W1, gf,
    #[.func (.yield (w.heap.size + 1)) #[] #[]] ++ lb, W1, ?_, ?_, ?_, ?_, fun _ => h1, ?_⟩
  · rw [← hW1, hrec]; exact run_enterLoop_outer _ _ _ _ _
  · simp only [resolve, hg]
    simp [go_sem]
  · intro f' hf'; simp [Target.leads] at hf'; subst hf'; exact hFg
  · simp [invoke, go_sem, eg]
  · refine (range_core (D := w.heap.size) (a := a) hseq hT (B := w.heap.size) hfn (by omega) rfl (by omega) rec hrec W1 (hPre W1 hb1) hL1 hK1 rfl (by omega) hKt (fun W o o' => hKb W _ o o' (by omega)) hps I Ix hI hIx hI1 Ax hAx
      (KeepsFrom w.heap.size) (fun X Y h k o hk ho hc => h.same k o (by omega) ho hc) (hassign _) (fun pre x a' W hr hi hax hlen => wpIn_mono (hbody _ pre x a' W (by omega) hr hi hax hlen) (fun e a2 W' hp => by cases e <;> exact hp))).mono ?_
    rintro e W2 ⟨⟨v, rfl⟩, (⟨xs, hS, hi, hl, hk⟩ | ⟨pre, c, hSp, hi, hl, hk⟩)⟩
    · exact ⟨none, _, by have := run_endLoop (P := P) hl (by rw [hrec]; simp); rw [hrec] at this; exact this, hdone _ xs _ (Nat.le_refl _) hS (hI.put _ hi (.inr ⟨by omega, _, hl, rfl⟩)) ((World.putObj_heap_other (by omega)).trans hk)⟩
    · exact ⟨some c, _, by have := run_endLoop (P := P) hl (by rw [hrec]; simp); rw [hrec] at this; exact this, hstop _ c pre _ (Nat.le_refl _) hSp ((hIx c).put _ hi (.inr ⟨by omega, _, hl, rfl⟩)) ((World.putObj_heap_other (by omega)).trans hk)⟩

end
end Go.Proofs.YtmepjbjmjbpchaaGreatDoor
end
section
/- types.parts: its iterator's contract. -/
namespace Go.Proofs.YtmepjbjmjbpchaaGreatDoor
open Go Go.RowKit Go.Shelf
set_option linter.unusedVariables false
set_option linter.unusedSimpArgs false
attribute [local go_sem] Oper.semAt_some

theorem cutOf_len {c : UInt8} {l x y : List UInt8} (h : cutOf c l = some (x, y)) : x.length + 1 + y.length = l.length := by
  obtain ⟨_, h, _⟩ := cutOf_some _ _ _ _ h; rw [h]; simp; omega
/-- What stands between x in a type with cells. -/
def partsOf (l : List UInt8) : List (List UInt8 × Bool) :=
  if l = [105, 110, 100, 101, 120] then [(l, true)]
  else match h : cutOf 120 l with
    | none => [(l, true)]
    | some (x, y) => (x, false) :: partsOf y
termination_by l.length
decreasing_by have := cutOf_len h; omega
theorem partsOf_last {l : List UInt8} (h : l = [105, 110, 100, 101, 120] ∨ cutOf 120 l = none) : partsOf l = [(l, true)] := by
  unfold partsOf
  rcases h with h | h
  · rw [if_pos h]
  · split
    · rfl
    · split
      · rfl
      · rename_i h'; rw [h] at h'; cases h'
theorem partsOf_more {l x y : List UInt8} (h : l ≠ [105, 110, 100, 101, 120]) (hc : cutOf 120 l = some (x, y)) : partsOf l = (x, false) :: partsOf y := by
  rw [partsOf, if_neg h]
  split
  · rename_i h'; rw [hc] at h'; cases h'
  · rename_i h'; rw [hc] at h'; cases h'; rfl

abbrev pEnc (x : List UInt8 × Bool) : Array Value := #[.string ⟨x.1.toArray⟩, .bool x.2]
def BoxS (B : Nat) (l : List UInt8) (W : World) : Prop := W.heap[B]? = some (.cells #[.string ⟨l.toArray⟩] 9 (0, 0))
def TBox (B : Nat) (W : World) (r : Nat) : Prop := r = B ∧ ∃ v, W.heap[B]? = some (.cells #[v] 9 (0, 0))

def boxLen (B : Nat) (W : World) : Nat := match W.cell? ⟨B, 0, none⟩ with | some (Value.string s) => s.size | _ => 0
theorem boxLen_eq {B : Nat} {l : List UInt8} {W : World} (h : BoxS B l W) : boxLen B W = l.length := by
  simp [boxLen, World.cell?, show W.heap[B]? = _ from h]; rfl
theorem grown_drewN (W : World) (n : Nat) : W.grownBy (W.drewN n) none := ⟨rfl, rfl, rfl, Nat.le_refl _, fun _ _ _ => rfl⟩

set_option maxRecDepth 100000 in
set_option maxHeartbeats 1000000 in
theorem parts_seq (n : Nat) (B : Nat) (l : List UInt8) (hl : l.length ≤ 140737488355328) (hn : 2 ≤ n) :
    SeqT Fence.wide n Tryz.prog 177 #[.pointer (some ⟨B, 0, none⟩)] pEnc (fun W W' => W'.heap[B]? = W.heap[B]?) (TBox B) (fun xs => xs = partsOf l) (fun pre => pre <+: partsOf l) (fun pre x => pre ++ [x] <+: partsOf l) (BoxS B l) := by
  intro yl J Jx W hW hJ hJx hY h0
  have hn1 : 1 ≤ n := by omega
  refine callsIn_of_wp Tryz.func177 rfl trivial ?_ rfl
  simp only [Tryz.ntmps177, List.size_toArray, List.length_cons, List.length_nil, Nat.reduceAdd, Nat.reduceSub, Array.replicate_succ, Array.replicate_zero, List.push_toArray, List.append_toArray, List.nil_append, List.cons_append]
  gi_wp2_with fail
  gi_loopw [] (fun wr => ∃ (pre : List (List UInt8 × Bool)) (r : List UInt8), pre ++ partsOf r = partsOf l ∧ r.length ≤ l.length ∧ BoxS B r wr ∧ J pre wr) (fun wr => boxLen B wr)
  case atStart => exact ⟨[], l, rfl, Nat.le_refl _, hW, h0⟩
  case round =>
    obtain ⟨pre, r, hr, hle, hb, hj⟩ := hrel
    have hcell : wr.cell? ⟨B, 0, none⟩ = some (.string ⟨r.toArray⟩) := by simp [World.cell?, show wr.heap[B]? = _ from hb]
    have hfz : wr.frozen? ⟨B, 0, none⟩ = false := by simp [World.frozen?, show wr.heap[B]? = _ from hb]
    have hsz : (ByteArray.mk r.toArray).size ≤ 9223372036854775806 := by show r.toArray.size ≤ _; simp; omega
    have Hr := Lib.hid hr; clear hr
    have last : ∀ (h : r = [105, 110, 100, 101, 120] ∨ cutOf 120 r = none), pre ++ [(r, true)] = partsOf l := fun h => by rw [← Hr.out, partsOf_last h]
    by_cases hx : r = [105, 110, 100, 101, 120]
    · have hl2 := Lib.hid (last (.inl hx))
      have hlen : pre ++ [(r, true)] <+: partsOf l := by rw [hl2.out]; exact List.prefix_rfl
      have hxb : (r == [105, 110, 100, 101, 120]) = true := by rw [hx]; rfl
      clear hx last
      cases hc : cutOf 120 r
      all_goals
        try (rename_i p; obtain ⟨x, y⟩ := p)
        have Hc := Lib.hid (show cutOf 120 (ByteArray.mk r.toArray).data.toList = _ from hc); clear hc
        gi_wp2_with (refine ⟨trivial, ?_⟩; gi_at_call 51; refine (callsIn_wide.2 (cut_one _ _ _ hsz)).mono ?_; rw [Hc.out]; rintro e w' ⟨⟨nd, rfl⟩, he⟩; obtain rfl := he; obtain ⟨fn, tmps, assign, body, hy, hR⟩ := hY pre (r, true) (wr.drewN nd) (hJ pre wr _ none hj (grown_drewN _ _) (fun r e => by cases e)) hlen; dsimp only [pEnc] at hy)
        refine hR.mono ?_
        rintro e W' (⟨rfl, hJ3, hk3⟩ | ⟨rfl, hJx3⟩)
        · gi_wp2
          refine bodyPost_ret (results_none rfl _ _ _) rfl ?_
          exact ⟨⟨_, rfl⟩, .inl ⟨_, hl2.out, hJ3⟩⟩
        · gi_wp2
          refine bodyPost_ret (results_none rfl _ _ _) rfl ?_
          exact ⟨⟨_, rfl⟩, .inr ⟨_, by rw [hl2.out]; exact List.prefix_rfl, hJx3⟩⟩
    · have hxb : (r == [105, 110, 100, 101, 120]) = false := by rw [beq_eq_false_iff_ne]; exact hx
      have Hx := Lib.hid hx; clear hx
      cases hc : cutOf 120 r with
      | none =>
        have hl2 := Lib.hid (last (.inr hc))
        have hlen : pre ++ [(r, true)] <+: partsOf l := by rw [hl2.out]; exact List.prefix_rfl
        clear last
        have Hc := Lib.hid (show cutOf 120 (ByteArray.mk r.toArray).data.toList = _ from hc); clear hc
        gi_wp2_with (refine ⟨trivial, ?_⟩; gi_at_call 51; refine (callsIn_wide.2 (cut_one _ _ _ hsz)).mono ?_; rw [Hc.out]; rintro e w' ⟨⟨nd, rfl⟩, he⟩; obtain rfl := he; obtain ⟨fn, tmps, assign, body, hy, hR⟩ := hY pre (r, true) (wr.drewN nd) (hJ pre wr _ none hj (grown_drewN _ _) (fun r e => by cases e)) hlen; dsimp only [pEnc] at hy)
        refine hR.mono ?_
        rintro e W' (⟨rfl, hJ3, hk3⟩ | ⟨rfl, hJx3⟩)
        · gi_wp2
          refine bodyPost_ret (results_none rfl _ _ _) rfl ?_
          exact ⟨⟨_, rfl⟩, .inl ⟨_, hl2.out, hJ3⟩⟩
        · gi_wp2
          refine bodyPost_ret (results_none rfl _ _ _) rfl ?_
          exact ⟨⟨_, rfl⟩, .inr ⟨_, by rw [hl2.out]; exact List.prefix_rfl, hJx3⟩⟩
      | some p =>
        obtain ⟨x, y⟩ := p
        clear last
        have hp := Lib.hid (partsOf_more Hx.out hc)
        have hlen : pre ++ [(x, false)] <+: partsOf l := ⟨partsOf y, by rw [← Hr.out, hp.out]; simp⟩
        have hly := cutOf_len hc
        have Hc := Lib.hid (show cutOf 120 (ByteArray.mk r.toArray).data.toList = some (x, y) from hc); clear hc
        gi_wp2_with (refine ⟨trivial, ?_⟩; gi_at_call 51; refine (callsIn_wide.2 (cut_one _ _ _ hsz)).mono ?_; rw [Hc.out]; rintro e w' ⟨⟨nd, rfl⟩, he⟩; obtain rfl := he; obtain ⟨fn, tmps, assign, body, hy, hR⟩ := hY pre (x, false) (wr.drewN nd) (hJ pre wr _ none hj (grown_drewN _ _) (fun r e => by cases e)) hlen; dsimp only [pEnc] at hy)
        refine hR.mono ?_
        rintro e W' (⟨rfl, hJ3, hk3⟩ | ⟨rfl, hJx3⟩)
        · have hb3 : BoxS B r W' := hk3.trans hb
          have hc3 : W'.cell? ⟨B, 0, none⟩ = some (.string ⟨r.toArray⟩) := by simp [World.cell?, show W'.heap[B]? = _ from hb3]
          have hf3 : W'.frozen? ⟨B, 0, none⟩ = false := by simp [World.frozen?, show W'.heap[B]? = _ from hb3]
          have Hk3 := Lib.hid hk3; clear hk3
          have Hly := Lib.hid hly; clear hly
          gi_wp2
          have hb4 : BoxS B y (W'.setCell ⟨B, 0, none⟩ (.string ⟨y.toArray⟩)) := one_setCell hb3
          go_roundw
          case rel => exact ⟨pre ++ [(x, false)], y, by rw [← Hr.out, hp.out]; simp, by have := Hly.out; omega, hb4, hJ _ W' _ (some B) hJ3 (grownBy_setCell' W' B _) (fun r e => by cases e; exact .inl ⟨rfl, _, hb3⟩)⟩
          case measure => rw [boxLen_eq hb4, boxLen_eq hb]; have := Hly.out; omega
        · gi_wp2
          refine bodyPost_ret (results_none rfl _ _ _) rfl ?_
          exact ⟨⟨_, rfl⟩, .inr ⟨_, by rw [← Hr.out, hp.out]; simp, hJx3⟩⟩
end Go.Proofs.YtmepjbjmjbpchaaGreatDoor
end
section
/- A region that draws its order, in a round of a range over a function: quiet operations in any order, then a tail in the order of the text. -/
set_option linter.unusedVariables false
namespace Go.Proofs.YtmepjbjmjbpchaaGreatDoor
open Go

section
variable {P : Program} {ops : Array Oper} {md : Region.Mode} {w : World} {n : Nat} {Q : Exit → Act → World → Prop}

/-- The wide fence, in a round or not. -/
def WideAt (F : Fence) : Prop := F.fn = Fence.wide.fn ∧ F.depth = none ∧ (∀ m f args W R, Calls P f args W R → CallsIn F m P f args W R) ∧ ∀ (o : Oper) ρ, (∀ c, o.op ≠ .defer c) → o.semAt F.round ρ = execOp ρ o
theorem wideAt_round (l : Nat) : WideAt (P := P) (Fence.wide.inRound l) :=
  ⟨rfl, rfl, fun m f args W R h => CallsIn.inRound l (callsIn_wide.2 h), fun o ρ h => Oper.semAt_some l ρ o h⟩
theorem wideAt_plain : WideAt (P := P) Fence.wide :=
  ⟨rfl, rfl, fun m f args W R h => callsIn_wide.2 h, fun o ρ h => by show o.semAt none ρ = _; simp [Oper.semAt_none]⟩

theorem wpAnyIn_of_seq {F : Fence} : ∀ (l : List Oper) (k : Nat) (listed : Array Bool) (a : Act) (w : World), (∀ j, l[j]? = ops[k + j]?) →
    Region.seqB md ops l.length k listed = true → wpListIn F n P ops Q l a w → wpAnyIn F n P md ops Q l.length listed a w
  | [], _, _, _, _, _, hB, h => ⟨by simpa [Region.seqB] using hB, h⟩
  | o :: l, k, listed, a, w, hl, hB, h => by
    have h0 : ops[k]? = some o := by simpa using (hl 0).symm
    simp only [List.length_cons, Region.seqB, Bool.and_eq_true, decide_eq_true_eq] at hB
    refine ⟨fun h1 => (by rw [hB.1] at h1; cases h1), fun i hi => ?_⟩
    rw [hB.1] at hi
    have hik : i = k := by simpa using hi
    subst hik
    have hw : wpOpIn F n P ops Q i (wpListIn F n P ops Q l) a w := by unfold wpOpIn; simp only [h0]; exact h
    exact wpOpIn_mono (fun a' w' h' => wpAnyIn_of_seq l (i + 1) _ a' w' (fun j => by have := hl (j + 1); simpa [Nat.add_assoc, Nat.add_comm 1 j] using this) hB.2 h') hw

end
end Go.Proofs.YtmepjbjmjbpchaaGreatDoor
end
section
/- A region that draws its order, by an invariant: each operation yields one value whatever the order, and keeps an invariant on the world that knows which operations are done. -/
set_option linter.unusedVariables false
set_option linter.unusedSimpArgs false
namespace Go.Proofs.YtmepjbjmjbpchaaGreatDoor
open Go

/-- The frame behind the operations that are done: each one's slot holds its value, the others what they held. -/
structure Agrees (ops : Array Oper) (V : Nat → Value) (a0 : Act) (listed : Array Bool) (a : Act) : Prop where
  defers : a.defers = a0.defers
  size : a.tmps.size = a0.tmps.size
  got : ∀ (j : Nat) (o : Oper) (d : Nat), ops[j]? = some o → o.dst = some d → listed.getD j false = true → a.tmps[d]? = some (V j)
  old : ∀ d : Nat, (∀ (j : Nat) (o : Oper), ops[j]? = some o → listed.getD j false = true → o.dst ≠ some d) → a.tmps[d]? = a0.tmps[d]?

def regionOk (ops : Array Oper) (n : Nat) : Bool :=
  (List.range ops.size).all fun i => match ops[i]? with
    | none => true
    | some o => (o.after.all fun e => !Region.binds .any e || decide (e.on < i)) && (match o.op with | .defer _ => false | _ => true) &&
      (match o.dst with | none => true | some d => decide (d < n) && (List.range i).all fun j => match ops[j]? with | none => true | some p => p.dst != some d)

theorem regionOk_spec {ops : Array Oper} {n : Nat} (h : regionOk ops n = true) {i : Nat} {o : Oper} (ho : ops[i]? = some o) :
    (∀ e ∈ o.after, Region.binds .any e = true → e.on < i) ∧ (∀ c, o.op ≠ .defer c) ∧ ∀ d, o.dst = some d → d < n ∧ ∀ (j : Nat) (p : Oper), j < i → ops[j]? = some p → p.dst ≠ some d := by
  have hi : i < ops.size := (Array.getElem?_eq_some_iff.1 ho).1
  have := List.all_eq_true.1 h i (List.mem_range.2 hi)
  simp only [ho, Bool.and_eq_true] at this
  obtain ⟨⟨h1, h2⟩, h3⟩ := this
  refine ⟨fun e he hb => ?_, fun c hc => ?_, fun d hd => ?_⟩
  · have := Array.all_eq_true'.1 h1 e he
    simpa [hb] using this
  · rw [hc] at h2; cases h2
  · rw [hd] at h3
    simp only [Bool.and_eq_true, decide_eq_true_eq] at h3
    refine ⟨h3.1, fun j p hj hp hpd => ?_⟩
    have := List.all_eq_true.1 h3.2 j (List.mem_range.2 hj)
    simp [hp, hpd] at this
theorem regionOk_ne {ops : Array Oper} {n : Nat} (h : regionOk ops n = true) {i j : Nat} {o p : Oper} {d : Nat} (ho : ops[i]? = some o) (hp : ops[j]? = some p) (hd : o.dst = some d) (hij : i ≠ j) : p.dst ≠ some d := by
  rcases Nat.lt_or_ge j i with hlt | hge
  · exact ((regionOk_spec h ho).2.2 d hd).2 j p hlt hp
  · intro hpd
    exact ((regionOk_spec h hp).2.2 d hpd).2 i o (by omega) ho hd

def boolOf : Value → Option Bool | .bool b => some b | _ => none

section
variable {P : Program} {ops : Array Oper} {n : Nat} {Q : Exit → Act → World → Prop} {V : Nat → Value} {a0 : Act} {Inv : Array Bool → World → Prop}

theorem Agrees.start : Agrees ops V a0 (Array.replicate ops.size false) a0 :=
  ⟨rfl, rfl, (fun j o d _ _ hl => by rw [getD_replicate_false] at hl; cases hl), fun d _ => rfl⟩

theorem getD_set_iff {listed : Array Bool} {i j : Nat} (hi : i < listed.size) : (listed.setIfInBounds i true).getD j false = true ↔ j = i ∨ listed.getD j false = true := by
  by_cases h : i = j
  · subst h; simp [hi]
  · simp [Array.getElem?_setIfInBounds, h]; intro h'; exact absurd h'.symm h

theorem Agrees.put {listed : Array Bool} {a : Act} {i : Nat} {o : Oper} (hok : regionOk ops a0.tmps.size = true) (h : Agrees ops V a0 listed a) (hs : listed.size = ops.size) (ho : ops[i]? = some o) :
    Agrees ops V a0 (listed.setIfInBounds i true) (a.put o.dst (V i)) := by
  have hi : i < listed.size := by rw [hs]; exact (Array.getElem?_eq_some_iff.1 ho).1
  cases hd : o.dst with
  | none =>
    refine ⟨h.defers, h.size, fun j p d hp hpd hl => ?_, fun d hd' => h.old d fun j p hp hl => hd' j p hp ((getD_set_iff hi).2 (.inr hl))⟩
    rcases (getD_set_iff hi).1 hl with rfl | hl
    · rw [ho] at hp; cases hp; rw [hd] at hpd; cases hpd
    · exact h.got j p d hp hpd hl
  | some d0 =>
    have hd0 := ((regionOk_spec hok ho).2.2 d0 hd).1
    refine ⟨h.defers, by simpa [Act.put] using h.size, fun j p d hp hpd hl => ?_, fun d hd' => ?_⟩
    · show (a.tmps.setIfInBounds d0 (V i))[d]? = _
      rcases (getD_set_iff hi).1 hl with rfl | hl
      · rw [ho] at hp; cases hp; rw [hd] at hpd; cases hpd
        rw [Array.getElem?_setIfInBounds_self_of_lt (by rw [h.size]; exact hd0)]
      · by_cases hji : j = i
        · subst hji
          rw [ho] at hp; cases hp; rw [hd] at hpd; cases hpd
          rw [Array.getElem?_setIfInBounds_self_of_lt (by rw [h.size]; exact hd0)]
        · have hne : d0 ≠ d := fun e => by subst e; exact regionOk_ne hok ho hp hd (fun e => hji e.symm) hpd
          rw [Array.getElem?_setIfInBounds_ne hne]
          exact h.got j p d hp hpd hl
    · have hne : d0 ≠ d := fun e => by subst e; exact hd' i o ho ((getD_set_iff hi).2 (.inl rfl)) hd
      show (a.tmps.setIfInBounds d0 (V i))[d]? = _
      rw [Array.getElem?_setIfInBounds_ne hne]
      exact h.old d fun j p hp hl => hd' j p hp ((getD_set_iff hi).2 (.inr hl))

theorem ready_of_unlisted (hok : regionOk ops a0.tmps.size = true) {listed : Array Bool} (hs : listed.size = ops.size) : ∀ (k i : Nat), i < k → i < ops.size → listed.getD i false = false → Region.ready .any ops listed ≠ []
  | 0, i, h, _, _ => by omega
  | k + 1, i, h, hi, hl => by
    by_cases hr : ∃ j, j < i ∧ listed.getD j false = false
    · obtain ⟨j, hj, hlj⟩ := hr
      exact ready_of_unlisted hok hs k j (by omega) (by omega) hlj
    · intro he
      have : i ∈ Region.ready .any ops listed := by
        refine mem_ready.2 ⟨?_, ops[i], by simp [hi], fun e hea hb => ?_⟩
        · rw [← hs] at hi; simp [hi] at hl ⊢; exact hl
        · have := (regionOk_spec hok (i := i) (o := ops[i]) (by simp [hi])).1 e hea hb
          cases hx : listed.getD e.on false with
          | true => rfl
          | false => exact absurd ⟨e.on, this, hx⟩ hr
      rw [he] at this; cases this

/-- THE LAW, in a fence as wide as can be. -/
theorem wpIn_region_inv {F : Fence} {id : Nat} {w : World} (V : Nat → Value) (Inv : Array Bool → World → Prop) (hm : P.follows .mixedOrders = true) (hok : regionOk ops a0.tmps.size = true)
    (h0 : Inv (Array.replicate ops.size false) w.drew)
    (step : ∀ (i : Nat) (o : Oper) (listed : Array Bool) (a : Act) (w : World), ops[i]? = some o → listed.size = ops.size → listed.getD i false = false → (∀ e ∈ o.after, Region.binds .any e = true → listed.getD e.on false = true) → Agrees ops V a0 listed a → Inv listed w →
      (∀ j, listed.getD j false = true → (∃ p d, ops[j]? = some p ∧ p.dst = some d) → yielded ops a.tmps j = boolOf (V j)) → i < ops.size →
      if Region.wanted o (yielded ops a.tmps) then o.wpIn F n P a w (fun a' w' => a' = a.put o.dst (V i) ∧ Inv (listed.setIfInBounds i true) w') Q else (∀ f, o.about P w a.eval = some f → F.fn f) ∧ a.put o.dst undef = a.put o.dst (V i) ∧ Inv (listed.setIfInBounds i true) w)
    (fin : ∀ a w, Agrees ops V a0 (Array.replicate ops.size true) a → Inv (Array.replicate ops.size true) w → Q .normal a w) :
    (Code.region id ops true).wpIn F n P Q a0 w := by
  refine wpIn_region_any hm ?_
  have main : ∀ (fuel : Nat) (listed : Array Bool) (a : Act) (w : World), listed.size = ops.size → listed.count false ≤ fuel → Agrees ops V a0 listed a → Inv listed w → wpAnyIn F n P .any ops Q fuel listed a w := by
    intro fuel
    induction fuel with
    | zero =>
      intro listed a w hs hc ha hi
      have hall : listed = Array.replicate ops.size true := by
        have : false ∉ listed := by rw [← Array.count_eq_zero]; omega
        apply Array.ext
        · simp [hs]
        · intro i h1 h2
          have h3 : listed[i] ∈ listed := Array.getElem_mem h1
          cases hx : listed[i] with
          | true => simp
          | false => rw [hx] at h3; exact absurd h3 this
      subst hall
      refine ⟨?_, fin a w ha hi⟩
      rw [List.eq_nil_iff_forall_not_mem]
      intro i hi'
      have := (mem_ready.1 hi').1
      obtain ⟨o, ho, _⟩ := (mem_ready.1 hi').2
      have hlt : i < ops.size := (Array.getElem?_eq_some_iff.1 ho).1
      simp [hlt] at this
    | succ f ih =>
      intro listed a w hs hc ha hi
      refine ⟨fun he => ?_, fun i hir => ?_⟩
      · by_cases hx : ∃ i, i < ops.size ∧ listed.getD i false = false
        · obtain ⟨i, hi1, hi2⟩ := hx
          exact absurd he (ready_of_unlisted hok hs (i + 1) i (by omega) hi1 hi2)
        · have hall : listed = Array.replicate ops.size true := by
            apply Array.ext
            · simp [hs]
            · intro i h1 h2
              cases hx2 : listed[i] with
              | true => simp
              | false => exact absurd ⟨i, by omega, by simp [h1, hx2]⟩ hx
          subst hall
          exact fin a w ha hi
      · obtain ⟨hu, o, ho, hall⟩ := mem_ready.1 hir
        have hlt : i < listed.size := by rw [hs]; exact (Array.getElem?_eq_some_iff.1 ho).1
        have hu' : listed[i] = false := by simpa [hlt] using hu
        have hst := step i o listed a w ho hs (by simp [hlt, hu']) hall ha hi (fun j hj ⟨p, d, hp, hd⟩ => by simp only [yielded, hp, hd, Option.bind_some, ha.got j p d hp hd hj, boolOf]; cases V j <;> rfl) (by omega)
        have hst' : wpOpIn F n P ops Q i (fun a' w' => a' = a.put o.dst (V i) ∧ Inv (listed.setIfInBounds i true) w') a w := by unfold wpOpIn; rw [ho]; exact hst
        refine wpOpIn_mono (fun a' w' => ?_) hst'
        rintro ⟨rfl, hi'⟩
        refine ih _ _ _ (by simpa using hs) ?_ (ha.put hok hs ho) hi'
        have hpos : 0 < listed.count false := Array.count_pos_iff.2 (by rw [← hu']; exact Array.getElem_mem hlt)
        rw [Array.setIfInBounds, dif_pos hlt, Array.count_set]
        simp [hu']
        omega
  exact main ops.size _ a0 _ (by simp) (by simp) Agrees.start h0
/-! ### One operation -/
theorem step_none {o : Oper} {y : Nat → Option Bool} {X Y : Prop} (hg : o.guard = none) (h : X) : if Region.wanted o y then X else Y := by rw [if_pos (by simp [Region.wanted, hg])]; exact h
theorem step_yes {o : Oper} {y : Nat → Option Bool} {X Y : Prop} {j : Nat} {b : Bool} (hg : o.guard = some (j, b)) (hy : y j = some b) (h : X) : if Region.wanted o y then X else Y := by rw [if_pos (by simp [Region.wanted, hg, hy])]; exact h
theorem step_no {o : Oper} {y : Nat → Option Bool} {X Y : Prop} {j : Nat} {b : Bool} (hg : o.guard = some (j, b)) (hy : y j = some (!b)) (h : Y) : if Region.wanted o y then X else Y := by rw [if_neg (by simp [Region.wanted, hg, hy])]; exact h
theorem opIn_value {F : Fence} (hF : WideAt (P := P) F) {m : Nat} {o : Oper} {a : Act} {W W' : World} {v : Value} {K : Act → World → Prop} (hnd : ∀ c, o.op ≠ .defer c) (hrun : (execOp a.eval o).run P W = .ok (.value v) W') (hK : K (a.put o.dst v) W') : o.wpIn F m P a W K Q := by
  obtain ⟨h1, h2, h3, h4⟩ := hF
  unfold Oper.wpIn
  refine ⟨fun f _ => by rw [h1]; trivial, ?_⟩
  rw [h4 o a.eval hnd, hrun]
  exact hK
theorem opIn_skip {F : Fence} (hF : WideAt (P := P) F) {m : Nat} {o : Oper} {a : Act} {W W' : World} {K : Act → World → Prop} (hnd : ∀ c, o.op ≠ .defer c) (hrun : (execOp a.eval o).run P W = .ok .skip W') (hK : K (a.put o.dst undef) W') : o.wpIn F m P a W K Q := by
  obtain ⟨h1, h2, h3, h4⟩ := hF
  unfold Oper.wpIn
  refine ⟨fun f _ => by rw [h1]; trivial, ?_⟩
  rw [h4 o a.eval hnd, hrun]
  exact hK
theorem opIn_call {F : Fence} (hF : WideAt (P := P) F) {m : Nat} {o : Oper} {a : Act} {W W' : World} {f : FuncId} {args : Array Value} {K : Act → World → Prop} (hnd : ∀ c, o.op ≠ .defer c) (hrun : (execOp a.eval o).run P W = .ok (.enter f args) W')
    {R : Ending → World → Prop} (hc : Calls P f args W' R) (hK : ∀ e w, R e w → ∃ v, e = .returned v ∧ K (a.put o.dst v) w) : o.wpIn F m P a W K Q := by
  obtain ⟨h1, h2, h3, h4⟩ := hF
  unfold Oper.wpIn
  refine ⟨fun f _ => by rw [h1]; trivial, ?_⟩
  rw [h4 o a.eval hnd, hrun]
  refine ⟨(fun hd => by rw [h2] at hd; cases hd), ?_⟩
  refine (h3 _ _ _ _ _ hc).mono ?_
  intro e w hR
  obtain ⟨v, rfl, hK⟩ := hK e w hR
  exact hK
theorem Agrees.eval_got {listed : Array Bool} {a : Act} (h : Agrees ops V a0 listed a) {j d : Nat} {o : Oper} (ho : ops[j]? = some o) (hd : o.dst = some d) (hl : listed.getD j false = true) : a.eval (.tmp d) = V j := by
  have := h.got j o d ho hd hl
  simp [Act.eval, this]
theorem Agrees.eval_old {listed : Array Bool} {a : Act} (h : Agrees ops V a0 listed a) {d : Nat} (hd : ∀ (j : Nat) (o : Oper), ops[j]? = some o → o.dst ≠ some d) : a.eval (.tmp d) = a0.eval (.tmp d) := by
  have := h.old d fun j o ho _ => hd j o ho
  simp only [Act.eval, Array.getD_eq_getD_getElem?, this]
def noDst (ops : Array Oper) (d : Nat) : Bool := ops.all fun o => o.dst != some d
theorem noDst_spec {d : Nat} (h : noDst ops d = true) : ∀ (j : Nat) (o : Oper), ops[j]? = some o → o.dst ≠ some d := by
  intro j o ho hd
  have := Array.all_eq_true'.1 h o (Array.mem_of_getElem? ho)
  simp [hd] at this
end
end Go.Proofs.YtmepjbjmjbpchaaGreatDoor
end
