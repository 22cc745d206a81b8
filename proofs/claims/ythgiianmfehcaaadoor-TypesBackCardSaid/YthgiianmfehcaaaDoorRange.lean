/- A range over a function whose iterator may also write blocks of its own: the iterator's contract, and the two laws for the caller. -/
import Derived.RangeFuncNested
import Derived.RangeFuncBound
import Derived.RangeFuncLeaves
import Derived.WalkKit
set_option linter.unusedVariables false
set_option linter.unusedSimpArgs false
namespace Go.Proofs.YthgiianmfehcaaaDoor
open Go Go.RowKit

/-- An invariant that stands whatever of the blocks in `T` is turned, and whatever is laid anew. -/
def Stands {β : Type} (T : World → Nat → Prop) (J : β → World → Prop) : Prop :=
  ∀ s W W' row, J s W → W.grownBy W' row → (∀ r, row = some r → T W r) → J s W'
theorem Stands.put {β : Type} {T : World → Nat → Prop} {J : β → World → Prop} (h : Stands T J) {s : β} {W : World} {l : Nat} (o : Obj) (hs : J s W) (hl : T W l) : J s (W.putObj l o) :=
  h s W _ (some l) hs (grownBy_putObj' W l o) (fun r e => by cases e; exact hl)
theorem Stands.alloc {β : Type} {T : World → Nat → Prop} {J : β → World → Prop} (h : Stands T J) {s : β} {W : World} (o : Obj) (hs : J s W) : J s (W.alloc o) :=
  h s W _ none hs (World.grownBy_alloc W o none) (fun r e => by cases e)
theorem Stands.and {β : Type} {T : World → Nat → Prop} {I J : β → World → Prop} (h : Stands T I) (k : Stands T J) : Stands T (fun s W => I s W ∧ J s W) :=
  fun s W W' row hs hg hr => ⟨h s W W' row hs.1 hg hr, k s W W' row hs.2 hg hr⟩
theorem Stands.weaken {β : Type} {T T' : World → Nat → Prop} {J : β → World → Prop} (h : Stands T J) (hT : ∀ W r, T' W r → T W r) : Stands T' J :=
  fun s W W' row hs hg hr => h s W W' row hs hg fun r e => hT W r (hr r e)

/-- What the iterator called at heap size B may turn: a walk's object of its own, or a block in `T`. -/
def TurnsOf (T : World → Nat → Prop) (B : Nat) : World → Nat → Prop := fun W r => T W r ∨ (B ≤ r ∧ ∃ o, W.heap[r]? = some o ∧ o.isWalk = true)

/-- The contract of an iterator value: it calls yield with the elements of a list, one by one, from a world in which its own things lie (`Pre`), as long as rounds keep them (`Kp`). -/
def SeqT {α : Type} (F : Fence) (n : Nat) (P : Program) (g : Nat) (lb : Array Value) (encs : α → Array Value) (Kp : World → World → Prop) (T : World → Nat → Prop) (S Sp : List α → Prop) (N : List α → α → Prop) (Pre : World → Prop) : Prop :=
  ∀ (l : Nat) (J Jx : List α → World → Prop) (W : World), Pre W → Stands (TurnsOf T W.heap.size) J → Stands (TurnsOf T W.heap.size) Jx →
    (∀ pre x W1, J pre W1 → N pre x → YieldAt F (n - 1) P l (encs x) W1 fun e W' =>
      (e = .returned (.bool true) ∧ J (pre ++ [x]) W' ∧ Kp W1 W') ∨ (e = .returned (.bool false) ∧ Jx (pre ++ [x]) W')) →
    J [] W →
    CallsIn F n P g (#[.func (.yield l) #[] #[]] ++ lb) W fun e W' => (∃ v, e = .returned v) ∧ ((∃ xs, S xs ∧ J xs W') ∨ (∃ pre, Sp pre ∧ Jx pre W'))

/-- What the caller's invariant must stand: the iterator's turns, and the law's own book-keeping (blocks from B on that are no cells). -/
def TurnsAll (T : World → Nat → Prop) (B : Nat) : World → Nat → Prop := fun W r => T W r ∨ (B ≤ r ∧ ∃ o, W.heap[r]? = some o ∧ o.isCells = false)

section
variable {F : Fence} {n : Nat} {P : Program} {α : Type} {ps : Array Tmp} {assign body : Code} {a : Act}
  {gf : Nat} {lb : Array Value} {encs : α → Array Value} {Kp : World → World → Prop} {T : World → Nat → Prop} {S Sp : List α → Prop} {N : List α → α → Prop} {Pre : World → Prop}

/-- The call of the iterator, the record at l being ready; D: one more block that is no cells and no walk's, and stays. -/
theorem range_core (hseq : SeqT F (n - 1) P gf lb encs Kp T S Sp N Pre) (hT : ∀ W r, T W r → ∃ o, W.heap[r]? = some o ∧ (o.isWalk = true ∨ o.isCells = true))
    {B l D : Nat} {oD : Obj} {fn : FuncId} {dd : Nat} (hfn : F.fn fn) (hBl : B ≤ l)
    (hDc : oD.isCells = false) (hDl : D ≠ l)
    (rec : LoopState → Option Code → Loop) (hrec : rec = fun st pe => { state := st, pending := pe, fn, tmps := a.tmps, params := ps, assign, body, defers := dd })
    (W1 : World) (hP1 : Pre W1) (hL1 : W1.heap[l]? = some (.loop (rec .ready none))) (hD1 : W1.heap[D]? = some oD) (hDw : oD.isWalk = false) (hBW : B ≤ W1.heap.size)
    (hKt : ∀ {X Y Z : World}, Kp X Y → Kp Y Z → Kp X Z) (hKb : ∀ (W : World) (o o' : Obj), W.heap[l]? = some o → o.isCells = false → o.isWalk = false → Kp W (W.putObj l o')) (hps : ∀ x, (encs x).size = ps.size)
    (I : List α → World → Prop) (Ix : Code → List α → World → Prop) (hI : Stands (TurnsAll T B) I) (hIx : ∀ c, Stands (TurnsAll T B) (Ix c)) (h0 : I [] W1)
    (Ax : α → Act → World → Prop) (hAx : ∀ x a', Stands (TurnsAll (fun _ _ => False) B) (fun (_ : Unit) W => Ax x a' W))
    (keep : World → World → Prop) (hkeep : ∀ X Y, keep X Y → ∀ k o, (k = l ∨ k = D) → X.heap[k]? = some o → o.isCells = false → Y.heap[k]? = some o)
    (hassign : ∀ (pre : List α) (x : α) (W : World) (K : Act → World → Prop), I pre W → (∀ a' W', keep W W' → Kp W W' → I pre W' → Ax x a' W' → K a' W') →
      assign.wpIn (F.inRound l) (n - 1 - 1) P (Exit.then K (fun _ _ _ => False)) { tmps := (ps.zip (encs x)).foldl (fun t (p, v) => t.setIfInBounds p v) a.tmps, defers := [] } W)
    (hbody : ∀ (pre : List α) (x : α) (a' : Act) (W : World), (∃ r, W.heap[l]? = some (.loop r)) → I pre W → Ax x a' W → N pre x → body.wpIn (F.inRound l) (n - 1 - 1) P (fun e a2 W' => match e with
      | .normal => keep W W' ∧ Kp W W' ∧ I (pre ++ [x]) W'
      | .ret => keep W W' ∧ Ix .ret (pre ++ [x]) W'
      | .exit id => keep W W' ∧ Ix (.exit id) (pre ++ [x]) W'
      | .goto t => keep W W' ∧ Ix (.goto t) (pre ++ [x]) W'
      | _ => False) a' W) :
    CallsIn F (n - 1) P gf (#[.func (.yield l) #[] #[]] ++ lb) W1 fun e W2 => (∃ v, e = .returned v) ∧
      ((∃ xs, S xs ∧ I xs W2 ∧ W2.heap[l]? = some (.loop (rec .ready none)) ∧ W2.heap[D]? = some oD) ∨
       (∃ pre c, Sp pre ∧ Ix c pre W2 ∧ W2.heap[l]? = some (.loop (rec .done (some c))) ∧ W2.heap[D]? = some oD)) := by
  have hst : ∀ {k : Nat} {o : Obj} {A C : World} {row : Option Nat}, A.grownBy C row → (∀ r, row = some r → TurnsOf T W1.heap.size A r) → A.heap[k]? = some o → o.isCells = false → o.isWalk = false → C.heap[k]? = some o := by
    intro k o A C row hg hr hk hc hw
    refine (hg.block k (Array.getElem?_eq_some_iff.1 hk).1 (fun e => ?_)).trans hk
    have : ∃ o', A.heap[k]? = some o' ∧ (o'.isWalk = true ∨ o'.isCells = true) := by
      rcases hr k e.symm with h | ⟨_, o', ho', hw'⟩
      · exact hT A k h
      · exact ⟨o', ho', .inl hw'⟩
    obtain ⟨o', ho', hx⟩ := this
    rw [hk] at ho'; cases ho'
    rcases hx with hx | hx
    · rw [hw] at hx; cases hx
    · rw [hc] at hx; cases hx
  have hTA : ∀ W r, TurnsOf T W1.heap.size W r → TurnsAll T B W r := by
    rintro W r (h | ⟨hB, o, ho, hw⟩)
    · exact .inl h
    · exact .inr ⟨by omega, o, ho, Obj.not_cells_of_walk hw⟩
  have hbk : ∀ {W : World} {r : Loop}, W.heap[l]? = some (.loop r) → TurnsAll T B W l := fun h => .inr ⟨hBl, _, h, rfl⟩
  have hbk' : ∀ {W : World} {r : Loop}, W.heap[l]? = some (.loop r) → TurnsAll (fun _ _ => False) B W l := fun h => .inr ⟨hBl, _, h, rfl⟩
  refine (hseq l
    (fun pre W => I pre W ∧ W.heap[l]? = some (.loop (rec .ready none)) ∧ W.heap[D]? = some oD)
    (fun pre W => ∃ c, Ix c pre W ∧ W.heap[l]? = some (.loop (rec .done (some c))) ∧ W.heap[D]? = some oD)
    W1 hP1
    (fun s A C row hs hg hr => ⟨hI s A C row hs.1 hg (fun r e => hTA A r (hr r e)), hst hg hr hs.2.1 rfl rfl, hst hg hr hs.2.2 hDc hDw⟩)
    (fun s A C row hs hg hr => by
      obtain ⟨c, hc, hl, hk⟩ := hs
      exact ⟨c, hIx c s A C row hc hg (fun r e => hTA A r (hr r e)), hst hg hr hl rfl rfl, hst hg hr hk hDc hDw⟩)
    ?_ ⟨h0, hL1, hD1⟩).mono ?_
  · rintro pre x W ⟨hi, hl, hk⟩ hlen
    have hy := run_yield (P := P) (args := encs x) hl (by rw [hrec]; exact hps x)
    rw [hrec] at hy
    refine ⟨fn, _, assign, body, hy, roundIn_of_wpIn hfn (hassign pre x W _ hi ?_)⟩
    clear hy
    intro a' Wa hka hkpa hia hax
    have hl1 := hkeep _ _ hka _ _ (.inl rfl) hl rfl
    have hk1 := hkeep _ _ hka _ _ (.inr rfl) hk hDc
    have hlt : l < Wa.heap.size := (Array.getElem?_eq_some_iff.1 hl1).1
    refine ⟨_, run_beginRound hl1 (by rw [hrec]), ?_⟩
    have hl2 : (Wa.putObj l (.loop { rec .ready none with state := .busy })).heap[l]? = some (.loop { rec .ready none with state := .busy }) := World.putObj_heap_same hlt
    have hk2 : (Wa.putObj l (.loop { rec .ready none with state := .busy })).heap[D]? = some oD := (World.putObj_heap_other hDl).trans hk1
    have hw2 : Kp Wa (Wa.putObj l (.loop { rec .ready none with state := .busy })) := hKb _ _ _ hl1 rfl rfl
    refine wpIn_mono (hbody pre x a' _ ⟨_, hl2⟩ (hI.put _ hia (hbk hl1)) ((hAx x a').put (s := ()) _ hax (hbk' hl1)) hlen) ?_
    have fin : ∀ (jump : Option Code) (W3 : World), keep (Wa.putObj l (.loop { rec .ready none with state := .busy })) W3 →
        (Instr.endRound l jump).run P W3 = .ok (.bool jump.isNone) (W3.putObj l (.loop (rec (if jump.isNone then .ready else .done) jump))) ∧
        W3.heap[l]? = some (.loop { rec .ready none with state := .busy }) ∧
        (W3.putObj l (.loop (rec (if jump.isNone then .ready else .done) jump))).heap[l]? = some (.loop (rec (if jump.isNone then .ready else .done) jump)) ∧
        (W3.putObj l (.loop (rec (if jump.isNone then .ready else .done) jump))).heap[D]? = some oD := fun jump W3 hk3 => by
      have hl3 := hkeep _ _ hk3 _ _ (.inl rfl) hl2 rfl
      have := run_endRound (P := P) jump hl3
      rw [hrec] at this ⊢
      exact ⟨this, by rw [hrec] at hl3; exact hl3, World.putObj_heap_same (Array.getElem?_eq_some_iff.1 hl3).1, (World.putObj_heap_other hDl).trans (hkeep _ _ hk3 _ _ (.inr rfl) hk2 hDc)⟩
    rintro e a3 W3 hp
    cases e with
    | normal =>
      obtain ⟨hk3, hkp3, hi3⟩ := hp
      obtain ⟨hr, hl3, hl4, hk4⟩ := fin none W3 hk3
      exact ⟨_, _, hr, .inl ⟨rfl, ⟨hI.put _ hi3 (hbk hl3), hl4, hk4⟩, hKt hkpa (hKt (hKt hw2 hkp3) (hKb _ _ _ hl3 rfl rfl))⟩⟩
    | ret =>
      obtain ⟨hk3, hi3⟩ := hp
      obtain ⟨hr, hl3, hl4, hk4⟩ := fin (some .ret) W3 hk3
      exact ⟨_, _, hr, .inr ⟨rfl, .ret, (hIx _).put _ hi3 (hbk hl3), hl4, hk4⟩⟩
    | exit id =>
      obtain ⟨hk3, hi3⟩ := hp
      obtain ⟨hr, hl3, hl4, hk4⟩ := fin (some (.exit id)) W3 hk3
      exact ⟨_, _, hr, .inr ⟨rfl, .exit id, (hIx _).put _ hi3 (hbk hl3), hl4, hk4⟩⟩
    | goto t =>
      obtain ⟨hk3, hi3⟩ := hp
      obtain ⟨hr, hl3, hl4, hk4⟩ := fin (some (.goto t)) W3 hk3
      exact ⟨_, _, hr, .inr ⟨rfl, .goto t, (hIx _).put _ hi3 (hbk hl3), hl4, hk4⟩⟩
    | panic ch => exact hp.elim
    | outgrown => exact hp.elim
  · rintro e W2 ⟨⟨v, rfl⟩, (⟨xs, hS, hi, hl, hk⟩ | ⟨pre, hSp, c, hi, hl, hk⟩)⟩
    · exact ⟨⟨v, rfl⟩, .inl ⟨xs, hS, hi, hl, hk⟩⟩
    · exact ⟨⟨v, rfl⟩, .inr ⟨pre, c, hSp, hi, hl, hk⟩⟩

/-- How a round may be left. -/
def roundOut (B : Nat) (Kp : World → World → Prop) (I : List α → World → Prop) (Ix : Code → List α → World → Prop) (xs : List α) (W : World) : Exit → Act → World → Prop
  | .normal, _, W' => KeepsFrom B W W' ∧ Kp W W' ∧ I xs W'
  | .ret, _, W' => KeepsFrom B W W' ∧ Ix .ret xs W'
  | .exit id, _, W' => KeepsFrom B W W' ∧ Ix (.exit id) xs W'
  | .goto t, _, W' => KeepsFrom B W W' ∧ Ix (.goto t) xs W'
  | _, _, _ => False

/-- THE LAW at an outermost loop. -/
theorem wpIn_range_outer {g : Operand} {Q : Exit → Act → World → Prop} {w : World} (hro : F.round = none) (h1 : 1 ≤ n) (hg : a.eval g = .func (.func gf) #[] lb) (hFg : F.fn gf)
    (eg : ∀ args w, (callFunc gf args).run P w = .ok (.enter gf args) w)
    (hseq : SeqT F (n - 1) P gf lb encs Kp T S Sp N Pre) (hT : ∀ W r, T W r → ∃ o, W.heap[r]? = some o ∧ (o.isWalk = true ∨ o.isCells = true))
    (hPre : ∀ W1, Below w.heap.size w W1 → Pre W1)
    (hKt : ∀ {X Y Z : World}, Kp X Y → Kp Y Z → Kp X Z) (hKb : ∀ (W : World) (l : Nat) (o o' : Obj), w.heap.size ≤ l → W.heap[l]? = some o → o.isCells = false → o.isWalk = false → Kp W (W.putObj l o')) (hps : ∀ x, (encs x).size = ps.size)
    (I : List α → World → Prop) (Ix : Code → List α → World → Prop) (hI : Stands (TurnsAll T w.heap.size) I) (hIx : ∀ c, Stands (TurnsAll T w.heap.size) (Ix c)) (h0 : I [] w)
    (Ax : α → Act → World → Prop) (hAx : ∀ x a', Stands (TurnsAll (fun _ _ => False) w.heap.size) (fun (_ : Unit) W => Ax x a' W))
    (hassign : ∀ (l : Nat) (pre : List α) (x : α) (W : World) (K : Act → World → Prop), I pre W → (∀ a' W', KeepsFrom w.heap.size W W' → Kp W W' → I pre W' → Ax x a' W' → K a' W') →
      assign.wpIn (F.inRound l) (n - 1 - 1) P (Exit.then K (fun _ _ _ => False)) { tmps := (ps.zip (encs x)).foldl (fun t (p, v) => t.setIfInBounds p v) a.tmps, defers := [] } W)
    (hbody : ∀ (l : Nat) (pre : List α) (x : α) (a' : Act) (W : World), w.heap.size ≤ l → (∃ r, W.heap[l]? = some (.loop r)) → I pre W → Ax x a' W → N pre x → body.wpIn (F.inRound l) (n - 1 - 1) P (roundOut w.heap.size Kp I Ix (pre ++ [x]) W) a' W)
    (hdone : ∀ (D : Nat) (xs : List α) (W : World), w.heap.size ≤ D → S xs → I xs W → W.heap[D]? = some (.deferred (some [])) → Q .normal { a with defers := { target := .collected D, args := #[] } :: a.defers } W)
    (hstop : ∀ (D : Nat) (c : Code) (pre : List α) (W : World), w.heap.size ≤ D → Sp pre → Ix c pre W → W.heap[D]? = some (.deferred (some [])) → c.wpIn F n P Q { a with defers := { target := .collected D, args := #[] } :: a.defers } W) :
    (Code.rangeFunc g ps assign body).wpIn F n P Q a w := by
  refine wpIn_rangeFunc ?_
  intro fn hfn
  rw [hro]
  obtain ⟨rec, hrec⟩ : ∃ rec : LoopState → Option Code → Loop, rec = fun st pe => { state := st, pending := pe, fn, tmps := a.tmps, params := ps, assign, body, defers := w.heap.size } := ⟨_, rfl⟩
  obtain ⟨W1, hW1⟩ : ∃ W1, (w.alloc (.deferred (some []))).alloc (.loop (rec .ready none)) = W1 := ⟨_, rfl⟩
  have hz : W1.heap.size = w.heap.size + 2 := by rw [← hW1]; simp
  have hL1 : W1.heap[w.heap.size + 1]? = some (.loop (rec .ready none)) := by
    rw [← hW1]; have := World.alloc_heap_new (w.alloc (.deferred (some []))) (.loop (rec .ready none)); rwa [World.size_alloc] at this
  have hK1 : W1.heap[w.heap.size]? = some (.deferred (some [])) := by
    rw [← hW1]; exact (Below.heap_alloc _ _ _ (by simp)).trans (World.alloc_heap_new w _)
  have hI1 : I [] W1 := by rw [← hW1]; exact hI.alloc _ (hI.alloc _ h0)
  have hb1 : Below w.heap.size w W1 := by
    rw [← hW1]; exact ((Below.refl _ w).alloc (Nat.le_refl _) _).alloc (by simp) _
  refine ⟨w.heap.size + 1, [{ target := .collected w.heap.size, args := #[] }], W1, { target := .fn (.func gf) lb, args := #[.func (.yield (w.heap.size + 1)) #[] #[]] }, W1, gf,
    #[.func (.yield (w.heap.size + 1)) #[] #[]] ++ lb, W1, ?_, ?_, ?_, ?_, fun _ => h1, ?_⟩
  · rw [← hW1, hrec]; exact run_enterLoop_outer _ _ _ _ _
  · simp only [resolve, hg]
    simp [go_sem]
  · intro f' hf'; simp [Target.leads] at hf'; subst hf'; exact hFg
  · simp [invoke, go_sem, eg]
  · refine (range_core (D := w.heap.size) (a := a) hseq hT (B := w.heap.size) hfn (by omega) rfl (by omega) rec hrec W1 (hPre W1 hb1) hL1 hK1 rfl (by omega) hKt (fun W o o' => hKb W _ o o' (by omega)) hps I Ix hI hIx hI1 Ax hAx
      (KeepsFrom w.heap.size) (fun X Y h k o hk ho hc => h.same k o (by omega) ho hc) (hassign _) (fun pre x a' W hr hi hax hlen => wpIn_mono (hbody _ pre x a' W (by omega) hr hi hax hlen) (fun e a2 W' hp => by cases e <;> exact hp))).mono ?_
    rintro e W2 ⟨⟨v, rfl⟩, (⟨xs, hS, hi, hl, hk⟩ | ⟨pre, c, hSp, hi, hl, hk⟩)⟩
    · exact ⟨none, _, by have := run_endLoop (P := P) hl (by rw [hrec]; simp); rw [hrec] at this; exact this, hdone _ xs _ (Nat.le_refl _) hS (hI.put _ hi (.inr ⟨by omega, _, hl, rfl⟩)) ((World.putObj_heap_other (by omega)).trans hk)⟩
    · exact ⟨some c, _, by have := run_endLoop (P := P) hl (by rw [hrec]; simp); rw [hrec] at this; exact this, hstop _ c pre _ (Nat.le_refl _) hSp ((hIx c).put _ hi (.inr ⟨by omega, _, hl, rfl⟩)) ((World.putObj_heap_other (by omega)).trans hk)⟩

/-- THE LAW within a round of loop l₀. -/
theorem wpIn_range_inner {g : Operand} {Q : Exit → Act → World → Prop} {w : World} {l₀ : Nat} {r₀ : Loop} (hro : F.round = some l₀) (hl₀ : w.heap[l₀]? = some (.loop r₀)) (h1 : 1 ≤ n) (hg : a.eval g = .func (.func gf) #[] lb) (hFg : F.fn gf)
    (eg : ∀ args w, (callFunc gf args).run P w = .ok (.enter gf args) w)
    (hseq : SeqT F (n - 1) P gf lb encs Kp T S Sp N Pre) (hT : ∀ W r, T W r → ∃ o, W.heap[r]? = some o ∧ (o.isWalk = true ∨ o.isCells = true))
    (hPre : ∀ W1, Below w.heap.size w W1 → Pre W1)
    (hKt : ∀ {X Y Z : World}, Kp X Y → Kp Y Z → Kp X Z) (hKb : ∀ (W : World) (l : Nat) (o o' : Obj), w.heap.size ≤ l → W.heap[l]? = some o → o.isCells = false → o.isWalk = false → Kp W (W.putObj l o')) (hps : ∀ x, (encs x).size = ps.size)
    {B : Nat} (hB : B ≤ l₀)
    (I : List α → World → Prop) (Ix : Code → List α → World → Prop) (hI : Stands (TurnsAll T w.heap.size) I) (hIx : ∀ c, Stands (TurnsAll T w.heap.size) (Ix c)) (h0 : I [] w)
    (Ax : α → Act → World → Prop) (hAx : ∀ x a', Stands (TurnsAll (fun _ _ => False) w.heap.size) (fun (_ : Unit) W => Ax x a' W))
    (hassign : ∀ (l : Nat) (pre : List α) (x : α) (W : World) (K : Act → World → Prop), I pre W → (∀ a' W', KeepsFrom B W W' → Kp W W' → I pre W' → Ax x a' W' → K a' W') →
      assign.wpIn (F.inRound l) (n - 1 - 1) P (Exit.then K (fun _ _ _ => False)) { tmps := (ps.zip (encs x)).foldl (fun t (p, v) => t.setIfInBounds p v) a.tmps, defers := [] } W)
    (hbody : ∀ (l : Nat) (pre : List α) (x : α) (a' : Act) (W : World), w.heap.size ≤ l → (∃ r, W.heap[l]? = some (.loop r)) → I pre W → Ax x a' W → N pre x → body.wpIn (F.inRound l) (n - 1 - 1) P (roundOut B Kp I Ix (pre ++ [x]) W) a' W)
    (hdone : ∀ (xs : List α) (W : World), S xs → I xs W → Q .normal a W)
    (hstop : ∀ (c : Code) (pre : List α) (W : World), Sp pre → Ix c pre W → c.wpIn F n P Q a W) :
    (Code.rangeFunc g ps assign body).wpIn F n P Q a w := by
  refine wpIn_rangeFunc ?_
  intro fn hfn
  rw [hro]
  have hlt0 : l₀ < w.heap.size := (Array.getElem?_eq_some_iff.1 hl₀).1
  obtain ⟨rec, hrec⟩ : ∃ rec : LoopState → Option Code → Loop, rec = fun st pe => { state := st, pending := pe, fn, tmps := a.tmps, params := ps, assign, body, defers := r₀.defers } := ⟨_, rfl⟩
  obtain ⟨W1, hW1⟩ : ∃ W1, w.alloc (.loop (rec .ready none)) = W1 := ⟨_, rfl⟩
  have hz : W1.heap.size = w.heap.size + 1 := by rw [← hW1]; simp
  have hL1 : W1.heap[w.heap.size]? = some (.loop (rec .ready none)) := by rw [← hW1]; exact World.alloc_heap_new w _
  have hK1 : W1.heap[l₀]? = some (.loop r₀) := by rw [← hW1]; exact (Below.heap_alloc _ _ _ hlt0).trans hl₀
  have hI1 : I [] W1 := by rw [← hW1]; exact hI.alloc _ h0
  have hb1 : Below w.heap.size w W1 := by rw [← hW1]; exact (Below.refl _ w).alloc (Nat.le_refl _) _
  refine ⟨w.heap.size, [], W1, { target := .fn (.func gf) lb, args := #[.func (.yield w.heap.size) #[] #[]] }, W1, gf,
    #[.func (.yield w.heap.size) #[] #[]] ++ lb, W1, ?_, ?_, ?_, ?_, fun _ => h1, ?_⟩
  · rw [← hW1, hrec]; exact run_enterLoop_inner hl₀ _ _ _ _ _
  · simp only [resolve, hg]
    simp [go_sem]
  · intro f' hf'; simp [Target.leads] at hf'; subst hf'; exact hFg
  · simp [invoke, go_sem, eg]
  · refine (range_core (D := l₀) (a := a) hseq hT (B := w.heap.size) hfn (by omega) rfl (by omega) rec hrec W1 (hPre W1 hb1) hL1 hK1 rfl (by omega) hKt (fun W o o' => hKb W _ o o' (by omega)) hps I Ix hI hIx hI1 Ax hAx
      (KeepsFrom B) (fun X Y h k o hk ho hc => h.same k o (by omega) ho hc) (hassign _) (fun pre x a' W hr hi hax hlen => wpIn_mono (hbody _ pre x a' W (by omega) hr hi hax hlen) (fun e a2 W' hp => by cases e <;> exact hp))).mono ?_
    rintro e W2 ⟨⟨v, rfl⟩, (⟨xs, hS, hi, hl, hk⟩ | ⟨pre, c, hSp, hi, hl, hk⟩)⟩
    · exact ⟨none, _, by have := run_endLoop (P := P) hl (by rw [hrec]; simp); rw [hrec] at this; exact this, hdone xs _ hS (hI.put _ hi (.inr ⟨by omega, _, hl, rfl⟩))⟩
    · exact ⟨some c, _, by have := run_endLoop (P := P) hl (by rw [hrec]; simp); rw [hrec] at this; exact this, hstop c pre _ hSp ((hIx c).put _ hi (.inr ⟨by omega, _, hl, rfl⟩))⟩
end
end Go.Proofs.YthgiianmfehcaaaDoor
