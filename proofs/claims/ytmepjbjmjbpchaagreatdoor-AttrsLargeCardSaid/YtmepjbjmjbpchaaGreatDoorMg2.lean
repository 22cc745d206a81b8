/- Texts of this claim, laid together: Inv. -/
import Derived.Test.YtmepjbjmjbpchaaGreatDoorMg1
section
/- A region that draws its order, by an invariant: each operation yields one value whatever the order, and keeps an invariant on the world that knows which operations are done. -/
set_option linter.unusedVariables false
set_option linter.unusedSimpArgs false
namespace Go.Proofs.YtmepjbjmjbpchaaGreatDoor
open Go

/-- The frame behind the operations that are done: each one's slot holds its value, the others what they held. -/
structure Agrees (ops : Array Oper) (V : Nat → Value) (a0 : Act) (listed : Array Bool) (a : Act) : Prop where
  defers : a.defers = a0.defers
  size : a.tmps.size = a0.tmps.size
  got : ∀ (j : Nat) (o : Oper) (d : Nat), ops[j]? = some o → o.dst = some d → listed.getD j false = true → a.tmps[d]? = some (V j)
  old : ∀ d : Nat, (∀ (j : Nat) (o : Oper), ops[j]? = some o → listed.getD j false = true → o.dst ≠ some d) → a.tmps[d]? = a0.tmps[d]?

def regionOk (ops : Array Oper) (n : Nat) : Bool :=
  (List.range ops.size).all fun i => match ops[i]? with
    | none => true
    | some o => (o.after.all fun e => !Region.binds .any e || decide (e.on < i)) && (match o.op with | .defer _ => false | _ => true) &&
      (match o.dst with | none => true | some d => decide (d < n) && (List.range i).all fun j => match ops[j]? with | none => true | some p => p.dst != some d)

theorem regionOk_spec {ops : Array Oper} {n : Nat} (h : regionOk ops n = true) {i : Nat} {o : Oper} (ho : ops[i]? = some o) :
    (∀ e ∈ o.after, Region.binds .any e = true → e.on < i) ∧ (∀ c, o.op ≠ .defer c) ∧ ∀ d, o.dst = some d → d < n ∧ ∀ (j : Nat) (p : Oper), j < i → ops[j]? = some p → p.dst ≠ some d := by
  have hi : i < ops.size := (Array.getElem?_eq_some_iff.1 ho).1
  have := List.all_eq_true.1 h i (List.mem_range.2 hi)
  simp only [ho, Bool.and_eq_true] at this
  obtain ⟨⟨h1, h2⟩, h3⟩ := this
  refine ⟨fun e he hb => ?_, fun c hc => ?_, fun d hd => ?_⟩
  · have := Array.all_eq_true'.1 h1 e he
    simpa [hb] using this
  · rw [hc] at h2; cases h2
  · rw [hd] at h3
    simp only [Bool.and_eq_true, decide_eq_true_eq] at h3
    refine ⟨h3.1, fun j p hj hp hpd => ?_⟩
    have := List.all_eq_true.1 h3.2 j (List.mem_range.2 hj)
    simp [hp, hpd] at this
theorem regionOk_ne {ops : Array Oper} {n : Nat} (h : regionOk ops n = true) {i j : Nat} {o p : Oper} {d : Nat} (ho : ops[i]? = some o) (hp : ops[j]? = some p) (hd : o.dst = some d) (hij : i ≠ j) : p.dst ≠ some d := by
  rcases Nat.lt_or_ge j i with hlt | hge
  · exact ((regionOk_spec h ho).2.2 d hd).2 j p hlt hp
  · intro hpd
    exact ((regionOk_spec h hp).2.2 d hpd).2 i o (by omega) ho hd

def boolOf : Value → Option Bool | .bool b => some b | _ => none

section
variable {P : Program} {ops : Array Oper} {n : Nat} {Q : Exit → Act → World → Prop} {V : Nat → Value} {a0 : Act} {Inv : Array Bool → World → Prop}

theorem Agrees.start : Agrees ops V a0 (Array.replicate ops.size false) a0 :=
  ⟨rfl, rfl, (fun j o d _ _ hl => by rw [getD_replicate_false] at hl; cases hl), fun d _ => rfl⟩

theorem getD_set_iff {listed : Array Bool} {i j : Nat} (hi : i < listed.size) : (listed.setIfInBounds i true).getD j false = true ↔ j = i ∨ listed.getD j false = true := by
  by_cases h : i = j
  · subst h; simp [hi]
  · simp [Array.getElem?_setIfInBounds, h]; intro h'; exact absurd h'.symm h

theorem Agrees.put {listed : Array Bool} {a : Act} {i : Nat} {o : Oper} (hok : regionOk ops a0.tmps.size = true) (h : Agrees ops V a0 listed a) (hs : listed.size = ops.size) (ho : ops[i]? = some o) :
    Agrees ops V a0 (listed.setIfInBounds i true) (a.put o.dst (V i)) := by
  have hi : i < listed.size := by rw [hs]; exact (Array.getElem?_eq_some_iff.1 ho).1
  cases hd : o.dst with
  | none =>
    refine ⟨h.defers, h.size, fun j p d hp hpd hl => ?_, fun d hd' => h.old d fun j p hp hl => hd' j p hp ((getD_set_iff hi).2 (.inr hl))⟩
    rcases (getD_set_iff hi).1 hl with rfl | hl
    · rw [ho] at hp; cases hp; rw [hd] at hpd; cases hpd
    · exact h.got j p d hp hpd hl
  | some d0 =>
    have hd0 := ((regionOk_spec hok ho).2.2 d0 hd).1
    refine ⟨h.defers, by simpa [Act.put] using h.size, fun j p d hp hpd hl => ?_, fun d hd' => ?_⟩
    · show (a.tmps.setIfInBounds d0 (V i))[d]? = _
      rcases (getD_set_iff hi).1 hl with rfl | hl
      · rw [ho] at hp; cases hp; rw [hd] at hpd; cases hpd
        rw [Array.getElem?_setIfInBounds_self_of_lt (by rw [h.size]; exact hd0)]
      · by_cases hji : j = i
        · subst hji
          rw [ho] at hp; cases hp; rw [hd] at hpd; cases hpd
          rw [Array.getElem?_setIfInBounds_self_of_lt (by rw [h.size]; exact hd0)]
        · have hne : d0 ≠ d := fun e => by subst e; exact regionOk_ne hok ho hp hd (fun e => hji e.symm) hpd
          rw [Array.getElem?_setIfInBounds_ne hne]
          exact h.got j p d hp hpd hl
    · have hne : d0 ≠ d := fun e => by subst e; exact hd' i o ho ((getD_set_iff hi).2 (.inl rfl)) hd
      show (a.tmps.setIfInBounds d0 (V i))[d]? = _
      rw [Array.getElem?_setIfInBounds_ne hne]
      exact h.old d fun j p hp hl => hd' j p hp ((getD_set_iff hi).2 (.inr hl))

theorem ready_of_unlisted (hok : regionOk ops a0.tmps.size = true) {listed : Array Bool} (hs : listed.size = ops.size) : ∀ (k i : Nat), i < k → i < ops.size → listed.getD i false = false → Region.ready .any ops listed ≠ []
  | 0, i, h, _, _ => by omega
  | k + 1, i, h, hi, hl => by
    by_cases hr : ∃ j, j < i ∧ listed.getD j false = false
    · obtain ⟨j, hj, hlj⟩ := hr
      exact ready_of_unlisted hok hs k j (by omega) (by omega) hlj
    · intro he
      have : i ∈ Region.ready .any ops listed := by
        refine mem_ready.2 ⟨?_, ops[i], by simp [hi], fun e hea hb => ?_⟩
        · rw [← hs] at hi; simp [hi] at hl ⊢; exact hl
        · have := (regionOk_spec hok (i := i) (o := ops[i]) (by simp [hi])).1 e hea hb
          cases hx : listed.getD e.on false with
          | true => rfl
          | false => exact absurd ⟨e.on, this, hx⟩ hr
      rw [he] at this; cases this

/-- THE LAW, in a fence as wide as can be. -/
theorem wpIn_region_inv {F : Fence} {id : Nat} {w : World} (V : Nat → Value) (Inv : Array Bool → World → Prop) (hm : P.follows .mixedOrders = true) (hok : regionOk ops a0.tmps.size = true)
    (h0 : Inv (Array.replicate ops.size false) w.drew)
    (step : ∀ (i : Nat) (o : Oper) (listed : Array Bool) (a : Act) (w : World), ops[i]? = some o → listed.size = ops.size → listed.getD i false = false → (∀ e ∈ o.after, Region.binds .any e = true → listed.getD e.on false = true) → Agrees ops V a0 listed a → Inv listed w →
      (∀ j, listed.getD j false = true → (∃ p d, ops[j]? = some p ∧ p.dst = some d) → yielded ops a.tmps j = boolOf (V j)) → i < ops.size →
      if Region.wanted o (yielded ops a.tmps) then o.wpIn F n P a w (fun a' w' => a' = a.put o.dst (V i) ∧ Inv (listed.setIfInBounds i true) w') Q else (∀ f, o.about P w a.eval = some f → F.fn f) ∧ a.put o.dst undef = a.put o.dst (V i) ∧ Inv (listed.setIfInBounds i true) w)
    (fin : ∀ a w, Agrees ops V a0 (Array.replicate ops.size true) a → Inv (Array.replicate ops.size true) w → Q .normal a w) :
    (Code.region id ops true).wpIn F n P Q a0 w := by
  refine wpIn_region_any hm ?_
  have main : ∀ (fuel : Nat) (listed : Array Bool) (a : Act) (w : World), listed.size = ops.size → listed.count false ≤ fuel → Agrees ops V a0 listed a → Inv listed w → wpAnyIn F n P .any ops Q fuel listed a w := by
    intro fuel
    induction fuel with
    | zero =>
      intro listed a w hs hc ha hi
      have hall : listed = Array.replicate ops.size true := by
        have : false ∉ listed := by rw [← Array.count_eq_zero]; omega
        apply Array.ext
        · simp [hs]
        · intro i h1 h2
          have h3 : listed[i] ∈ listed := Array.getElem_mem h1
          cases hx : listed[i] with
          | true => simp
          | false => rw [hx] at h3; exact absurd h3 this
      subst hall
      refine ⟨?_, fin a w ha hi⟩
      rw [List.eq_nil_iff_forall_not_mem]
      intro i hi'
      have := (mem_ready.1 hi').1
      obtain ⟨o, ho, _⟩ := (mem_ready.1 hi').2
      have hlt : i < ops.size := (Array.getElem?_eq_some_iff.1 ho).1
      simp [hlt] at this
    | succ f ih =>
      intro listed a w hs hc ha hi
      refine ⟨fun he => ?_, fun i hir => ?_⟩
      · by_cases hx : ∃ i, i < ops.size ∧ listed.getD i false = false
        · obtain ⟨i, hi1, hi2⟩ := hx
          exact absurd he (ready_of_unlisted hok hs (i + 1) i (by omega) hi1 hi2)
        · have hall : listed = Array.replicate ops.size true := by
            apply Array.ext
            · simp [hs]
            · intro i h1 h2
              cases hx2 : listed[i] with
              | true => simp
              | false => exact absurd ⟨i, by omega, by simp [h1, hx2]⟩ hx
          subst hall
          exact fin a w ha hi
      · obtain ⟨hu, o, ho, hall⟩ := mem_ready.1 hir
        have hlt : i < listed.size := by rw [hs]; exact (Array.getElem?_eq_some_iff.1 ho).1
        have hu' : listed[i] = false := by simpa [hlt] using hu
        have hst := step i o listed a w ho hs (by simp [hlt, hu']) hall ha hi (fun j hj ⟨p, d, hp, hd⟩ => by simp only [yielded, hp, hd, Option.bind_some, ha.got j p d hp hd hj, boolOf]; cases V j <;> rfl) (by omega)
        have hst' : wpOpIn F n P ops Q i (fun a' w' => a' = a.put o.dst (V i) ∧ Inv (listed.setIfInBounds i true) w') a w := by unfold wpOpIn; rw [ho]; exact hst
        refine wpOpIn_mono (fun a' w' => ?_) hst'
        rintro ⟨rfl, hi'⟩
        refine ih _ _ _ (by simpa using hs) ?_ (ha.put hok hs ho) hi'
        have hpos : 0 < listed.count false := Array.count_pos_iff.2 (by rw [← hu']; exact Array.getElem_mem hlt)
        rw [Array.setIfInBounds, dif_pos hlt, Array.count_set]
        simp [hu']
        omega
  exact main ops.size _ a0 _ (by simp) (by simp) Agrees.start h0
/-! ### One operation -/
theorem step_none {o : Oper} {y : Nat → Option Bool} {X Y : Prop} (hg : o.guard = none) (h : X) : if Region.wanted o y then X else Y := by rw [if_pos (by simp [Region.wanted, hg])]; exact h
theorem step_yes {o : Oper} {y : Nat → Option Bool} {X Y : Prop} {j : Nat} {b : Bool} (hg : o.guard = some (j, b)) (hy : y j = some b) (h : X) : if Region.wanted o y then X else Y := by rw [if_pos (by simp [Region.wanted, hg, hy])]; exact h
theorem step_no {o : Oper} {y : Nat → Option Bool} {X Y : Prop} {j : Nat} {b : Bool} (hg : o.guard = some (j, b)) (hy : y j = some (!b)) (h : Y) : if Region.wanted o y then X else Y := by rw [if_neg (by simp [Region.wanted, hg, hy])]; exact h
theorem opIn_value {F : Fence} (hF : WideAt (P := P) F) {m : Nat} {o : Oper} {a : Act} {W W' : World} {v : Value} {K : Act → World → Prop} (hnd : ∀ c, o.op ≠ .defer c) (hrun : (execOp a.eval o).run P W = .ok (.value v) W') (hK : K (a.put o.dst v) W') : o.wpIn F m P a W K Q := by
  obtain ⟨h1, h2, h3, h4⟩ := hF
  unfold Oper.wpIn
  refine ⟨fun f _ => by rw [h1]; trivial, ?_⟩
  rw [h4 o a.eval hnd, hrun]
  exact hK
theorem opIn_skip {F : Fence} (hF : WideAt (P := P) F) {m : Nat} {o : Oper} {a : Act} {W W' : World} {K : Act → World → Prop} (hnd : ∀ c, o.op ≠ .defer c) (hrun : (execOp a.eval o).run P W = .ok .skip W') (hK : K (a.put o.dst undef) W') : o.wpIn F m P a W K Q := by
  obtain ⟨h1, h2, h3, h4⟩ := hF
  unfold Oper.wpIn
  refine ⟨fun f _ => by rw [h1]; trivial, ?_⟩
  rw [h4 o a.eval hnd, hrun]
  exact hK
theorem opIn_call {F : Fence} (hF : WideAt (P := P) F) {m : Nat} {o : Oper} {a : Act} {W W' : World} {f : FuncId} {args : Array Value} {K : Act → World → Prop} (hnd : ∀ c, o.op ≠ .defer c) (hrun : (execOp a.eval o).run P W = .ok (.enter f args) W')
    {R : Ending → World → Prop} (hc : Calls P f args W' R) (hK : ∀ e w, R e w → ∃ v, e = .returned v ∧ K (a.put o.dst v) w) : o.wpIn F m P a W K Q := by
  obtain ⟨h1, h2, h3, h4⟩ := hF
  unfold Oper.wpIn
  refine ⟨fun f _ => by rw [h1]; trivial, ?_⟩
  rw [h4 o a.eval hnd, hrun]
  refine ⟨(fun hd => by rw [h2] at hd; cases hd), ?_⟩
  refine (h3 _ _ _ _ _ hc).mono ?_
  intro e w hR
  obtain ⟨v, rfl, hK⟩ := hK e w hR
  exact hK
theorem Agrees.eval_got {listed : Array Bool} {a : Act} (h : Agrees ops V a0 listed a) {j d : Nat} {o : Oper} (ho : ops[j]? = some o) (hd : o.dst = some d) (hl : listed.getD j false = true) : a.eval (.tmp d) = V j := by
  have := h.got j o d ho hd hl
  simp [Act.eval, this]
theorem Agrees.eval_old {listed : Array Bool} {a : Act} (h : Agrees ops V a0 listed a) {d : Nat} (hd : ∀ (j : Nat) (o : Oper), ops[j]? = some o → o.dst ≠ some d) : a.eval (.tmp d) = a0.eval (.tmp d) := by
  have := h.old d fun j o ho _ => hd j o ho
  simp only [Act.eval, Array.getD_eq_getD_getElem?, this]
def noDst (ops : Array Oper) (d : Nat) : Bool := ops.all fun o => o.dst != some d
theorem noDst_spec {d : Nat} (h : noDst ops d = true) : ∀ (j : Nat) (o : Oper), ops[j]? = some o → o.dst ≠ some d := by
  intro j o ho hd
  have := Array.all_eq_true'.1 h o (Array.mem_of_getElem? ho)
  simp [hd] at this
end
end Go.Proofs.YtmepjbjmjbpchaaGreatDoor
end
