/- A long statement in one frame: the operations that only reckon are run by the kernel; a call, or a read of the heap, is met by hand. -/
import Derived.Test.YthgiianmfehcaaaDoorStill
namespace Go.Proofs.YthgiianmfehcaaaDoor
open Go
set_option linter.unusedVariables false
set_option linter.unusedSimpArgs false
section
variable {P : Program} {ops : Array Oper} {Q : Exit → Act → World → Prop}
/-- n operations from s on, each of which gives a value or is not wanted. -/
def runTo (P : Program) (ops : Array Oper) : Nat → Nat → Act → World → Option (Act × World)
  | s, 0, a, w => some (a, w)
  | s, n + 1, a, w =>
    match ops[s]? with
    | none => none
    | some o =>
      if Region.wanted o (yielded ops a.tmps) then
        match (execOp a.eval o).run P w with
        | .ok (.value v) w' => runTo P ops (s + 1) n (a.put o.dst v) w'
        | _ => none
      else runTo P ops (s + 1) n (a.put o.dst undef) w
theorem wpOps_run : ∀ (n s m : Nat) (a : Act) (w : World) (a' : Act) (w' : World), runTo P ops s n a w = some (a', w') → wpOps P ops Q (List.range' (s + n) m) a' w' → wpOps P ops Q (List.range' s (n + m)) a w
  | 0, s, m, a, w, a', w', h, hr => by
    simp only [runTo, Option.some.injEq, Prod.mk.injEq] at h
    obtain ⟨rfl, rfl⟩ := h
    simpa using hr
  | n + 1, s, m, a, w, a', w', h, hr => by
    rw [show n + 1 + m = (n + m) + 1 by omega, List.range'_succ]
    simp only [runTo] at h
    unfold wpOps
    cases ho : ops[s]? with
    | none => rw [ho] at h; cases h
    | some o =>
      rw [ho] at h
      dsimp only at h ⊢
      split at h
      · rename_i hw
        rw [if_pos hw]
        left
        unfold Oper.wp
        split at h
        · rename_i v w1 he
          rw [he]
          rw [Oper.upon_value]
          exact wpOps_run n (s + 1) m _ _ a' w' h (by rw [show s + 1 + n = s + (n + 1) by omega]; exact hr)
        · cases h
      · rename_i hw
        rw [if_neg hw]
        exact wpOps_run n (s + 1) m _ _ a' w' h (by rw [show s + 1 + n = s + (n + 1) by omega]; exact hr)
theorem wpOps_seg (n s m : Nat) {a : Act} {w : World} (h : (runTo P ops s n a w).isSome = true) (hw : ((runTo P ops s n a w).getD (a, w)).2 = w)
    (hr : wpOps P ops Q (List.range' (s + n) m) ((runTo P ops s n a w).getD (a, w)).1 w) : wpOps P ops Q (List.range' s (n + m)) a w := by
  obtain ⟨⟨a', w'⟩, he⟩ := Option.isSome_iff_exists.1 h
  rw [he] at hw hr
  simp only [Option.getD_some] at hw hr
  subst hw
  exact wpOps_run n s m a w' a' w' he hr
/-- One operation that is met by hand. -/
theorem wpOps_one {s m : Nat} {a : Act} {w : World} {o : Oper} (ho : ops[s]? = some o) (hw : Region.wanted o (yielded ops a.tmps) = true) (h : o.wp P a w (wpOps P ops Q (List.range' (s + 1) m)) Q) : wpOps P ops Q (List.range' s (m + 1)) a w := by
  rw [List.range'_succ]
  unfold wpOps
  rw [ho]
  dsimp only
  rw [if_pos hw]
  exact .inl h
theorem wp_region_from {id n : Nat} {a : Act} {w : World} (hn : ops.size = n) (h : wpOps P ops Q (List.range' 0 n) a w) : (Code.region id ops false).wp P Q a w :=
  wp_region (by rw [hn, List.range_eq_range']; exact h)
end
end Go.Proofs.YthgiianmfehcaaaDoor
