/- types.parts: its iterator's contract. -/
import Derived.Test.YthgiianmfehcaaaDoorTy3
import Derived.Test.YthgiianmfehcaaaDoorRange
import Derived.RangeFuncCalls
import Derived.Shelf.RegionOpen
import Derived.OwnWalkIn
import Derived.TacticsInMore
import Derived.LoopNIn
import Derived.LoopIn
namespace Go.Proofs.YthgiianmfehcaaaDoor
open Go Go.RowKit Go.Shelf
set_option linter.unusedVariables false
set_option linter.unusedSimpArgs false
attribute [local go_sem] Oper.semAt_some

theorem cutOf_len {c : UInt8} {l x y : List UInt8} (h : cutOf c l = some (x, y)) : x.length + 1 + y.length = l.length := by
  obtain ⟨_, h, _⟩ := cutOf_some _ _ _ _ h; rw [h]; simp; omega
/-- What stands between x in a type with cells. -/
def partsOf (l : List UInt8) : List (List UInt8 × Bool) :=
  if l = [105, 110, 100, 101, 120] then [(l, true)]
  else match h : cutOf 120 l with
    | none => [(l, true)]
    | some (x, y) => (x, false) :: partsOf y
termination_by l.length
decreasing_by have := cutOf_len h; omega
theorem partsOf_last {l : List UInt8} (h : l = [105, 110, 100, 101, 120] ∨ cutOf 120 l = none) : partsOf l = [(l, true)] := by
  unfold partsOf
  rcases h with h | h
  · rw [if_pos h]
  · split
    · rfl
    · split
      · rfl
      · rename_i h'; rw [h] at h'; cases h'
theorem partsOf_more {l x y : List UInt8} (h : l ≠ [105, 110, 100, 101, 120]) (hc : cutOf 120 l = some (x, y)) : partsOf l = (x, false) :: partsOf y := by
  rw [partsOf, if_neg h]
  split
  · rename_i h'; rw [hc] at h'; cases h'
  · rename_i h'; rw [hc] at h'; cases h'; rfl

theorem partsOf_ne (l : List UInt8) : 0 < (partsOf l).length := by
  unfold partsOf
  split
  · simp
  · split <;> simp

abbrev pEnc (x : List UInt8 × Bool) : Array Value := #[.string ⟨x.1.toArray⟩, .bool x.2]
def BoxS (B : Nat) (l : List UInt8) (W : World) : Prop := W.heap[B]? = some (.cells #[.string ⟨l.toArray⟩] 9 (0, 0))
def TBox (B : Nat) (W : World) (r : Nat) : Prop := r = B ∧ ∃ v, W.heap[B]? = some (.cells #[v] 9 (0, 0))

def boxLen (B : Nat) (W : World) : Nat := match W.cell? ⟨B, 0, none⟩ with | some (Value.string s) => s.size | _ => 0
theorem boxLen_eq {B : Nat} {l : List UInt8} {W : World} (h : BoxS B l W) : boxLen B W = l.length := by
  simp [boxLen, World.cell?, show W.heap[B]? = _ from h]; rfl
theorem grown_drewN (W : World) (n : Nat) : W.grownBy (W.drewN n) none := ⟨rfl, rfl, rfl, Nat.le_refl _, fun _ _ _ => rfl⟩

set_option maxRecDepth 100000 in
set_option maxHeartbeats 1000000 in
theorem parts_seq (n : Nat) (B : Nat) (l : List UInt8) (hl : l.length ≤ 140737488355328) (hn : 2 ≤ n) :
    SeqT Fence.wide n Tryd.prog 108 #[.pointer (some ⟨B, 0, none⟩)] pEnc (fun W W' => W'.heap[B]? = W.heap[B]?) (TBox B) (fun xs => xs = partsOf l) (fun pre => pre <+: partsOf l) (fun pre x => pre ++ [x] <+: partsOf l) (BoxS B l) := by
  intro yl J Jx W hW hJ hJx hY h0
  have hn1 : 1 ≤ n := by omega
  refine callsIn_of_wp Tryd.func108 rfl trivial ?_ rfl
  simp only [Tryd.ntmps108, List.size_toArray, List.length_cons, List.length_nil, Nat.reduceAdd, Nat.reduceSub, Array.replicate_succ, Array.replicate_zero, List.push_toArray, List.append_toArray, List.nil_append, List.cons_append]
  gi_wp2_with fail
  gi_loopw [] (fun wr => ∃ (pre : List (List UInt8 × Bool)) (r : List UInt8), pre ++ partsOf r = partsOf l ∧ r.length ≤ l.length ∧ BoxS B r wr ∧ J pre wr) (fun wr => boxLen B wr)
  case atStart => exact ⟨[], l, rfl, Nat.le_refl _, hW, h0⟩
  case round =>
    obtain ⟨pre, r, hr, hle, hb, hj⟩ := hrel
    have hcell : wr.cell? ⟨B, 0, none⟩ = some (.string ⟨r.toArray⟩) := by simp [World.cell?, show wr.heap[B]? = _ from hb]
    have hfz : wr.frozen? ⟨B, 0, none⟩ = false := by simp [World.frozen?, show wr.heap[B]? = _ from hb]
    have hsz : (ByteArray.mk r.toArray).size ≤ 9223372036854775806 := by show r.toArray.size ≤ _; simp; omega
    have Hr := Lib.hid hr; clear hr
    have last : ∀ (h : r = [105, 110, 100, 101, 120] ∨ cutOf 120 r = none), pre ++ [(r, true)] = partsOf l := fun h => by rw [← Hr.out, partsOf_last h]
    by_cases hx : r = [105, 110, 100, 101, 120]
    · have hl2 := Lib.hid (last (.inl hx))
      have hlen : pre ++ [(r, true)] <+: partsOf l := by rw [hl2.out]; exact List.prefix_rfl
      have hxb : (r == [105, 110, 100, 101, 120]) = true := by rw [hx]; rfl
      clear hx last
      cases hc : cutOf 120 r
      all_goals
        try (rename_i p; obtain ⟨x, y⟩ := p)
        have Hc := Lib.hid (show cutOf 120 (ByteArray.mk r.toArray).data.toList = _ from hc); clear hc
        gi_wp2_with (refine ⟨trivial, ?_⟩; gi_at_call 86; refine (callsIn_wide.2 (cut_one _ _ _ hsz)).mono ?_; rw [Hc.out]; rintro e w' ⟨⟨nd, rfl⟩, he⟩; obtain rfl := he; obtain ⟨fn, tmps, assign, body, hy, hR⟩ := hY pre (r, true) (wr.drewN nd) (hJ pre wr _ none hj (grown_drewN _ _) (fun r e => by cases e)) hlen; dsimp only [pEnc] at hy)
        refine hR.mono ?_
        rintro e W' (⟨rfl, hJ3, hk3⟩ | ⟨rfl, hJx3⟩)
        · gi_wp2
          refine bodyPost_ret (results_none rfl _ _ _) rfl ?_
          exact ⟨⟨_, rfl⟩, .inl ⟨_, hl2.out, hJ3⟩⟩
        · gi_wp2
          refine bodyPost_ret (results_none rfl _ _ _) rfl ?_
          exact ⟨⟨_, rfl⟩, .inr ⟨_, by rw [hl2.out]; exact List.prefix_rfl, hJx3⟩⟩
    · have hxb : (r == [105, 110, 100, 101, 120]) = false := by rw [beq_eq_false_iff_ne]; exact hx
      have Hx := Lib.hid hx; clear hx
      cases hc : cutOf 120 r with
      | none =>
        have hl2 := Lib.hid (last (.inr hc))
        have hlen : pre ++ [(r, true)] <+: partsOf l := by rw [hl2.out]; exact List.prefix_rfl
        clear last
        have Hc := Lib.hid (show cutOf 120 (ByteArray.mk r.toArray).data.toList = _ from hc); clear hc
        gi_wp2_with (refine ⟨trivial, ?_⟩; gi_at_call 86; refine (callsIn_wide.2 (cut_one _ _ _ hsz)).mono ?_; rw [Hc.out]; rintro e w' ⟨⟨nd, rfl⟩, he⟩; obtain rfl := he; obtain ⟨fn, tmps, assign, body, hy, hR⟩ := hY pre (r, true) (wr.drewN nd) (hJ pre wr _ none hj (grown_drewN _ _) (fun r e => by cases e)) hlen; dsimp only [pEnc] at hy)
        refine hR.mono ?_
        rintro e W' (⟨rfl, hJ3, hk3⟩ | ⟨rfl, hJx3⟩)
        · gi_wp2
          refine bodyPost_ret (results_none rfl _ _ _) rfl ?_
          exact ⟨⟨_, rfl⟩, .inl ⟨_, hl2.out, hJ3⟩⟩
        · gi_wp2
          refine bodyPost_ret (results_none rfl _ _ _) rfl ?_
          exact ⟨⟨_, rfl⟩, .inr ⟨_, by rw [hl2.out]; exact List.prefix_rfl, hJx3⟩⟩
      | some p =>
        obtain ⟨x, y⟩ := p
        clear last
        have hp := Lib.hid (partsOf_more Hx.out hc)
        have hlen : pre ++ [(x, false)] <+: partsOf l := ⟨partsOf y, by rw [← Hr.out, hp.out]; simp⟩
        have hly := cutOf_len hc
        have Hc := Lib.hid (show cutOf 120 (ByteArray.mk r.toArray).data.toList = some (x, y) from hc); clear hc
        gi_wp2_with (refine ⟨trivial, ?_⟩; gi_at_call 86; refine (callsIn_wide.2 (cut_one _ _ _ hsz)).mono ?_; rw [Hc.out]; rintro e w' ⟨⟨nd, rfl⟩, he⟩; obtain rfl := he; obtain ⟨fn, tmps, assign, body, hy, hR⟩ := hY pre (x, false) (wr.drewN nd) (hJ pre wr _ none hj (grown_drewN _ _) (fun r e => by cases e)) hlen; dsimp only [pEnc] at hy)
        refine hR.mono ?_
        rintro e W' (⟨rfl, hJ3, hk3⟩ | ⟨rfl, hJx3⟩)
        · have hb3 : BoxS B r W' := hk3.trans hb
          have hc3 : W'.cell? ⟨B, 0, none⟩ = some (.string ⟨r.toArray⟩) := by simp [World.cell?, show W'.heap[B]? = _ from hb3]
          have hf3 : W'.frozen? ⟨B, 0, none⟩ = false := by simp [World.frozen?, show W'.heap[B]? = _ from hb3]
          have Hk3 := Lib.hid hk3; clear hk3
          have Hly := Lib.hid hly; clear hly
          gi_wp2
          have hb4 : BoxS B y (W'.setCell ⟨B, 0, none⟩ (.string ⟨y.toArray⟩)) := one_setCell hb3
          go_roundw
          case rel => exact ⟨pre ++ [(x, false)], y, by rw [← Hr.out, hp.out]; simp, by have := Hly.out; omega, hb4, hJ _ W' _ (some B) hJ3 (grownBy_setCell' W' B _) (fun r e => by cases e; exact .inl ⟨rfl, _, hb3⟩)⟩
          case measure => rw [boxLen_eq hb4, boxLen_eq hb]; have := Hly.out; omega
        · gi_wp2
          refine bodyPost_ret (results_none rfl _ _ _) rfl ?_
          exact ⟨⟨_, rfl⟩, .inr ⟨_, by rw [← Hr.out, hp.out]; simp, hJx3⟩⟩
end Go.Proofs.YthgiianmfehcaaaDoor
