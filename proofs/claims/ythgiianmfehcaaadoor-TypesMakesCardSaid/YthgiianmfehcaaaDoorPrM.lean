/- The statement TypesMakes: the row's step. -/
import Derived.Test.YthgiianmfehcaaaDoorLwM
import Derived.Test.YthgiianmfehcaaaDoorPost
import Derived.Test.YthgiianmfehcaaaDoorCards
import Derived.Test.YthgiianmfehcaaaDoorTie
import Derived.WalkKit
import Derived.ProofKit
import Derived.OpenShut
import Derived.Deep.DeepHandedRow
import Derived.Lib.LaidTab
namespace Go.Proofs.YthgiianmfehcaaaDoor.typesMakes
open Go.ChangeShapes Go.WideShapes Go.ChangeAt Go.RowKit
set_option linter.unusedVariables false

theorem own : ownKnob Tryd.prog.godebug = none := by kernel_rfl
theorem laid_tail {P : Program} {W : World} {x : String × DataW Unit} {rest : List (String × DataW Unit)} (h : laidMet P (x :: rest) W) : laidMet P rest W := by
  obtain ⟨ps, ⟨g', t', cs, fuel, p, q, hg', ht', hvar, hd, hq, hrest⟩, h2⟩ := h
  subst hrest
  exact ⟨q, hq, (List.nodup_append.1 h2.1).2.1, fun b off hm => h2.2 b off (List.mem_append_right _ hm)⟩
theorem pow_of {W : World} (h : laidMetH Tryd.prog Rows.typesMakesRow.laid W) : Pow W :=
  Lib.tabIs_of_head (g := 1) (t := 139) (e := 36) (n := 20) (rest := [("unicode/utf8.acceptRanges", Rows.laid_unicode_utf8_acceptRanges), ("unicode/utf8.first", Rows.laid_unicode_utf8_first)]) (by kernel_rfl) (by kernel_rfl) (by kernel_rfl) (by kernel_rfl) (by kernel_rfl) (by kernel_rfl) (laid_tail (laid_tail (show laidMet Tryd.prog Rows.typesMakesRow.laid W from h)))
theorem glob_of {W : World} (h : laidMetH Tryd.prog Rows.typesMakesRow.laid W) (hsh : W.ShapedOpen Tryd.prog) : Glob W := by
  obtain ⟨m, hm⟩ := Tryd.laysM138.s1_3 W hsh
  refine ⟨pow_of h, ⟨m, hm⟩, ?_⟩
  rcases Nat.eq_zero_or_pos W.heap.size with h0 | h0
  · exfalso
    have : W.heap[0]? = none := Array.getElem?_eq_none (by omega)
    have hm' : W.cell? ⟨0, 0, none⟩ = some (.int .i64 m) := hm
    simp [World.cell?, this] at hm'
  · exact h0

set_option maxRecDepth 100000 in
theorem contract (H : Type) (enc : TypeId × Value → H) (W : World) (base : Nat) (args : Array Value) (ds gs : List (DataW H)) (before : List MemPlace)
    (hval : ∀ (j : Nat) t v, Tryd.f3.params[j]? = some t → args[j]? = some v → Value.okWide Tryd.prog W .any base t v)
    (hW : DataW.Whole enc Tryd.prog Tryd.f3.params.toList Rows.typesMakesSpec.vars false W args.toList ds gs before) (hG : Glob W) :
    Calls Tryd.prog 3 args W fun e W' => ∃ v, e = .returned v ∧ Rows.typesMakesSpec.post enc Tryd.prog Tryd.f3 false true false false W args v W' := by
  have hW' := hW
  obtain ⟨p, q, hA0, hV, rfl, hfz, hnd⟩ := hW
  have hA : DataW.TrodAll enc Tryd.prog W 0 (fun _ => true) true Tryd.f3.params.toList args.toList ds p := hA0
  rw [Tryd.params3] at hA hval
  obtain ⟨v0, vs0, d0, ds0, p0, q0, hargs, rfl, rfl, h0, r0⟩ := trodAll_cons hA
  obtain ⟨v1, vs1, d1, ds1, p1, q1, rfl, rfl, rfl, h1, r1⟩ := trodAll_cons r0
  obtain ⟨v2, vs2, d2, ds2, p2, q2, rfl, rfl, rfl, h2, r2⟩ := trodAll_cons r1
  obtain ⟨rfl, rfl, rfl⟩ := trodAll_nil r2
  obtain rfl : args = #[v0, v1, v2] := Array.ext' hargs
  obtain ⟨rfl, rfl⟩ := trodVars_none hV
  obtain ⟨k, rfl, rfl, rfl, wk⟩ := open_int Tryd.underlying3 (hval 0 3 v0 rfl rfl) h0
  obtain ⟨s, rfl, rfl, rfl, hs⟩ := Go.ChangeMaps.open_string Tryd.underlying9 (hval 2 9 v2 rfl rfl) h2
  have hA1 := h1
  obtain ⟨a1, n1, c1, rfl⟩ := okWide_slice Tryd.underlying22 (hval 1 22 v1 rfl rfl)
  obtain ⟨fuel, hf⟩ := h1
  have hwk := bounds_i64 wk
  have fin : ∀ (zs : List Int), zs.length = n1 → IntSl W a1 zs → (∀ z ∈ zs, -9223372036854775808 ≤ z ∧ z ≤ 9223372036854775807) → zs.length ≤ 9223372036854775807 →
      Calls Tryd.prog 3 #[.int .i64 k, .slice a1 n1 c1, .string s] W fun e W' => ∃ v, e = .returned v ∧ Rows.typesMakesSpec.post enc Tryd.prog Tryd.f3 false true false false W #[.int .i64 k, .slice a1 n1 c1, .string s] v W' := by
    intro zs hzl hsl hzr hlen
    subst hzl
    refine (makes_law k hwk.1 hwk.2 a1 c1 zs hzr s W hG hsl hlen).mono fun e W' ⟨he, hb⟩ => ⟨_, he, ?_⟩
    exact post_below (by kernel_rfl) (of_decide_eq_true (by kernel_rfl)) rfl hW' rfl hb 4 Tryd.underlying4 (by kernel_rfl) rfl
  rcases open_ints Tryd.underlying22 Tryd.underlying3 (by kernel_rfl) hf with ⟨hcs, hx⟩ | ⟨a, len, cap, zs, hcs, -, hl, hm, hz, hx, hcell, hwz⟩
  · simp [Value.cells] at hcs
    obtain ⟨rfl, rfl, rfl⟩ := hcs
    exact fin [] rfl (.inl rfl) (by simp) (by simp)
  · simp [Value.cells] at hcs
    obtain ⟨rfl, rfl, rfl⟩ := hcs
    have hz' : zs.length = c1 := by simpa using hz
    have hml : maxLen = 9223372036854775807 := rfl
    have hr64 : ∀ z ∈ zs, -9223372036854775808 ≤ z ∧ z ≤ 9223372036854775807 := fun z h => bounds_i64 (hwz z h)
    refine fin (zs.take n1) (by simp; omega) ?_ (fun z h => hr64 z (List.mem_of_mem_take h)) (by simp; omega)
    rcases Nat.eq_zero_or_pos n1 with rfl | hpos
    · exact .inl rfl
    · obtain ⟨g, off, vw⟩ := a
      have h0 := hcell 0 (by omega)
      have hvw : vw = none ∧ g < W.heap.size := by
        cases hb : W.heap[g]? with
        | none => cases vw <;> simp [World.cell?, Addr.add, hb] at h0
        | some o =>
          refine ⟨?_, blkLt hb⟩
          cases vw with
          | none => rfl
          | some u => cases o <;> simp [World.cell?, Addr.add, hb] at h0
      obtain ⟨rfl, hg⟩ := hvw
      refine .inr ⟨g, off, rfl, hg, fun j hj => ?_⟩
      have hj' : j < n1 := by simp at hj; omega
      have := hcell j (by omega)
      have had : (Addr.mk g off none).add j = ⟨g, off + j, none⟩ := by
        unfold Addr.add; split
        · rename_i h; subst h; rfl
        · rfl
      rw [had] at this
      rw [this]
      simp [hj']

/-- A datum's cells. -/
def flat : DataW Unit → List Value
  | .lit (.int k n) => [.int k n]
  | .agg l => flats l
  | _ => []
where flats : List (DataW Unit) → List Value
  | [] => []
  | x :: l => flat x ++ flats l
noncomputable def layOne (w : World) (x : String × DataW Unit) : World :=
  match Tryd.prog.globalNamed x.1 with
  | some g => { w with heap := w.heap.modify g fun
      | .cells _ t frozen => .cells (flat x.2).toArray t frozen
      | o => o }
  | none => w
/-- A WORLD FOR THE WITNESS: the settled one, the tables holding what their initialisers lay. -/
noncomputable def laidWorld (os : Os) : World := Rows.typesMakesRow.laid.foldl layOne (World.holding Tryd.prog os ⟨#[], #[], []⟩)
def wArgs : Array Value := #[.int .i64 0, .slice none 0 0, .string ⟨#[]⟩]
theorem laid_met (os : Os) : laidMet Tryd.prog Rows.typesMakesRow.laid ((laidWorld os).forCall (fun _ _ => 0) ⟨#[], wArgs, []⟩).memory :=
  laidMet_of_run' 8 (by kernel_rfl) (by kernel_rfl)
theorem reads (os : Os) {H : Type} (enc : TypeId × Value → H) : ∃ places, DataW.whole enc Tryd.prog ((laidWorld os).forCall (fun _ _ => 0) ⟨#[], wArgs, []⟩).memory Tryd.f3.params.toList Rows.typesMakesSpec.vars false wArgs.toList 8 = some ([.lit (.int .i64 0), .nil, .lit (.string [])], [], places) :=
  ⟨[], by kernel_rfl⟩

end Go.Proofs.YthgiianmfehcaaaDoor.typesMakes
