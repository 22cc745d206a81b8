/- Package types: the text of a type that was read; Turned. -/
import Derived.Test.YthgiianmfehcaaaDoorTyC
import Derived.Test.YthgiianmfehcaaaDoorTyD
namespace Go.Proofs.YthgiianmfehcaaaDoor
open Go Go.RowKit Go.Sort
set_option linter.unusedVariables false
set_option linter.unusedSimpArgs false

/-- A row of ints. -/
def IntRow (W : World) (g : Nat) (zs : List Int) : Prop := g < W.heap.size ∧ ∀ j, j < zs.length → W.cell? ⟨g, 0 + j, none⟩ = some (.int .i64 (zs.getD j 0))
theorem IntRow.below {W W1 : World} {g : Nat} {zs : List Int} (h : IntRow W g zs) (hb : Below W.heap.size W W1) : IntRow W1 g zs :=
  ⟨Nat.lt_of_lt_of_le h.1 hb.size, fun j hj => (rdCell hb g h.1 (0 + j)).trans (h.2 j hj)⟩
theorem intRow_of_owns {W : World} {base : Nat} {v : Value} {n : Nat} {zs : List Int} (h : W.ownsRow base 3 1 v n (zs.map (.int .i64))) (hv : v ≠ .slice none 0 0) : ∃ g c, v = .slice (some ⟨g, 0, none⟩) n c ∧ base ≤ g ∧ IntRow W g zs ∧ zs.length = n := by
  obtain ⟨hl, h⟩ := h
  rcases h with ⟨rfl, -⟩ | ⟨g, cap, cur, rfl, hb, hg, h1, h2, h3, h4⟩
  · exact absurd rfl hv
  · have hln : zs.length = n := by simpa using hl
    refine ⟨g, cap, rfl, hb, ⟨blkLt hg, fun j hj => ?_⟩, hln⟩
    rw [blkCell hg, Nat.zero_add]
    have h5 : (cur.toList.take (n * 1))[j]? = some (.int .i64 (zs.getD j 0)) := by rw [h4]; simp [hj]
    rw [List.getElem?_take_of_lt (by omega)] at h5
    simpa using h5

section
variable (k : Nat) (b n : Nat) (zs : List Int) (x y z : Int) (w : World)
theorem listm_row (hn : n ≤ 3) (hz : [x, y, z].take n = zs) : Calls Tryd.prog 62 #[pv k b n x y z] w fun e w' => ∃ g c, e = .returned (.slice (some ⟨g, 0, none⟩) n c) ∧ IntRow w' g zs ∧ Below w.heap.size w w' :=
  (listm_any _ _ _ _ _ _ _ hn).mono fun e w' ⟨v, he, ho, hv, hb⟩ => by
    rw [hz] at ho
    obtain ⟨g, c, rfl, -, hr, -⟩ := intRow_of_owns ho hv
    exact ⟨g, c, he, hr, hb⟩
set_option maxHeartbeats 4000000 in
set_option maxRecDepth 100000 in
theorem textm_any (hk : k = 2 ∨ k = 3) (hb : b ≤ 64) (hn : n ≤ 3) (hz : [x, y, z].take n = zs) (hzr : ∀ u ∈ zs, 0 ≤ u ∧ u ≤ 1000) (hp : Pow w) :
    Calls Tryd.prog 66 #[pv k b n x y z] w fun e w' => e = .returned (.string ⟨(textOf k zs (elStr b)).toArray⟩) ∧ Below w.heap.size w w' := by
  have hzl : zs.length = n := by rw [← hz]; simp; omega
  have hel : (ByteArray.mk (elStr b).toArray).size ≤ 1000 := by
    unfold elStr
    split
    · decide
    · have := digs_small (by omega : b < 100)
      simp [ByteArray.size]; omega
  have HEL := Lib.hid hel
  have HZL := Lib.hid hzl
  have HZR := Lib.hid hzr
  have HZ := Lib.hid hz
  have HP := Lib.hid hp
  clear hel hzl hzr hz hp
  go_enter Tryd.func66, Tryd.ntmps66
  go_wp2_with fail
  go_region_with (first
    | (go_at_call 62; refine (listm_row k b n zs x y z _ hn HZ.out).mono ?_; rintro e w2 ⟨g, c, rfl, hrow, hb2⟩; have hq : Below w.heap.size w w2 := (by first | exact below_next hq hb2 | exact below_next (((Below.refl _ w).alloc (Nat.le_refl _) _).drew) hb2); have c1 := rdCell hb2 w.heap.size (by first | (simp; done) | assumption); have hz2 : w.heap.size < w2.heap.size := by have := hb2.size; (try simp at this); omega)
    | (go_at_call 63; refine (elm_any k b n x y z _ hb).mono ?_; rintro e w2 ⟨rfl, hb2⟩; have hq : Below w.heap.size w w2 := (by first | exact below_next hq hb2 | exact below_next (((Below.refl _ w).alloc (Nat.le_refl _) _).drew) hb2); (try have hrow := IntRow.below hrow hb2); have c1 := rdCell hb2 w.heap.size (by first | (simp; done) | assumption); have hz2 : w.heap.size < w2.heap.size := by have := hb2.size; (try simp at this); omega)
    | (go_at_call 44; refine (text_any k hk (some ⟨g, 0, none⟩) n c zs ⟨(elStr b).toArray⟩ _ (pow_below HP.out hq) HZL.out HZR.out hn HEL.out (fun j hj => ⟨g, 0, rfl, hrow.1, hrow.2 j (by have := HZL.out; omega)⟩)).mono ?_; rintro e w5 ⟨rfl, hb5⟩))
  all_goals (try go_wp2)
  all_goals go_ret
  all_goals exact ⟨rfl, below_next hq hb5⟩
end
end Go.Proofs.YthgiianmfehcaaaDoor
