/- What the laws use of types with cells; lists that are the same. -/
import Derived.Test.YthgiianmfehcaaaDoorLw1
namespace Go.Proofs.YthgiianmfehcaaaDoor
open Go Go.RowKit Go.Sort
set_option linter.unusedVariables false
set_option linter.unusedSimpArgs false

def Celled (q : Pd) : Prop := q.kind = 2 ∨ q.kind = 3
theorem askCel_yes {l : List UInt8} {q : Pd} (h : readOf l = some q) (hk : q.kind = 2 ∨ q.kind = 3) : askCel l = (q, 0) := by
  unfold askCel askOf; rw [h]; dsimp only; rw [if_pos]; simpa using hk
theorem askCel_no {l : List UInt8} {q : Pd} (h : readOf l = some q) (hk : ¬ (q.kind = 2 ∨ q.kind = 3)) : askCel l = (⟨0, 0, []⟩, 1) := by
  unfold askCel askOf; rw [h]; dsimp only; rw [if_neg]; simpa using hk
theorem askCel_none {l : List UInt8} (h : readOf l = none) : askCel l = (⟨0, 0, []⟩, 10) := askOf_no h
section
variable (s : ByteArray) (w : World) (hs : s.size ≤ 140737488355328)
include hs
section
variable {x : Nat} (h : askCel s.data.toList = (⟨0, 0, []⟩, x + 1))
include h
theorem shape_err : Calls Tryd.prog 32 #[.string s] w fun e w' => e = .returned (.tuple #[.slice none 0 0, .string ⟨#[]⟩, .int .i64 (x + 1 : Nat)]) ∧ Below w.heap.size w w' :=
  (shapeOf_no s w hs (by rw [h]; simp)).mono fun e w' ⟨he, hb⟩ => ⟨by rw [he, h], hb⟩
theorem cells_err : Calls Tryd.prog 33 #[.string s] w fun e w' => e = .returned (.tuple #[.int .i64 0, .int .i64 (x + 1 : Nat)]) ∧ Below w.heap.size w w' :=
  (cells_any s w hs).mono fun e w' ⟨he, hb⟩ => ⟨by rw [he, h]; rfl, hb⟩
theorem rank_err : Calls Tryd.prog 34 #[.string s] w fun e w' => e = .returned (.tuple #[.int .i64 0, .int .i64 (x + 1 : Nat)]) ∧ Below w.heap.size w w' :=
  (rank_any s w hs).mono fun e w' ⟨he, hb⟩ => ⟨by rw [he, h]; rfl, hb⟩
theorem element_err : Calls Tryd.prog 35 #[.string s] w fun e w' => e = .returned (.tuple #[.string ⟨#[]⟩, .int .i64 (x + 1 : Nat)]) ∧ Below w.heap.size w w' :=
  (elementOf_any s w hs).mono fun e w' ⟨he, hb⟩ => ⟨by rw [he, h]; rfl, hb⟩
theorem turned_err (hp : Pow w) : Calls Tryd.prog 36 #[.string s] w fun e w' => e = .returned (.tuple #[.string ⟨#[]⟩, .int .i64 (x + 1 : Nat)]) ∧ Below w.heap.size w w' :=
  (turned_any s w hs hp).mono fun e w' ⟨he, hb⟩ => ⟨by rw [he, h]; rfl, hb⟩
end
variable {q : Pd} (h : readOf s.data.toList = some q) (hk : q.kind = 2 ∨ q.kind = 3)
include h hk
theorem shape_yes : Calls Tryd.prog 32 #[.string s] w fun e w' => ∃ g c, e = .returned (.tuple #[.slice (some ⟨g, 0, none⟩) q.ext.length c, .string ⟨(elStr q.bits).toArray⟩, .int .i64 0]) ∧ IntRow w' g (extZ q.ext) ∧ Below w.heap.size w w' :=
  (shapeOf_yes s w hs (by rw [askCel_yes h hk])).mono fun e w' ⟨g, c, he, hr, hb⟩ => ⟨g, c, by rw [he, askCel_yes h hk], by rw [askCel_yes h hk] at hr; exact hr, hb⟩
theorem cells_yes : Calls Tryd.prog 33 #[.string s] w fun e w' => e = .returned (.tuple #[.int .i64 (prodW (extZ q.ext)), .int .i64 0]) ∧ Below w.heap.size w w' :=
  (cells_any s w hs).mono fun e w' ⟨he, hb⟩ => ⟨by rw [he, askCel_yes h hk]; rfl, hb⟩
theorem rank_yes : Calls Tryd.prog 34 #[.string s] w fun e w' => e = .returned (.tuple #[.int .i64 q.ext.length, .int .i64 0]) ∧ Below w.heap.size w w' :=
  (rank_any s w hs).mono fun e w' ⟨he, hb⟩ => ⟨by rw [he, askCel_yes h hk]; rfl, hb⟩
theorem element_yes' : Calls Tryd.prog 35 #[.string s] w fun e w' => e = .returned (.tuple #[.string ⟨(elStr q.bits).toArray⟩, .int .i64 0]) ∧ Below w.heap.size w w' :=
  (elementOf_any s w hs).mono fun e w' ⟨he, hb⟩ => ⟨by rw [he, askCel_yes h hk]; rfl, hb⟩
theorem turned_yes (hp : Pow w) : Calls Tryd.prog 36 #[.string s] w fun e w' => e = .returned (.tuple #[.string ⟨(textOf (5 - q.kind : Nat) (extZ q.ext) (elStr q.bits)).toArray⟩, .int .i64 0]) ∧ Below w.heap.size w w' :=
  (turned_any s w hs hp).mono fun e w' ⟨he, hb⟩ => ⟨by rw [he, askCel_yes h hk]; rfl, hb⟩
end

theorem shapeP_el : ∀ (ps : List (List UInt8 × Bool)) (ext : List Nat) (r : List Nat × Nat), shapeP ext ps = some r → ∃ p e, elemOf p = some e ∧ r.2 = (if e.kind = 1 then 0 else e.bits)
  | [], ext, r, h => by simp [shapeP] at h
  | (p, true) :: rest, ext, r, h => by
    simp only [shapeP] at h
    split at h
    · rename_i e he
      split at h
      · cases h; exact ⟨p, e, he, rfl⟩
      · cases h
    · cases h
  | (p, false) :: rest, ext, r, h => by
    simp only [shapeP] at h
    split at h
    · split at h
      · exact shapeP_el rest _ r h
      · cases h
    · cases h
theorem readOf_shape {l : List UInt8} {q : Pd} (h : readOf l = some q) (hk : q.kind = 2 ∨ q.kind = 3) : ∃ k l', shapeOf k l' = some q ∧ q.kind = k := by
  have hfo : ∀ {l : List UInt8}, foreignOf l = some q → False := fun h => by rw [foreignOf_ok h] at hk; simp at hk
  have hsh : ∀ {k : Nat} {l : List UInt8}, shapeOf k l = some q → q.kind = k := fun h => by
    unfold shapeOf at h
    rw [Option.map_eq_some_iff] at h
    obtain ⟨r, -, rfl⟩ := h
    rfl
  cases he : elemOf l with
  | some p =>
    rw [readOf_num he] at h; cases h
    have := (elemOf_ok he).2; omega
  | none =>
    unfold readOf at h
    rw [he] at h
    dsimp only at h
    split at h
    · split at h
      · exact ⟨_, _, h, hsh h⟩
      · split at h
        · exact ⟨_, _, h, hsh h⟩
        · exact (hfo h).elim
    · exact (hfo h).elim
theorem readOf_el {l : List UInt8} {q : Pd} (h : readOf l = some q) (hk : q.kind = 2 ∨ q.kind = 3) : ∃ e, elemOf (elStr q.bits) = some e := by
  obtain ⟨k, l', hs, -⟩ := readOf_shape h hk
  unfold shapeOf at hs
  rw [Option.map_eq_some_iff] at hs
  obtain ⟨r, hr, rfl⟩ := hs
  obtain ⟨p, e, he, hb⟩ := shapeP_el _ _ _ hr
  refine ⟨e, ?_⟩
  dsimp only
  rw [hb, ← elemOf_str he]; exact he

theorem prodW_snoc' (l : List Int) (n : Int) : prodW (l ++ [n]) = wrap64 (prodW l * n) := by simp [prodW, List.foldl_append]
theorem prodW_eq : ∀ (ext : List Nat), ext.length ≤ 3 → (∀ n ∈ ext, n ≤ 1000) → prodW (extZ ext) = (prodN ext : Nat) := by
  intro ext
  induction h : ext.length generalizing ext with
  | zero => intro _ _; rw [List.length_eq_zero_iff.1 h]; rfl
  | succ m ih =>
    intro hm ha
    obtain ⟨l, x, rfl⟩ : ∃ l x, ext = l ++ [x] := ⟨ext.dropLast, ext.getLast (by intro e; subst e; simp at h), (List.dropLast_concat_getLast _).symm⟩
    have hl : l.length = m := by simpa using h
    rw [extZ, List.map_append, List.map_singleton, prodW_snoc', ← extZ, ih l hl (by omega) (fun n hn => ha n (by simp [hn])), prodN_snoc, Int.natCast_mul]
    have h1 := prodN_le l (fun n hn => ha n (by simp [hn]))
    have h2 : (1000 : Nat) ^ l.length ≤ 1000 ^ 2 := Nat.pow_le_pow_right (by omega) (by omega)
    have h3 := ha x (by simp)
    have h4 : prodN l * x ≤ 1000000 * 1000 := Nat.mul_le_mul (by omega) h3
    have h5 : (prodN l : Int) * (x : Int) = ((prodN l * x : Nat) : Int) := (Int.natCast_mul _ _).symm
    unfold wrap64
    rw [h5]
    omega
theorem badExt_ext {ext : List Nat} (h : ∀ n ∈ ext, n ≤ 1000) : badExt (extZ ext) = false := by
  unfold badExt
  rw [List.any_eq_false]
  intro z hz
  simp only [extZ, List.mem_map] at hz
  obtain ⟨n, hn, rfl⟩ := hz
  have := h n hn
  simp; omega
/-- `Make` of the parts of a type that was read. -/
theorem makeOf_parts {l : List UInt8} {q : Pd} (h : readOf l = some q) (hk : q.kind = 2 ∨ q.kind = 3) {k : Int} (hk2 : k = 2 ∨ k = 3) : makeOf k (extZ q.ext) (elStr q.bits) = (textOf k (extZ q.ext) (elStr q.bits), 0) := by
  have hok := readOf_ok h
  obtain ⟨e, he⟩ := readOf_el h hk
  have hl : (extZ q.ext).length ≤ 3 := by simpa [extZ] using hok.rank
  unfold makeOf
  rw [if_neg (by rw [badExt_ext hok.each]; simp; omega), if_neg (by rw [he]; simp), if_neg (by rw [prodW_eq _ hok.rank hok.each]; have := hok.prod; omega)]
theorem intSl_own {W : World} {base : Nat} {sa : Option Addr} {sc n : Nat} {zs : List Int} (h : W.ownsRow base 3 1 (.slice sa n sc) n (zs.map (.int .i64))) : IntSl W sa zs ∧ zs.length = n := by
  have hln : zs.length = n := by have := h.1; simpa using this
  by_cases hv : Value.slice sa n sc = .slice none 0 0
  · cases hv
    exact ⟨.inl (List.length_eq_zero_iff.1 hln), hln⟩
  · obtain ⟨g, c, he, -, hr, -⟩ := intRow_of_owns h hv
    cases he
    exact ⟨.inr ⟨g, 0, rfl, hr.1, hr.2⟩, hln⟩
theorem intRow_sl {W : World} {g : Nat} {zs : List Int} (h : IntRow W g zs) : IntSl W (some ⟨g, 0, none⟩) zs := .inr ⟨g, 0, rfl, h.1, h.2⟩
theorem extZ_vals (ext : List Nat) : ext.map (fun (n : Nat) => Value.int .i64 n) = (extZ ext).map (.int .i64) := by simp [extZ]

set_option maxRecDepth 100000 in
set_option maxHeartbeats 2000000 in
theorem same_eq (a b : Option Addr) (c d : Nat) (zs : List Int) (w : World) (ha : IntSl w a zs) (hb : IntSl w b zs) (hl : zs.length ≤ 9223372036854775807) :
    Calls Tryd.prog 38 #[.slice a zs.length c, .slice b zs.length d] w fun e w' => e = .returned (.bool true) ∧ Below w.heap.size w w' := by
  have HA := Lib.hid ha
  have HB := Lib.hid hb
  clear ha hb
  go_enter Tryd.func38, Tryd.ntmps38
  go_wp2_with fail
  go_loopw [5] (fun i wr => ∃ (j : Nat), j ≤ zs.length ∧ i = .int .i64 j ∧ Below w.heap.size w wr) (fun i _ => zs.length - (intOf i).toNat)
  case atStart => exact ⟨0, Nat.zero_le _, rfl, Below.refl _ _⟩
  case round =>
    obtain ⟨j, hj, rfl, hbw⟩ := hrel
    have HBW := Lib.hid hbw
    clear hbw
    rcases Nat.lt_or_ge j zs.length with hlt | hge
    · obtain ⟨g, off, rfl, hg, hcell⟩ := (HA.out.below HBW.out).at hlt
      obtain ⟨g2, off2, rfl, hg2, hcell2⟩ := (HB.out.below HBW.out).at hlt
      obtain ⟨z, hz⟩ : ∃ z, z = zs.getD j 0 := ⟨_, rfl⟩
      rw [← hz] at hcell hcell2
      clear hz hg hg2
      have hlt' : (j : Int) < (zs.length : Int) := by omega
      go_wp2_with fail
      go_quiet (fail)
      go_wp2_with fail
      go_roundw
      · exact ⟨j + 1, hlt, by simp, by repeat (first | exact HBW.out | exact HBW.out.drew | refine belowN ?_ _)⟩
      · simp [intOf]; omega
    · have hje : j = zs.length := by omega
      subst hje
      go_wp2_with fail
      go_ret
      exact ⟨rfl, HBW.out⟩
end Go.Proofs.YthgiianmfehcaaaDoor
