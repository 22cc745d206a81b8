/- More walks of package types: properties of what was read. -/
import Derived.Test.YthgiianmfehcaaaDoorTy2
import Derived.Test.YthgiianmfehcaaaDoorMap
import Derived.Maps.RangeRun
namespace Go.Proofs.YthgiianmfehcaaaDoor
open Go Go.RowKit
set_option linter.unusedVariables false
set_option linter.unusedSimpArgs false

abbrev pv (k b r x y z : Int) : Value := .agg #[.int .i64 k, .int .i64 b, .int .i64 r, .int .i64 x, .int .i64 y, .int .i64 z]

section
variable (k b r x y z : Int) (w : World)
theorem anything_any : Calls Tryd.prog 59 #[pv k b r x y z] w fun e w' => e = .returned (.bool true) ∧ Below w.heap.size w w' := by
  go_enter Tryd.func59, Tryd.ntmps59
  go_wp2_with fail
  go_ret
  exact ⟨rfl, (Below.refl _ w).alloc (Nat.le_refl _) _⟩
theorem numeric_any : Calls Tryd.prog 46 #[pv k b r x y z] w fun e w' => e = .returned (.bool (k == 0 || k == 1)) ∧ Below w.heap.size w w' := by
  cases h : (k == 0)
  all_goals
    go_enter Tryd.func46, Tryd.ntmps46
    go_wp2_with fail
    all_goals (go_ret; exact ⟨by simp, (Below.refl _ w).alloc (Nat.le_refl _) _⟩)
theorem celled_any : Calls Tryd.prog 61 #[pv k b r x y z] w fun e w' => e = .returned (.bool (k == 2 || k == 3)) ∧ Below w.heap.size w w' := by
  cases h : (k == 2)
  all_goals
    go_enter Tryd.func61, Tryd.ntmps61
    go_wp2_with fail
    all_goals (go_ret; exact ⟨by simp, (Below.refl _ w).alloc (Nat.le_refl _) _⟩)
theorem other_any (h0 : 0 ≤ k) (h1 : k ≤ 5) : Calls Tryd.prog 81 #[pv k b r x y z] w fun e w' => e = .returned (.int .i64 (5 - k)) ∧ Below w.heap.size w w' := by
  go_enter Tryd.func81, Tryd.ntmps81
  go_wp2_with fail
  go_ret
  exact ⟨rfl, (Below.refl _ w).alloc (Nat.le_refl _) _⟩
theorem part_any (h0 : 0 ≤ b) (h1 : b ≤ 64) : Calls Tryd.prog 49 #[pv k b r x y z] w fun e w' => e = .returned (.int .u64 (64 - b)) ∧ Below w.heap.size w w' := by
  go_enter Tryd.func49, Tryd.ntmps49
  go_wp2_with fail
  go_ret
  exact ⟨rfl, (Below.refl _ w).alloc (Nat.le_refl _) _⟩
theorem wrap_low : ∀ b : Fin 65, 1 ≤ b.val → wrap64 (-2 ^ (b.val - 1)) = -2 ^ (b.val - 1) := by decide +kernel
theorem wrap_high : ∀ b : Fin 65, 1 ≤ b.val → wrap64 (wrap64 (2 ^ (b.val - 1)) - 1) = 2 ^ (b.val - 1) - 1 := by decide +kernel
theorem low_any (h0 : 1 ≤ b) (h1 : b ≤ 64) : Calls Tryd.prog 47 #[pv k b r x y z] w fun e w' => e = .returned (.int .i64 (-2 ^ (b.toNat - 1))) ∧ Below w.heap.size w w' := by
  have hw := Lib.hid (wrap_low ⟨b.toNat, by omega⟩ (by simp; omega))
  go_enter Tryd.func47, Tryd.ntmps47
  go_wp2_with fail
  go_ret
  exact ⟨by simpa using hw.out, (Below.refl _ w).alloc (Nat.le_refl _) _⟩
theorem high_any (h0 : 1 ≤ b) (h1 : b ≤ 64) : Calls Tryd.prog 48 #[pv k b r x y z] w fun e w' => e = .returned (.int .i64 (2 ^ (b.toNat - 1) - 1)) ∧ Below w.heap.size w w' := by
  have hw := Lib.hid (wrap_high ⟨b.toNat, by omega⟩ (by simp; omega))
  go_enter Tryd.func48, Tryd.ntmps48
  go_wp2_with fail
  go_ret
  exact ⟨by simpa using hw.out, (Below.refl _ w).alloc (Nat.le_refl _) _⟩
set_option maxRecDepth 100000 in
theorem isZero_any (h0 : k ≠ 0 ∨ b ≠ 0) : Calls Tryd.prog 60 #[pv k b r x y z] w fun e w' => e = .returned (.bool false) ∧ Below w.heap.size w w' := by
  have h : (k ≠ 0) ∨ (k = 0 ∧ b ≠ 0) := by omega
  clear h0
  rcases h with h | ⟨rfl, h⟩
  all_goals
    go_enter Tryd.func60, Tryd.ntmps60
    go_wp2_with fail
    go_ret
    exact ⟨rfl, (Below.refl _ w).alloc (Nat.le_refl _) _⟩
end

def wordEs : Array MapEntry := #[⟨.int .i64 2, .string ⟨#[109, 101, 109, 60]⟩, 0⟩, ⟨.int .i64 3, .string ⟨#[97, 114, 114, 60]⟩, 1⟩]
theorem words_any (w : World) : Calls Tryd.prog 71 #[] w fun e w' => e = .returned (.map (some w.heap.size)) ∧ w.alloc (.map wordEs 2) = w' := by
  have hmm := @run_makeMap Tryd.prog
  have h1 : (Instr.mapUpdate 105 (.map (some w.heap.size)) (.int .i64 2) (.string ⟨#[109, 101, 109, 60]⟩)).run Tryd.prog (w.alloc (.map #[] 0)) = .ok () (w.alloc (.map #[⟨.int .i64 2, .string ⟨#[109, 101, 109, 60]⟩, 0⟩] 1)) := by
    rw [run_mapUpdate_new _ Tryd.underlying105 Tryd.underlying26 (run_checkKey_int Tryd.underlying26 _ _ _) rfl (heap_alloc_new w _), World.setIn_alloc]; rfl
  have h2 : (Instr.mapUpdate 105 (.map (some w.heap.size)) (.int .i64 3) (.string ⟨#[97, 114, 114, 60]⟩)).run Tryd.prog (w.alloc (.map #[⟨.int .i64 2, .string ⟨#[109, 101, 109, 60]⟩, 0⟩] 1)) = .ok () (w.alloc (.map wordEs 2)) := by
    rw [run_mapUpdate_new _ Tryd.underlying105 Tryd.underlying26 (run_checkKey_int Tryd.underlying26 _ _ _) rfl (heap_alloc_new w _), World.setIn_alloc]; rfl
  go_enter Tryd.func71, Tryd.ntmps71
  go_wp2_with fail
  go_ret
  exact ⟨rfl, rfl⟩

/-! ### strings.Cut at one byte -/
def cutOf (c : UInt8) : List UInt8 → Option (List UInt8 × List UInt8)
  | [] => none
  | b :: l => if b = c then some ([], l) else (cutOf c l).map fun p => (b :: p.1, p.2)
theorem cutOf_none : ∀ (l : List UInt8) (c : UInt8), cutOf c l = none → Lib.indexByte l c = -1
  | [], c, _ => rfl
  | b :: l, c, h => by
    simp only [cutOf] at h
    split at h
    · cases h
    · rename_i hb
      simp only [Option.map_eq_none_iff] at h
      simp [Lib.indexByte, hb, cutOf_none l c h]
theorem cutOf_some : ∀ (l : List UInt8) (c : UInt8) (x y : List UInt8), cutOf c l = some (x, y) → Lib.indexByte l c = x.length ∧ l = x ++ c :: y ∧ c ∉ x
  | [], c, x, y, h => by simp [cutOf] at h
  | b :: l, c, x, y, h => by
    simp only [cutOf] at h
    split at h
    · rename_i hb
      simp only [Option.some.injEq, Prod.mk.injEq] at h
      obtain ⟨rfl, rfl⟩ := h
      simp [Lib.indexByte, hb]
    · rename_i hb
      simp only [Option.map_eq_some_iff] at h
      obtain ⟨⟨x', y'⟩, h, he⟩ := h
      simp only [Prod.mk.injEq] at he
      obtain ⟨rfl, rfl⟩ := he
      obtain ⟨h1, h2, h3⟩ := cutOf_some l c x' y' h
      refine ⟨?_, by rw [h2]; rfl, by simp [h3]; exact fun e => hb e.symm⟩
      have : ¬ ((x'.length : Int) = -1) := by omega
      simp [Lib.indexByte, hb, h1, this]
theorem ba_eq {s : ByteArray} {l : List UInt8} (h : s.data.toList = l) : s = ⟨l.toArray⟩ := by rw [← h, Lib.mk_data]

def CutPost (r : Option (List UInt8 × List UInt8)) (s : ByteArray) (w : World) (e : Ending) (w' : World) : Prop :=
  (∃ n, w' = w.drewN n) ∧
  match r with
  | none => e = .returned (.tuple #[.string s, .string ⟨#[]⟩, .bool false])
  | some (x, y) => e = .returned (.tuple #[.string ⟨x.toArray⟩, .string ⟨y.toArray⟩, .bool true])
theorem lite_cut_one (s : ByteArray) (c : UInt8) (w : World) (hsz : s.size ≤ 9223372036854775806) :
    Calls Tryd.prog 97 #[.string s, .string ⟨#[c]⟩] w (CutPost (cutOf c s.data.toList) s w) := by
  cases h : cutOf c s.data.toList with
  | none =>
    have hi := cutOf_none _ _ h
    clear h
    go_enter Tryd.func97, Tryd.ntmps97
    go_wp2_with (go_at_call 102; refine (Tryd.stringslite_Index_one _ _ _).mono ?_; rintro e w' ⟨rfl, rfl⟩; rw [hi])
    go_ret3
    exact ⟨⟨0, rfl⟩, rfl⟩
  | some p =>
    obtain ⟨x, y⟩ := p
    obtain ⟨hi, hl, _⟩ := cutOf_some _ _ _ _ h
    have hlen : s.size = x.length + 1 + y.length := by
      have : s.data.toList.length = s.size := by simp
      rw [hl] at this; simp at this; omega
    have hx : (s.extract 0 x.length) = ⟨x.toArray⟩ := ba_eq (by rw [Lib.extract_data, hl]; simp)
    have hy : (s.extract (x.length + 1) s.size) = ⟨y.toArray⟩ := ba_eq (by rw [Lib.extract_data, hl, hlen]; simp)
    have HX := Lib.hid hx
    have HY := Lib.hid hy
    have hle : x.length + 1 ≤ s.size := by omega
    have hi2 := Lib.hid hi
    clear h hl hx hy hlen hi
    go_enter Tryd.func97, Tryd.ntmps97
    go_wp2_with (go_at_call 102; refine (Tryd.stringslite_Index_one _ _ _).mono ?_; rintro e w' ⟨rfl, rfl⟩; rw [hi2.out])
    go_quiet (fail)
    go_wp2_with fail
    go_ret3
    exact ⟨⟨_, rfl⟩, by show Ending.returned (.tuple #[.string (s.extract 0 x.length), .string (s.extract (x.length + 1) s.size), .bool true]) = _; rw [HX.out, HY.out]⟩
theorem cut_one (s : ByteArray) (c : UInt8) (w : World) (hsz : s.size ≤ 9223372036854775806) :
    Calls Tryd.prog 86 #[.string s, .string ⟨#[c]⟩] w (CutPost (cutOf c s.data.toList) s w) := by
  cases h : cutOf c s.data.toList with
  | none =>
    have hr := Lib.hid h; clear h
    go_enter Tryd.func86, Tryd.ntmps86
    go_wp2_with (go_at_call 97; refine (lite_cut_one _ _ _ hsz).mono ?_; rw [hr.out]; rintro e w' ⟨⟨n, rfl⟩, he⟩; obtain rfl := he)
    go_ret3
    exact ⟨⟨n, rfl⟩, rfl⟩
  | some p =>
    obtain ⟨x, y⟩ := p
    have hr := Lib.hid h; clear h
    go_enter Tryd.func86, Tryd.ntmps86
    go_wp2_with (go_at_call 97; refine (lite_cut_one _ _ _ hsz).mono ?_; rw [hr.out]; rintro e w' ⟨⟨n, rfl⟩, he⟩; obtain rfl := he)
    go_ret3
    exact ⟨⟨n, rfl⟩, rfl⟩

/-! ### types.product -/
def prodW (l : List Int) : Int := l.foldl (fun a x => wrap64 (a * x)) 1
theorem prodW_snoc {zs : List Int} {k : Nat} (h : k < zs.length) : prodW (zs.take (k + 1)) = wrap64 (prodW (zs.take k) * zs[k]?.getD 0) := by
  rw [List.take_add_one, List.getElem?_eq_getElem h, prodW, List.foldl_append]; rfl
theorem product_any (g off n c : Nat) (zs : List Int) (w : World) (hn : n ≤ zs.length) (hm : n ≤ 9223372036854775807)
    (hc : ∀ j, j < zs.length → w.cell? ⟨g, off + j, none⟩ = some (.int .i64 (zs[j]?.getD 0))) :
    Calls Tryd.prog 43 #[.slice (some ⟨g, off, none⟩) n c] w fun e w' => e = .returned (.int .i64 (prodW (zs.take n))) ∧ w = w' := by
  go_enter Tryd.func43, Tryd.ntmps43
  go_wp2_with fail
  go_loop [3, 8] (fun p i => ∃ k : Nat, k ≤ n ∧ i = .int .i64 k ∧ p = .int .i64 (prodW (zs.take k))) (fun _ i => n - (intOf i).toNat)
  case atStart => exact ⟨0, Nat.zero_le _, rfl, rfl⟩
  case round =>
    obtain ⟨k, hk, rfl, rfl⟩ := hrel
    rcases Nat.lt_or_ge k n with hlt | hge
    · have hs := Lib.hid (prodW_snoc (zs := zs) (k := k) (by omega))
      go_wp2_with fail
      go_round
      case rel => exact ⟨k + 1, by omega, by go_num, by rw [hs.out]⟩
      case measure => simp [intOf]; omega
    · go_wp2_with fail
      go_ret
      exact ⟨by rw [show n = k by omega]; rfl, rfl⟩
theorem product_nil (c : Nat) (a : Option Addr) (w : World) :
    Calls Tryd.prog 43 #[.slice a 0 c] w fun e w' => e = .returned (.int .i64 1) ∧ w = w' := by
  go_enter Tryd.func43, Tryd.ntmps43
  go_wp2_with fail
  refine wp_loop_rounds 1 ?_
  rw [rounds_succ]
  go_wp2_with fail
  go_ret
  exact ⟨rfl, rfl⟩
end Go.Proofs.YthgiianmfehcaaaDoor
