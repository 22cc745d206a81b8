/- What the constants of `awake` are. -/
import Derived.Test.YthgiianmfehcaaaDoorTyH
import Derived.Test.YthgiianmfehcaaaDoorTyK
namespace Go.Proofs.YthgiianmfehcaaaDoor
open Go Go.RowKit Go.Sort
set_option linter.unusedVariables false
set_option linter.unusedSimpArgs false

/-- `readOf`, so that it can be reckoned. -/
def partsF : Nat → List UInt8 → List (List UInt8 × Bool)
  | 0, l => [(l, true)]
  | n + 1, l => if l = [105, 110, 100, 101, 120] then [(l, true)] else match cutOf 120 l with
    | none => [(l, true)]
    | some (x, y) => (x, false) :: partsF n y
theorem partsF_eq : ∀ (n : Nat) (l : List UInt8), l.length ≤ n → partsF n l = partsOf l
  | 0, l, h => by
    have : l = [] := by simpa using h
    subst this
    rw [partsOf_last (.inr rfl)]; rfl
  | n + 1, l, h => by
    by_cases h0 : l = [105, 110, 100, 101, 120]
    · rw [partsOf_last (.inl h0), partsF, if_pos h0]
    · cases hc : cutOf 120 l with
      | none => rw [partsOf_last (.inr hc), partsF, if_neg h0, hc]
      | some p =>
        obtain ⟨x, y⟩ := p
        have := cutOf_len hc
        rw [partsOf_more h0 hc, partsF, if_neg h0, hc]
        dsimp only
        rw [partsF_eq n y (by omega)]
def shapeF (k : Nat) (l : List UInt8) : Option Pd := (shapeP [] (partsF l.length l)).map fun r => ⟨k, r.2, r.1⟩
theorem shapeF_eq (k : Nat) (l : List UInt8) : shapeF k l = shapeOf k l := by rw [shapeF, shapeOf, partsF_eq _ _ (Nat.le_refl _)]
def readF (l : List UInt8) : Option Pd :=
  match elemOf l with
  | some p => some p
  | none =>
    if Lib.hasSuffix l [62] then
      if Lib.hasPrefix (l.take (l.length - 1)) [109, 101, 109, 60] then shapeF 2 ((l.take (l.length - 1)).drop 4)
      else if Lib.hasPrefix (l.take (l.length - 1)) [97, 114, 114, 60] then shapeF 3 ((l.take (l.length - 1)).drop 4)
      else foreignOf l
    else foreignOf l
theorem readF_eq (l : List UInt8) : readF l = readOf l := by
  rw [readF, readOf]; simp only [shapeF_eq]; cases elemOf l <;> rfl
theorem ask_some {P : Nat → Bool} {l : List UInt8} {q : Pd} (h : readF l = some q) (hp : P q.kind = true) : askOf P l = (q, 0) := by
  rw [readF_eq] at h; unfold askOf; rw [h]; simp [hp]
theorem ask_none {P : Nat → Bool} {l : List UInt8} (h : readF l = none) : askOf P l = (⟨0, 0, []⟩, 10) := by
  rw [readF_eq] at h; unfold askOf; rw [h]

theorem aw1 : askAny [97, 114, 114, 60, 48, 120, 105, 110, 100, 101, 120, 62] = (⟨3, 0, [0]⟩, 0) := ask_some (by kernel_rfl) rfl
theorem aw2 : askCel [109, 101, 109, 60, 52, 120, 51, 120, 105, 51, 50, 62] = (⟨2, 32, [4, 3]⟩, 0) := ask_some (by kernel_rfl) rfl
theorem aw3 : askNum [105, 56] = (⟨0, 8, []⟩, 0) := ask_some (by kernel_rfl) rfl
theorem aw4 : askNum [105, 49] = (⟨0, 1, []⟩, 0) := ask_some (by kernel_rfl) rfl
theorem aw5 : makeOf 2 [4, 3] [105, 51, 50] = ([109, 101, 109, 60, 52, 120, 51, 120, 105, 51, 50, 62], 0) := by kernel_rfl
theorem aw6 : bodyOf [40, 105, 49, 44, 32, 105, 110, 100, 101, 120, 41] = some [105, 49, 44, 32, 105, 110, 100, 101, 120] := by kernel_rfl
theorem aw7 : piecesOf ⟨#[105, 49, 44, 32, 105, 110, 100, 101, 120]⟩ = [⟨#[105, 49]⟩, ⟨#[105, 110, 100, 101, 120]⟩] := by kernel_rfl
theorem aw8 : askCel [109, 101, 109, 60, 105, 56, 62] = (⟨2, 8, []⟩, 0) := ask_some (by kernel_rfl) rfl
theorem aw9 : askAny [33, 99, 97, 108, 99, 46, 110, 117, 109] = (⟨4, 0, []⟩, 0) := ask_some (by kernel_rfl) rfl
theorem aw10 : askAny [105, 48, 49] = (⟨0, 0, []⟩, 10) := ask_none (by kernel_rfl)
theorem aw11 : askAny [109, 101, 109, 60, 49, 48, 48, 120, 49, 48, 48, 120, 105, 56, 62] = (⟨0, 0, []⟩, 10) := ask_none (by kernel_rfl)
theorem aw12 : askAny [97, 114, 114, 60, 105, 56, 32, 62] = (⟨0, 0, []⟩, 10) := ask_none (by kernel_rfl)
theorem aw13 : textOf 3 [] (elStr 8) = [97, 114, 114, 60, 105, 56, 62] := by kernel_rfl
theorem aw14 : askAny [105, 49] = (⟨0, 1, []⟩, 0) := ask_some (by kernel_rfl) rfl
theorem aw15 : askAny [105, 110, 100, 101, 120] = (⟨1, 64, []⟩, 0) := ask_some (by kernel_rfl) rfl
end Go.Proofs.YthgiianmfehcaaaDoor
