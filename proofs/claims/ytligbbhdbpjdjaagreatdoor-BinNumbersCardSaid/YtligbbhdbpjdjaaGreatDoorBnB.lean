/- The reader of package bin at bytes that begin with 0. -/
import Derived.Test.YtligbbhdbpjdjaaGreatDoorBnA
import Derived.WalkMore
namespace Go.Proofs.YtligbbhdbpjdjaaGreatDoor
open Go Go.RowKit Go.Sort
set_option linter.unusedVariables false
set_option linter.unusedSimpArgs false

def BytesAt (g off : Nat) (bs : List UInt8) (w : World) : Prop := ∀ j (hj : j < bs.length), w.cell? ⟨g, off + j, none⟩ = some (byteV bs[j])
def ZeroPost (v : Value) (Rb g off cap : Nat) (tx dv : Value) (rest : List UInt8) (w : World) (e : Ending) (w' : World) : Prop :=
  e = .returned v ∧ ReadsAt Rb ⟨g, off + 1, none⟩ rest.length (cap - 1) tx dv w' ∧ KeptR Rb w w'

set_option maxRecDepth 100000 in
set_option maxHeartbeats 4000000 in
theorem raw_b (Rb g off cap : Nat) (tx dv : Value) (rest : List UInt8) (w : World) (hne : 0 < rest.length) (hlc : rest.length + 1 ≤ cap) (hcap : cap ≤ 1000000) (hgR : g ≠ Rb)
    (hr : ReadsAt Rb ⟨g, off, none⟩ (rest.length + 1) cap tx dv w) (hbs : BytesAt g off (0 :: rest) w) :
    Calls Tryz.prog 36 #[.pointer (some ⟨Rb, 0, none⟩)] w (ZeroPost (.int .u64 0) Rb g off cap tx dv rest w) := by
  have cR0 := bRow hr 0
  simp only [List.getElem?_toArray, List.getElem?_cons_zero, List.getElem?_cons_succ] at cR0
  have HR := Lib.hid hr
  have HBS := Lib.hid hbs
  have hg : g < w.heap.size := World.block_lt_of_cell? w _ (hbs 0 (by simp))
  clear hr hbs
  go_enter Tryz.func36, Tryz.ntmps36
  go_wp2_with (first
    | (go_at_call 7
       have hrd := readNumber_b (some ⟨g, off, none⟩) cap (0 :: rest) w (.inr ⟨g, off, rfl, hg, HBS.out⟩) (by simp; omega)
       have hz : readB (0 :: rest) 0 0 = some (0, 1) := by simp [readB]
       rw [hz] at hrd
       refine hrd.mono ?_
       rintro e w2 ⟨rfl, rfl⟩
       simp only [readRes]
       go_ways)
    | (go_at_call 22
       have hb0 : ∀ j (hj : j < ([0] : List UInt8).length), w.cell? ⟨g, off + j, none⟩ = some (byteV ([0] : List UInt8)[j]) := fun j hj => match j, hj with | 0, _ => HBS.out 0 (by simp)
       refine (take_b Rb g off 1 (rest.length + 1) cap tx dv [0] w rfl (by decide) (by omega) hlc hcap hgR HR.out hb0).mono ?_
       rintro e w2 ⟨sa, sc, rfl, -, h3, h4⟩
       have H3 := Lib.hid h3
       have H4 := Lib.hid h4
       clear h3 h4
       go_ways))
  go_ret
  exact ⟨rfl, H3.out, H4.out⟩

set_option maxRecDepth 100000 in
set_option maxHeartbeats 4000000 in
theorem zero_b (Rb g off cap : Nat) (tx dv : Value) (rest : List UInt8) (w : World) (hne : 0 < rest.length) (hlc : rest.length + 1 ≤ cap) (hcap : cap ≤ 1000000) (hgR : g ≠ Rb)
    (hr : ReadsAt Rb ⟨g, off, none⟩ (rest.length + 1) cap tx dv w) (hbs : BytesAt g off (0 :: rest) w) :
    Calls Tryz.prog 25 #[.pointer (some ⟨Rb, 0, none⟩)] w (ZeroPost (.int .i64 0) Rb g off cap tx dv rest w) := by
  have HR := Lib.hid hr
  have HBS := Lib.hid hbs
  clear hr hbs
  go_enter Tryz.func25, Tryz.ntmps25
  go_wp2_with (
    go_at_call 36
    refine (raw_b Rb g off cap tx dv rest w hne hlc hcap hgR HR.out HBS.out).mono ?_
    rintro e w2 ⟨rfl, h3, h4⟩
    have H3 := Lib.hid h3
    have H4 := Lib.hid h4
    clear h3 h4
    go_ways)
  go_ret
  exact ⟨rfl, H3.out, H4.out⟩

set_option maxRecDepth 100000 in
set_option maxHeartbeats 4000000 in
theorem several_s (Rb g off cap : Nat) (tx dv f : Value) (rest : List UInt8) (w : World) (hne : 0 < rest.length) (hlc : rest.length + 1 ≤ cap) (hcap : cap ≤ 1000000) (hgR : g ≠ Rb)
    (hr : ReadsAt Rb ⟨g, off, none⟩ (rest.length + 1) cap tx dv w) (hbs : BytesAt g off (0 :: rest) w) :
    Calls Tryz.prog 23 #[.pointer (some ⟨Rb, 0, none⟩), f] w (ZeroPost (.slice none 0 0) Rb g off cap tx dv rest w) := by
  have HR := Lib.hid hr
  have HBS := Lib.hid hbs
  clear hr hbs
  go_enter Tryz.func23, Tryz.ntmps23
  go_wp2_with fail
  go_step3
  go_wp2_with fail
  go_step3
  go_wp2_with (
    go_at_call 25
    refine (zero_b Rb g off cap tx dv rest w hne hlc hcap hgR HR.out HBS.out).mono ?_
    rintro e w2 ⟨rfl, h3, h4⟩
    have H3 := Lib.hid h3
    have H4 := Lib.hid h4
    clear h3 h4
    go_ways)
  go_loop [5, 8] (fun ov iv => ov = .slice none 0 0 ∧ iv = .int .i64 0) (fun _ _ => 0)
  case atStart => exact ⟨rfl, rfl⟩
  case round =>
    obtain ⟨rfl, rfl⟩ := hrel
    go_wp2_with fail
    go_ret
    exact ⟨rfl, H3.out, H4.out⟩
set_option maxRecDepth 100000 in
set_option maxHeartbeats 4000000 in
theorem several_o (Rb g off cap : Nat) (tx dv f : Value) (rest : List UInt8) (w : World) (hne : 0 < rest.length) (hlc : rest.length + 1 ≤ cap) (hcap : cap ≤ 1000000) (hgR : g ≠ Rb)
    (hr : ReadsAt Rb ⟨g, off, none⟩ (rest.length + 1) cap tx dv w) (hbs : BytesAt g off (0 :: rest) w) :
    Calls Tryz.prog 26 #[.pointer (some ⟨Rb, 0, none⟩), f] w (ZeroPost (.slice none 0 0) Rb g off cap tx dv rest w) := by
  have HR := Lib.hid hr
  have HBS := Lib.hid hbs
  clear hr hbs
  go_enter Tryz.func26, Tryz.ntmps26
  go_wp2_with fail
  go_step3
  go_wp2_with fail
  go_step3
  go_wp2_with (
    go_at_call 25
    refine (zero_b Rb g off cap tx dv rest w hne hlc hcap hgR HR.out HBS.out).mono ?_
    rintro e w2 ⟨rfl, h3, h4⟩
    have H3 := Lib.hid h3
    have H4 := Lib.hid h4
    clear h3 h4
    go_ways)
  go_loop [5, 8] (fun ov iv => ov = .slice none 0 0 ∧ iv = .int .i64 0) (fun _ _ => 0)
  case atStart => exact ⟨rfl, rfl⟩
  case round =>
    obtain ⟨rfl, rfl⟩ := hrel
    go_wp2_with fail
    go_ret
    exact ⟨rfl, H3.out, H4.out⟩
end Go.Proofs.YtligbbhdbpjdjaaGreatDoor
