/- slices.Clone of bytes. -/
import Derived.Test.YtligbbhdbpjdjaaGreatDoorBn4
namespace Go.Proofs.YtligbbhdbpjdjaaGreatDoor
open Go Go.RowKit Go.Sort
set_option linter.unusedVariables false
set_option linter.unusedSimpArgs false

set_option maxRecDepth 100000 in
set_option maxHeartbeats 4000000 in
theorem clone_b (a : Option Addr) (c : Nat) (bs : List UInt8) (w : World) (hne : bs ≠ []) (hlen : bs.length ≤ 1000000) (hs : ByteSl w a bs) :
    Calls Tryz.prog 30 #[.slice a bs.length c] w (BytesPost bs w) := by
  obtain ⟨i0, hin, hz0, hz1, hz2⟩ := info_parts (show (Tryz.prog.info? 5).map (fun i => (i.zero, i.size, i.bytes)) = some (some (.int .u8 0), 1, 1) by kernel_rfl)
  have hpos := List.length_pos_iff.2 hne
  rcases hs with rfl | ⟨g, off, rfl, hg, hcell⟩
  · exact absurd rfl hne
  have HC := Lib.hid hcell
  clear hcell
  have hnil := Lib.run_eql_slice_nil w 23 5 (some ⟨g, off, none⟩) bs.length c 0 0 Tryz.underlying23
  go_enter Tryz.func30, Tryz.ntmps30
  have hown0 : (w.alloc (.cells #[] 5)).ownsRow w.heap.size 5 1 (.slice (some ⟨w.heap.size, 0, none⟩) 0 0) 0 [] := ⟨rfl, .inr ⟨w.heap.size, 0, #[], rfl, Nat.le_refl _, heap_alloc_new _ _, Nat.le_refl _, by unfold maxLen; omega, rfl, rfl⟩⟩
  have HOWN := Lib.hid hown0
  clear hown0
  go_wp2_with (at_builtin; refine wpList_append_own _ rfl _ _ 23 rfl w.heap.size 5 i0 (.int .u8 0) 1 1 Tryz.underlying23 hin hz0 hz1 hz2 rfl (by decide) _ _ _ rfl HOWN.out ⟨g, off, none⟩ bs.length c (bs.map byteV) rfl ?c0 ?c1 ?c2 ?c3 ?c4 ?c5 ?_)
  case c0 => simp
  case c1 =>
    intro t u hj
    have hadd : (⟨g, off, none⟩ : Addr).add t = ⟨g, off + t, none⟩ := by unfold Addr.add; simp
    rw [hadd]
    rw [List.getElem?_map] at hj
    obtain ⟨x, hx, rfl⟩ := Option.map_eq_some_iff.1 hj
    obtain ⟨hl, rfl⟩ := List.getElem?_eq_some_iff.1 hx
    exact (bRdCell (bAlloc (Below.refl w.heap.size w) _) g hg (off + t)).trans (HC.out t hl)
  case c2 => intro u hu; simp only [List.mem_map] at hu; obtain ⟨x, -, rfl⟩ := hu; rfl
  case c3 => unfold maxLen; omega
  case c4 => omega
  case c5 => simp
  intro v' w3 hown' hgrow _
  have HOWN3 := Lib.hid hown'
  have HB3 := Lib.hid ((bAlloc (Below.refl w.heap.size w) (.cells #[] 5)).grown hgrow (by simp) (fun k hk => (HOWN.out.lt k hk).1))
  clear hown'
  go_wp2_with fail
  go_ret
  exact bytesPost (n := 0 + bs.length) (by simp) rfl (by simpa using HOWN3.out) HB3.out
end Go.Proofs.YtligbbhdbpjdjaaGreatDoor
