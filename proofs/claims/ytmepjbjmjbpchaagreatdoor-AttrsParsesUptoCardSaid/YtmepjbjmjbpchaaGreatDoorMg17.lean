/- Texts of this claim, laid together: Az0, Ax3, Ax4. -/
import Derived.Laws.RangeAny
import Derived.Lib.OthersKept
import Derived.WalkSmall
import Derived.Test.YtmepjbjmjbpchaaGreatDoorMg5
import Derived.Test.YtmepjbjmjbpchaaGreatDoorMg9
import Derived.Test.YtmepjbjmjbpchaaGreatDoorMg16
section
/- attrs.pieces: the parts of a list between commas that stand outside of strings and brackets. -/
namespace Go.Proofs.YtmepjbjmjbpchaaGreatDoor
open Go Go.RowKit
set_option linter.unusedVariables false
set_option linter.unusedSimpArgs false

/-- The parts from a place on: d the depth, q whether within a string, f where the part begins, k whether the next rune is passed over. -/
def pcs (s : ByteArray) : Nat → Nat → Int → Bool → Nat → Bool → List ByteArray
  | 0, _, _, _, f, _ => [s.extract f s.size]
  | n + 1, pos, d, q, f, k =>
    if pos < s.size then
      if k = true then pcs s n (pos + (Utf8.decode s pos).2) d q f false
      else if q = true ∧ (Utf8.decode s pos).1 = 92 then pcs s n (pos + (Utf8.decode s pos).2) d q f true
      else if (Utf8.decode s pos).1 = 34 then pcs s n (pos + (Utf8.decode s pos).2) d (!q) f false
      else if q = true then pcs s n (pos + (Utf8.decode s pos).2) d q f false
      else if (Utf8.decode s pos).1 = 40 ∨ (Utf8.decode s pos).1 = 91 ∨ (Utf8.decode s pos).1 = 60 then pcs s n (pos + (Utf8.decode s pos).2) (d + 1) q f false
      else if (Utf8.decode s pos).1 = 41 ∨ (Utf8.decode s pos).1 = 93 ∨ (Utf8.decode s pos).1 = 62 then pcs s n (pos + (Utf8.decode s pos).2) (d - 1) q f false
      else if (Utf8.decode s pos).1 = 44 ∧ d = 0 then s.extract f pos :: pcs s n (pos + (Utf8.decode s pos).2) d q (pos + 1) false
      else pcs s n (pos + (Utf8.decode s pos).2) d q f false
    else [s.extract f s.size]
def piecesB (s : ByteArray) : List ByteArray := pcs s s.size 0 0 false 0 false
theorem pcs_end (s : ByteArray) (n pos : Nat) (d : Int) (q : Bool) (f : Nat) (k : Bool) (h : ¬ pos < s.size) : pcs s n pos d q f k = [s.extract f s.size] := by
  cases n <;> simp [pcs, h]
theorem width_pos (s : ByteArray) (pos : Nat) (h : pos < s.size) : 1 ≤ (Utf8.decode s pos).2 := by
  by_cases ha : (s[pos]'h).toNat < 128
  · rw [decode_ascii s pos h ha]
    exact Nat.le_refl _
  · exact (decode_high s pos h (by omega)).2
/-- What the loop carries. -/
structure PcI (s : ByteArray) (w : World) (wr : World) (pos n f : Nat) (d : Int) (q k : Bool) (acc : List ByteArray) (v : Value) : Prop where
  own : wr.ownsRow (w.heap.size + 1) 9 1 v acc.length (acc.map .string)
  it : wr.heap[w.heap.size]? = some (.stringIter s pos)
  bel : Below w.heap.size w wr
  eq : acc ++ pcs s n pos d q f k = piecesB s
  fuel : s.size ≤ pos + n
  f1 : f ≤ pos
  f2 : f ≤ s.size
  d1 : -(pos : Int) ≤ d
  d2 : d ≤ pos
  al : acc.length ≤ f
theorem PcI.next {s : ByteArray} {w wr : World} {pos n f : Nat} {d : Int} {q k : Bool} {acc : List ByteArray} {v : Value} (h : PcI s w wr pos (n + 1) f d q k acc v) (hp : pos < s.size) {d' : Int} {q' k' : Bool}
    (he : pcs s (n + 1) pos d q f k = pcs s n (pos + (Utf8.decode s pos).2) d' q' f k') (hd1 : -((pos : Int) + 1) ≤ d') (hd2 : d' ≤ (pos : Int) + 1) :
    PcI s w (wr.iterAt w.heap.size s (pos + (Utf8.decode s pos).2)) (pos + (Utf8.decode s pos).2) n f d' q' k' acc v := by
  have hwd := width_pos s pos hp
  exact ⟨ownsRow_iterAt h.own (by omega) s _, Lib.iterAt_heap _ _ _ _ _ h.it, Lib.below_iterAt h.bel (Nat.le_refl _) s _, by rw [← he]; exact h.eq, by have := h.fuel; omega, by have := h.f1; omega, h.f2, by omega, by omega, h.al⟩

set_option maxRecDepth 100000 in
set_option maxHeartbeats 8000000 in
theorem pieces_any (s : ByteArray) (w : World) (hs : s.size ≤ 1099511627776) :
    Calls Tryz.prog 50 #[.string s] w fun e w' => ∃ sa sc, e = .returned (.slice sa (piecesB s).length sc) ∧ w'.ownsRow w.heap.size 9 1 (.slice sa (piecesB s).length sc) (piecesB s).length ((piecesB s).map .string) ∧ Below w.heap.size w w' := by
  obtain ⟨i0, hin, hz0, hz1, hz2⟩ := info_parts (show (Tryz.prog.info? 9).map (fun i => (i.zero, i.size, i.bytes)) = some (some (.string ⟨#[]⟩), 1, 16) by kernel_rfl)
  go_enter Tryz.func50, Tryz.ntmps50
  go_wp2_with fail
  go_loopw [3, 4, 5, 6, 7] (fun v dv qv fv kv wr => ∃ (pos n f : Nat) (d : Int) (q k : Bool) (acc : List ByteArray) (sa : Option Addr) (sc : Nat), v = .slice sa acc.length sc ∧ dv = .int .i64 d ∧ qv = .bool q ∧ fv = .int .i64 f ∧ kv = .bool k ∧ PcI s w wr pos n f d q k acc (.slice sa acc.length sc)) (fun _ _ _ _ _ wr => s.size - wr.iterPos w.heap.size)
  case atStart => exact ⟨0, s.size, 0, 0, false, false, [], none, 0, rfl, rfl, rfl, rfl, rfl, ⟨World.ownsRow_nil _ _ _ _, World.iter_heap w s 0, (Below.refl _ w).alloc (Nat.le_refl _) _, rfl, by omega, by omega, by omega, by omega, by omega, by simp⟩⟩
  case round =>
    obtain ⟨pos, n, f, d, q, k, acc, sa, sc, rfl, rfl, rfl, rfl, rfl, hI⟩ := hrel
    have HI := Lib.hid hI
    have hszw := hI.bel.size
    have hf1 := hI.f1
    have hf2 := hI.f2
    have hd1 := hI.d1
    have hd2 := hI.d2
    have hal := hI.al
    by_cases hp : pos < s.size
    · obtain ⟨n, rfl⟩ : ∃ m, n = m + 1 := ⟨n - 1, by have := hI.fuel; omega⟩
      have hwd := Lib.hid (width_pos s pos hp)
      have hcle := decode_le s pos
      obtain ⟨W, hW⟩ : ∃ W, W = wr.iterAt w.heap.size s (pos + (Utf8.decode s pos).2) := ⟨_, rfl⟩
      obtain ⟨c, hc⟩ : ∃ c, c = (Utf8.decode s pos).1 := ⟨_, rfl⟩
      have hnx : ∀ ty, (Instr.next (.pointer (some ⟨w.heap.size, 0, none⟩)) true ty).run Tryz.prog wr = .ok (.tuple #[.bool true, .int .i64 pos, .int .i32 c]) W := fun ty => by rw [hc, hW]; exact Lib.run_next_any_at wr w.heap.size s pos ty hI.it hp
      rw [← hc] at hcle
      have HW := Lib.hid hW
      have HC := Lib.hid hc
      have hmes : Hid (s.size - (pos + (Utf8.decode s pos).2) < s.size - wr.iterPos w.heap.size) := Lib.hid (by rw [iterPos_of hI.it]; have := hwd.out; omega)
      have hWs : W.heap.size = wr.heap.size := by rw [hW, Lib.iterAt_size]
      clear hW hc hI
      have hcs : k = true ∨ (k = false ∧ q = true ∧ c = 92) ∨ (k = false ∧ q = true ∧ c = 34) ∨ (k = false ∧ q = false ∧ c = 34) ∨ (k = false ∧ q = true ∧ c ≠ 92 ∧ c ≠ 34)
          ∨ (k = false ∧ q = false ∧ (c = 40 ∨ c = 91 ∨ c = 60)) ∨ (k = false ∧ q = false ∧ (c = 41 ∨ c = 93 ∨ c = 62)) ∨ (k = false ∧ q = false ∧ c = 44 ∧ d = 0) ∨ (k = false ∧ q = false ∧ c = 44 ∧ d ≠ 0)
          ∨ (k = false ∧ q = false ∧ c ≠ 34 ∧ c ≠ 40 ∧ c ≠ 91 ∧ c ≠ 60 ∧ c ≠ 41 ∧ c ≠ 93 ∧ c ≠ 62 ∧ c ≠ 44) := by
        cases k <;> cases q <;> simp <;> omega
      rcases hcs with rfl | ⟨rfl, rfl, rfl⟩ | ⟨rfl, rfl, rfl⟩ | ⟨rfl, rfl, rfl⟩ | ⟨rfl, rfl, h92, h34⟩ | ⟨rfl, rfl, rfl | rfl | rfl⟩ | ⟨rfl, rfl, rfl | rfl | rfl⟩ | ⟨rfl, rfl, rfl, rfl⟩ | ⟨rfl, rfl, rfl, hd0⟩ | ⟨rfl, rfl, h34, h40, h91, h60, h41, h93, h62, h44⟩
      · go_wp2_with fail
        go_roundw
        · exact ⟨_, n, f, d, q, false, acc, sa, sc, rfl, by go_num, by first | rfl | (simp; done), rfl, rfl, by rw [HW.out]; exact HI.out.next hp (by simp [pcs, hp, ← HC.out]) (by omega) (by omega)⟩
        · rw [HW.out, iterPos_of (Lib.iterAt_heap _ _ _ _ _ HI.out.it)]; exact hmes.out
      · go_wp2_with fail
        go_roundw
        · exact ⟨_, n, f, d, true, true, acc, sa, sc, rfl, by go_num, by first | rfl | (simp; done), rfl, rfl, by rw [HW.out]; exact HI.out.next hp (by simp [pcs, hp, ← HC.out]) (by omega) (by omega)⟩
        · rw [HW.out, iterPos_of (Lib.iterAt_heap _ _ _ _ _ HI.out.it)]; exact hmes.out
      · go_wp2_with fail
        go_roundw
        · exact ⟨_, n, f, d, false, false, acc, sa, sc, rfl, by go_num, by first | rfl | (simp; done), rfl, rfl, by rw [HW.out]; exact HI.out.next hp (by simp [pcs, hp, ← HC.out]) (by omega) (by omega)⟩
        · rw [HW.out, iterPos_of (Lib.iterAt_heap _ _ _ _ _ HI.out.it)]; exact hmes.out
      · go_wp2_with fail
        go_roundw
        · exact ⟨_, n, f, d, true, false, acc, sa, sc, rfl, by go_num, by first | rfl | (simp; done), rfl, rfl, by rw [HW.out]; exact HI.out.next hp (by simp [pcs, hp, ← HC.out]) (by omega) (by omega)⟩
        · rw [HW.out, iterPos_of (Lib.iterAt_heap _ _ _ _ _ HI.out.it)]; exact hmes.out
      · have i92 : ¬ ((c : Int) = 92) := by omega
        have i34 : ¬ ((c : Int) = 34) := by omega
        go_wp2_with fail
        go_roundw
        · exact ⟨_, n, f, d, true, false, acc, sa, sc, rfl, by go_num, by first | rfl | (simp; done), rfl, rfl, by rw [HW.out]; exact HI.out.next hp (by simp [pcs, hp, ← HC.out, h92, h34]) (by omega) (by omega)⟩
        · rw [HW.out, iterPos_of (Lib.iterAt_heap _ _ _ _ _ HI.out.it)]; exact hmes.out
      · go_wp2_with fail
        go_roundw
        · exact ⟨_, n, f, d + 1, false, false, acc, sa, sc, rfl, by go_num, by first | rfl | (simp; done), rfl, rfl, by rw [HW.out]; exact HI.out.next hp (by simp [pcs, hp, ← HC.out]) (by omega) (by omega)⟩
        · rw [HW.out, iterPos_of (Lib.iterAt_heap _ _ _ _ _ HI.out.it)]; exact hmes.out
      · go_wp2_with fail
        go_roundw
        · exact ⟨_, n, f, d + 1, false, false, acc, sa, sc, rfl, by go_num, by first | rfl | (simp; done), rfl, rfl, by rw [HW.out]; exact HI.out.next hp (by simp [pcs, hp, ← HC.out]) (by omega) (by omega)⟩
        · rw [HW.out, iterPos_of (Lib.iterAt_heap _ _ _ _ _ HI.out.it)]; exact hmes.out
      · go_wp2_with fail
        go_roundw
        · exact ⟨_, n, f, d + 1, false, false, acc, sa, sc, rfl, by go_num, by first | rfl | (simp; done), rfl, rfl, by rw [HW.out]; exact HI.out.next hp (by simp [pcs, hp, ← HC.out]) (by omega) (by omega)⟩
        · rw [HW.out, iterPos_of (Lib.iterAt_heap _ _ _ _ _ HI.out.it)]; exact hmes.out
      · go_wp2_with fail
        go_roundw
        · exact ⟨_, n, f, d - 1, false, false, acc, sa, sc, rfl, by go_num, by first | rfl | (simp; done), rfl, rfl, by rw [HW.out]; exact HI.out.next hp (by simp [pcs, hp, ← HC.out]) (by omega) (by omega)⟩
        · rw [HW.out, iterPos_of (Lib.iterAt_heap _ _ _ _ _ HI.out.it)]; exact hmes.out
      · go_wp2_with fail
        go_roundw
        · exact ⟨_, n, f, d - 1, false, false, acc, sa, sc, rfl, by go_num, by first | rfl | (simp; done), rfl, rfl, by rw [HW.out]; exact HI.out.next hp (by simp [pcs, hp, ← HC.out]) (by omega) (by omega)⟩
        · rw [HW.out, iterPos_of (Lib.iterAt_heap _ _ _ _ _ HI.out.it)]; exact hmes.out
      · go_wp2_with fail
        go_roundw
        · exact ⟨_, n, f, d - 1, false, false, acc, sa, sc, rfl, by go_num, by first | rfl | (simp; done), rfl, rfl, by rw [HW.out]; exact HI.out.next hp (by simp [pcs, hp, ← HC.out]) (by omega) (by omega)⟩
        · rw [HW.out, iterPos_of (Lib.iterAt_heap _ _ _ _ _ HI.out.it)]; exact hmes.out
      · have hIw : PcI s w W (pos + (Utf8.decode s pos).2) n f 0 false false acc (.slice sa acc.length sc) ∨ True := .inr trivial
        have HOW : Hid (W.ownsRow (w.heap.size + 1) 9 1 (.slice sa acc.length sc) acc.length (acc.map .string)) := Lib.hid (by rw [HW.out]; exact ownsRow_iterAt HI.out.own (by omega) s _)
        have HIT : Hid (W.heap[w.heap.size]? = some (.stringIter s (pos + (Utf8.decode s pos).2))) := Lib.hid (by rw [HW.out]; exact Lib.iterAt_heap _ _ _ _ _ HI.out.it)
        have HBW : Hid (Below w.heap.size w W) := Lib.hid (by rw [HW.out]; exact Lib.below_iterAt HI.out.bel (Nat.le_refl _) s _)
        have hzit : w.heap.size < W.heap.size := blkLt HIT.out
        have hfp : (f : Int) ≤ (pos : Int) := by omega
        have hf0 : (0 : Int) ≤ (f : Int) := by omega
        have hps : (pos : Int) ≤ (s.size : Int) := by omega
        obtain ⟨na, hna⟩ : ∃ na, na = acc.length := ⟨_, rfl⟩
        rw [← hna] at HOW hal ⊢
        have HNA := Lib.hid hna
        clear hna hIw
        go_wp2_with (at_builtin; go_loud (refine wpList_append_own _ rfl _ _ 25 rfl (w.heap.size + 1) 9 i0 (.string ⟨#[]⟩) 1 16 Tryz.underlying25 hin hz0 hz1 hz2 rfl (by decide) (.slice sa na sc) na (acc.map .string) (by simp [Act.eval]) (HOW.out.alloc _) ⟨W.heap.size, 0, none⟩ 1 1 [.string (s.extract f pos)] (by simp [Act.eval]) rfl ?c1 ?c2 ?c3 ?c4 ?c5 ?_))
        case c1 =>
          intro t u hj
          match t, hj with
          | 0, hj => simp at hj; subst hj; simp [Addr.add]
        case c2 => intro u hu; simp at hu; subst hu; rfl
        case c3 => unfold maxLen; omega
        case c4 => omega
        case c5 => simp; omega
        intro v' w3 hown' hgrow _
        obtain ⟨sa', sc', rfl⟩ := own_slice hown'
        have HI3 : Hid (PcI s w w3 (pos + (Utf8.decode s pos).2) n (pos + 1) 0 false false (acc ++ [s.extract f pos]) (.slice sa' (acc ++ [s.extract f pos]).length sc')) := Lib.hid (by
          have hwd := hwd.out
          have hlt := HOW.out.lt
          have hgb := hgrow.block w.heap.size (by simp; omega) (fun e => by have := (hlt _ e.symm).1; omega)
          refine ⟨?_, ?_, ?_, ?_, by have := HI.out.fuel; omega, by omega, by omega, by omega, by omega, by have := HNA.out; simp; omega⟩
          · rw [List.length_append, List.map_append, ← HNA.out]; exact hown'
          · rw [hgb]; exact heap_alloc_old HIT.out _
          · exact (belowA HBW.out _).grown hgrow (by simp; omega) (fun k hk => by have := (hlt k hk).1; omega)
          · rw [← HI.out.eq]; simp [pcs, hp, ← HC.out])
        clear hown' hgrow
        go_wp2_with fail
        go_roundw
        · exact ⟨_, n, pos + 1, 0, false, false, acc ++ [s.extract f pos], sa', sc', by rw [List.length_append, ← HNA.out]; rfl, rfl, rfl, by go_num, rfl, HI3.out⟩
        · rw [iterPos_of HI3.out.it]; exact hmes.out
      · have i0 : ¬ (d = 0) := hd0
        go_wp2_with fail
        go_roundw
        · exact ⟨_, n, f, d, false, false, acc, sa, sc, rfl, by go_num, by first | rfl | (simp; done), rfl, rfl, by rw [HW.out]; exact HI.out.next hp (by simp [pcs, hp, ← HC.out, hd0]) (by omega) (by omega)⟩
        · rw [HW.out, iterPos_of (Lib.iterAt_heap _ _ _ _ _ HI.out.it)]; exact hmes.out
      · have i34 : ¬ ((c : Int) = 34) := by omega
        have i40 : ¬ ((c : Int) = 40) := by omega
        have i91 : ¬ ((c : Int) = 91) := by omega
        have i60 : ¬ ((c : Int) = 60) := by omega
        have i41 : ¬ ((c : Int) = 41) := by omega
        have i93 : ¬ ((c : Int) = 93) := by omega
        have i62 : ¬ ((c : Int) = 62) := by omega
        have i44 : ¬ ((c : Int) = 44) := by omega
        go_wp2_with fail
        all_goals try (exfalso; simp only [beq_iff_eq] at *; omega)
        go_roundw
        · exact ⟨_, n, f, d, false, false, acc, sa, sc, rfl, by go_num, by first | rfl | (simp; done), rfl, rfl, by rw [HW.out]; exact HI.out.next hp (by simp [pcs, hp, ← HC.out, h34, h40, h91, h60, h41, h93, h62, h44]) (by omega) (by omega)⟩
        · rw [HW.out, iterPos_of (Lib.iterAt_heap _ _ _ _ _ HI.out.it)]; exact hmes.out
    · have hnx : ∀ ty, (Instr.next (.pointer (some ⟨w.heap.size, 0, none⟩)) true ty).run Tryz.prog wr = .ok (.tuple #[.bool false]) wr := fun ty => Lib.run_next_end_at wr w.heap.size s pos ty hI.it hp
      have hfs : (f : Int) ≤ (s.size : Int) := by omega
      have hf0 : (0 : Int) ≤ (f : Int) := by omega
      have HOW := Lib.hid hI.own
      have hzit : w.heap.size < wr.heap.size := blkLt hI.it
      have heq : Hid (piecesB s = acc ++ [s.extract f s.size]) := Lib.hid (by rw [← hI.eq, pcs_end _ _ _ _ _ _ _ hp])
      obtain ⟨na, hna⟩ : ∃ na, na = acc.length := ⟨_, rfl⟩
      rw [← hna] at HOW hal ⊢
      have HNA := Lib.hid hna
      have hnas : na ≤ 1099511627776 := by
        omega
      clear hna hI
      go_wp2_with (at_builtin; refine wpList_append_own _ rfl _ _ 25 rfl (w.heap.size + 1) 9 i0 (.string ⟨#[]⟩) 1 16 Tryz.underlying25 hin hz0 hz1 hz2 rfl (by decide) (.slice sa na sc) na (acc.map .string) (by simp [Act.eval]) (HOW.out.alloc _) ⟨wr.heap.size, 0, none⟩ 1 1 [.string (s.extract f s.size)] (by simp [Act.eval]) rfl ?c1 ?c2 ?c3 ?c4 ?c5 ?_)
      case c1 =>
        intro t u hj
        match t, hj with
        | 0, hj => simp at hj; subst hj; simp [Addr.add]
      case c2 => intro u hu; simp at hu; subst hu; rfl
      case c3 => unfold maxLen; omega
      case c4 => omega
      case c5 => simp; omega
      intro v' w3 hown' hgrow _
      obtain ⟨sa', sc', rfl⟩ := own_slice hown'
      go_wp2_with fail
      go_ret
      have hlt := HOW.out.lt
      have hln : (piecesB s).length = na + 1 := by rw [heq.out, List.length_append, ← HNA.out]; rfl
      refine ⟨sa', sc', by rw [hln]; rfl, ?_, (belowA HI.out.bel _).grown hgrow (by simp; omega) (fun k hk => by have := (hlt k hk).1; omega)⟩
      rw [hln, heq.out, List.map_append]
      exact ⟨hown'.1, hown'.2.imp id fun ⟨g, cap, cur, a1, a2, r⟩ => ⟨g, cap, cur, a1, by omega, r⟩⟩
end Go.Proofs.YtmepjbjmjbpchaaGreatDoor
end
section
/- attrs.text. -/
namespace Go.Proofs.YtmepjbjmjbpchaaGreatDoor
open Go Go.RowKit
set_option linter.unusedVariables false
set_option linter.unusedSimpArgs false
attribute [local go_sem ↓] Go.wp_at_zero Go.wp_at_succ

section
variable (nm : ByteArray) (k n : Int) (tx : ByteArray) (ia : Option Addr) (il ic : Nat) (ta : Option Addr) (tl tc : Nat) (w : World)
set_option maxRecDepth 100000 in
set_option maxHeartbeats 4000000 in
theorem textA_row (f g t : Nat) (r : ByteArray) (h : kindRow k = some (f, g, t)) (hint : ∀ args w, (callFunc t args).run Tryz.prog w = .ok (.enter t args) w)
    (ht : ∀ W, Below w.heap.size w W → Calls Tryz.prog t #[av nm k n tx ia il ic ta tl tc] W fun e w' => e = .returned (.string r) ∧ Below W.heap.size W w') :
    Calls Tryz.prog 45 #[av nm k n tx ia il ic ta tl tc] w fun e w' => e = .returned (.string r) ∧ Below w.heap.size w w' := by
  have hl : ∀ (W : World) (m : Nat), W.heap[m]? = some (kindO 6) → (Instr.lookup 118 (.map (some m)) (.int .i64 k) false).run Tryz.prog W = .ok (.agg #[.func (.func f) #[] #[], .func (.func g) #[] #[], .func (.func t) #[] #[]]) W := fun W m hm => look_yes hm h false
  have hfd : ∀ W : World, (Instr.field 116 (.agg #[.func (.func f) #[] #[], .func (.func g) #[] #[], .func (.func t) #[] #[]]) 2).run Tryz.prog W = .ok (.func (.func t) #[] #[]) W := fun _ => by kernel_rfl
  have HL := Lib.hid hl
  have HT := Lib.hid ht
  clear hl h ht
  go_enter Tryz.func45, Tryz.ntmps45
  go_wp2_with fail
  go_region_held3 (fun w' => w'.cell? ⟨w.heap.size, 0, none⟩ = some (.string nm) ∧ w'.cell? ⟨w.heap.size, 1, none⟩ = some (.int .i64 k) ∧ w'.cell? ⟨w.heap.size, 2, none⟩ = some (.int .i64 n) ∧ w'.cell? ⟨w.heap.size, 3, none⟩ = some (.string tx) ∧ w'.cell? ⟨w.heap.size, 4, none⟩ = some (.slice ia il ic) ∧ w'.cell? ⟨w.heap.size, 5, none⟩ = some (.slice ta tl tc)) (go_keep)
    (first
      | (go_at_call 75; refine (kinds_m _).mono ?_; rintro e w1 ⟨m, rfl, hm, hb1⟩; have hl1 := HL.out w1 m hm; have c0 := rdCell hb1 w.heap.size (by first | (simp; done) | (simp; omega)); have hz1 : w.heap.size < w1.heap.size := (by have := Below.size hb1; simp at this; omega))
      | ((with_reducible refine Calls.mono (HT.out _ ?_) ?_); (focus ((repeat (first | (with_reducible refine below_set ?_ (by first | exact Nat.le_refl _ | omega) _ _) | with_reducible exact Below.refl _ _ | with_reducible refine belowA ?_ _ | with_reducible refine below_own' ?_ hb1 | with_reducible refine belowD ?_ | with_reducible refine belowN ?_ _)); done)); rintro e w2 ⟨rfl, hb2⟩; have c2 := rdCell hb2 w.heap.size (by omega)))
  all_goals go_wp2_with fail
  all_goals go_ret
  all_goals refine ⟨rfl, ?_⟩
  all_goals ((repeat (first | (with_reducible refine below_set ?_ (by first | exact Nat.le_refl _ | omega) _ _) | with_reducible exact Below.refl _ _ | with_reducible refine belowA ?_ _ | with_reducible refine below_own' ?_ hb2 | with_reducible refine below_own' ?_ hb1 | with_reducible refine belowD ?_ | with_reducible refine belowN ?_ _)))
end
theorem av_kind_row {a : Atr} (h : rightA a = true) : 0 ≤ a.kind ∧ a.kind ≤ 5 := by
  unfold rightA at h
  simp only [Bool.and_eq_true, decide_eq_true_eq] at h
  exact h.1.1.1
theorem textA_any (a : Atr) (w : World) (hl : a.Lies w) (hf : a.Fits) (hr : rightA a = true) (hp : Pow w) :
    Calls Tryz.prog 45 #[a.val] w fun e w' => e = .returned (.string ⟨(valD a.dat).toArray⟩) ∧ Below w.heap.size w w' := by
  obtain ⟨k0, k5⟩ := av_kind_row hr
  have h6 : a.kind = 0 ∨ a.kind = 1 ∨ a.kind = 2 ∨ a.kind = 3 ∨ a.kind = 4 ∨ a.kind = 5 := by omega
  have hq : ∀ s ∈ a.texts, s.size ≤ 140737488355328 := fun s hs => by have := hf.texts s hs; omega
  have hn : a.texts.length ≤ 9223372036854775807 := by have := hf.tl; omega
  have hown : ownB a = true := by unfold rightA at hr; simp only [Bool.and_eq_true] at hr; exact hr.1.2
  have go : ∀ (f g t : Nat) (r : ByteArray), kindRow a.kind = some (f, g, t) → (∀ args w, (callFunc t args).run Tryz.prog w = .ok (.enter t args) w) →
      (∀ W, Below w.heap.size w W → Calls Tryz.prog t #[a.val] W fun e w' => e = .returned (.string r) ∧ Below W.heap.size W w') → r = ⟨(valD a.dat).toArray⟩ →
      Calls Tryz.prog 45 #[a.val] w fun e w' => e = .returned (.string ⟨(valD a.dat).toArray⟩) ∧ Below w.heap.size w w' := by
    intro f g t r h1 h2 h3 h4
    rw [← h4]
    exact textA_row a.name a.kind a.num a.text a.ia a.ints.length a.ic a.ta a.texts.length a.tc w f g t r h1 h2 h3
  rcases h6 with h | h | h | h | h | h
  · refine go _ _ _ _ (by rw [h]; rfl) (fun args w => callFunc_enters Tryz.func102 (by kernel_rfl) rfl args w) (fun W hb => vnumber_any _ _ _ _ _ _ _ _ _ _ W hf.num.1 hf.num.2 (pow_below hp hb)) ?_
    simp [valD, Atr.dat, h, itoaB]
  · refine go _ _ _ _ (by rw [h]; rfl) (fun args w => callFunc_enters Tryz.func105 (by kernel_rfl) rfl args w) (fun W hb => quoted_any _ _ _ _ _ _ _ _ _ _ W (by simpa [ownB, h] using hown)) ?_
    simp [valD, Atr.dat, h]
  · refine go _ _ _ _ (by rw [h]; rfl) (fun args w => callFunc_enters Tryz.func107 (by kernel_rfl) rfl args w) (fun W hb => symbol_any _ _ _ _ _ _ _ _ _ _ W hf.text) ?_
    apply ByteArray.ext; apply Array.ext'
    simp [valD, Atr.dat, h]
  · refine go _ _ _ _ (by rw [h]; rfl) (fun args w => callFunc_enters Tryz.func109 (by kernel_rfl) rfl args w) (fun W hb => same_any _ _ _ _ _ _ _ _ _ _ W) ?_
    simp [valD, Atr.dat, h]
  · refine go _ _ _ _ (by rw [h]; rfl) (fun args w => callFunc_enters Tryz.func112 (by kernel_rfl) rfl args w) (fun W hb => ints_any _ _ _ _ _ _ _ _ _ W a.ints (hl.ints.below hb) (by simp [ownB, h] at hown; exact hown.1) hf.ints (pow_below hp hb)) ?_
    simp [valD, Atr.dat, h]
  · refine go _ _ _ _ (by rw [h]; rfl) (fun args w => callFunc_enters Tryz.func114 (by kernel_rfl) rfl args w) (fun W hb => types_any _ _ _ _ _ _ _ _ _ W a.texts (hl.texts.below hb) hn hf.textsC hq) ?_
    simp [valD, Atr.dat, h]
theorem joinOf_len (ls : List ByteArray) : (joinOf ls).1.length ≤ 10002 := by
  unfold joinOf
  split
  · simp
  · split
    · simp
    · rename_i h1 h2
      have := join_le (by simpa using h1) (by omega)
      simp at this ⊢; omega
/-- The strings of values are short. -/
theorem valD_len {a : Atr} (hr : rightA a = true) (hf : a.Fits) : (valD a.dat).length ≤ 10002 := by
  obtain ⟨k0, k5⟩ := av_kind_row hr
  have hown : ownB a = true := by unfold rightA at hr; simp only [Bool.and_eq_true] at hr; exact hr.1.2
  have h6 : a.kind = 0 ∨ a.kind = 1 ∨ a.kind = 2 ∨ a.kind = 3 ∨ a.kind = 4 ∨ a.kind = 5 := by omega
  rcases h6 with h | h | h | h | h | h
  · have := itoaB_size a.num hf.num.1 hf.num.2
    simp [valD, Atr.dat, h]; simp [itoaB, ByteArray.size] at this; omega
  · have h1 : a.text.size ≤ 1000 := by simpa [ownB, h] using hown
    have := quoteL_len a.text.data.toList
    simp [valD, Atr.dat, h] at this ⊢; omega
  · have h1 : nameOf a.text.data.toList = true := by simpa [ownB, h] using hown
    have h2 : a.text.data.toList.length ≤ 60 := Nat.le_of_not_lt fun h3 => by rw [nameOf_long h3] at h1; cases h1
    simp [valD, Atr.dat, h] at h2 ⊢; omega
  · have h1 : isTyB a.text = true := by simpa [ownB, h] using hown
    have h2 := goodTy_len (s := a.text) (by rw [badTy_eq, h1]; rfl)
    simp [valD, Atr.dat, h] at h2 ⊢; omega
  · have h1 : a.ints.length ≤ 100 := by simp [ownB, h] at hown; exact hown.1
    have := join_len 21 ((a.ints.map itoaB).map (·.data.toList)) (fun x hx => by
      simp only [List.mem_map] at hx
      obtain ⟨y, ⟨z, hzm, rfl⟩, rfl⟩ := hx
      simpa using itoaB_size z (hf.ints z hzm).1 (hf.ints z hzm).2)
    simp [valD, Atr.dat, h] at this ⊢; omega
  · have := joinOf_len a.texts
    simp [valD, Atr.dat, h]; omega
end Go.Proofs.YtmepjbjmjbpchaaGreatDoor
end
section
/- attrs.list, short, Value, Print, Whole. -/
namespace Go.Proofs.YtmepjbjmjbpchaaGreatDoor
open Go Go.RowKit
set_option linter.unusedVariables false
set_option linter.unusedSimpArgs false

/-- An attribute's string. -/
def itemD (d : Dat) : List UInt8 := d.name.data.toList ++ [32, 61, 32] ++ valD d
/-- A list's string. -/
def listD (ds : List Dat) : List UInt8 := if ds = [] then [] else 123 :: (Lib.join (ds.map itemD) [44, 32] ++ [125])
def itemB (a : Atr) : ByteArray := a.name ++ ⟨#[32, 61, 32]⟩ ++ ⟨(valD a.dat).toArray⟩
theorem itemB_list (a : Atr) : (itemB a).data.toList = itemD a.dat := by simp [itemB, itemD, Atr.dat]
theorem rightA_name {a : Atr} (h : rightA a = true) : a.name.size ≤ 60 := by
  unfold rightA at h
  simp only [Bool.and_eq_true] at h
  have := h.1.1.2
  refine Nat.le_of_not_lt fun h3 => ?_
  rw [nameOf_long (by simpa using h3)] at this; cases this
theorem rightL_mem {l : List Atr} (h : rightL l = true) : ∀ a ∈ l, rightA a = true := by
  intro a ha
  unfold rightL at h
  simp only [Bool.and_eq_true, List.all_eq_true] at h
  obtain ⟨j, hj, rfl⟩ := List.mem_iff_getElem.1 ha
  have := h.2 j (List.mem_range.2 hj)
  unfold okAt at this
  rw [List.getElem?_eq_getElem hj] at this
  simp only [Bool.and_eq_true] at this
  exact this.1
theorem rightL_len {l : List Atr} (h : rightL l = true) : l.length ≤ 100 := by
  unfold rightL at h
  simp only [Bool.and_eq_true, decide_eq_true_eq] at h
  exact h.1
theorem items_len {l : List Atr} (h : ∀ a ∈ l, rightA a = true) (hf : ∀ a ∈ l, a.Fits) (hl : l.length ≤ 100) : (Lib.join ((l.map itemB).map (·.data.toList)) [44, 32]).length ≤ 2000000 := by
  have := join_len 10065 ((l.map itemB).map (·.data.toList)) (fun x hx => by
    simp only [List.mem_map] at hx
    obtain ⟨y, ⟨a, ha, rfl⟩, rfl⟩ := hx
    rw [itemB_list]
    have h1 := rightA_name (h a ha)
    have h2 := valD_len (h a ha) (hf a ha)
    simp [itemD, Atr.dat] at h2 ⊢; omega)
  simp at this ⊢; omega

theorem cell_grown {W W' : World} {row : Option Nat} (hg : W.grownBy W' row) (b : Nat) (hb : b < W.heap.size) (hne : row = some b → False) : ∀ off, W'.cell? ⟨b, off, none⟩ = W.cell? ⟨b, off, none⟩ :=
  fun off => World.cell?_of_block (a := ⟨b, off, none⟩) (hg.block b hb (fun e => hne e.symm))
set_option maxRecDepth 262144 in
set_option maxHeartbeats 4000000 in
theorem list_any (p : Option Addr) (c : Nat) (l : List Atr) (w : World) (hs : AtrSl w p l) (hr : ∀ a ∈ l, rightA a = true) (hl : l.length ≤ 100) (hp : Pow w) :
    Calls Tryz.prog 53 #[.slice p l.length c] w fun e w' => e = .returned (.string ⟨(listD (l.map Atr.dat)).toArray⟩) ∧ Below w.heap.size w w' := by
  by_cases hnil : l = []
  · subst hnil
    clear hs hr hp
    go_enter Tryz.func53, Tryz.ntmps53
    go_wp2_with fail
    go_ret
    exact ⟨rfl, Below.refl _ _⟩
  · obtain ⟨i0, hin, hz0, hz1, hz2⟩ := info_parts (show (Tryz.prog.info? 9).map (fun i => (i.zero, i.size, i.bytes)) = some (some (.string ⟨#[]⟩), 1, 16) by kernel_rfl)
    have hpos : 0 < l.length := List.length_pos_iff.2 hnil
    have hjl := Lib.hid (items_len hr hs.fits hl)
    have HS := Lib.hid hs
    have HR := Lib.hid hr
    have HP := Lib.hid hp
    have HNIL := Lib.hid hnil
    obtain ⟨N, hN⟩ : ∃ N, N = l.length := ⟨_, rfl⟩
    rw [← hN] at hl hpos ⊢
    have HN := Lib.hid hN
    have hne : ((N : Int) == 0) = false := by simp; omega
    clear hs hr hp hN hnil
    go_enter Tryz.func53, Tryz.ntmps53
    go_wp2_with fail
    go_loopw [3, 11] (fun v i wr => ∃ (j : Nat) (sa : Option Addr) (sc : Nat), v = .slice sa j sc ∧ i = .int .i64 j ∧ j ≤ N ∧ wr.ownsRow w.heap.size 9 1 (.slice sa j sc) j (((l.map itemB).take j).map .string) ∧ Below w.heap.size w wr) (fun _ i _ => N - (intOf i).toNat)
    case atStart => exact ⟨0, none, 0, rfl, rfl, Nat.zero_le _, World.ownsRow_nil _ _ _ _, Below.refl _ _⟩
    case round =>
      obtain ⟨j, sa, sc, rfl, rfl, hj, ho, hb⟩ := hrel
      have HO := Lib.hid ho
      have HB := Lib.hid hb
      have hszw := hb.size
      clear ho hb
      rcases Nat.lt_or_ge j N with hlt | hge
      · have hl0 : j < l.length := by rw [← HN.out]; exact hlt
        have hsw := HS.out.below HB.out
        obtain ⟨g, off, rfl, hg, hrow⟩ := hsw.row hl0
        obtain ⟨a0, ha0⟩ : ∃ a0, a0 = l[j] := ⟨_, rfl⟩
        have hcj := hrow j hl0
        rw [← ha0] at hcj
        have hmem : a0 ∈ l := by rw [ha0]; exact List.getElem_mem _
        have HLI := Lib.hid (fun (W : World) (hb : Below wr.heap.size wr W) => (hsw.lies a0 hmem).below hb)
        have HFI := Lib.hid (hsw.fits a0 hmem)
        have HRI := Lib.hid (HR.out a0 hmem)
        have hj0 : (0 : Int) ≤ (j : Int) := by omega
        have hjl' : (j : Int) < (N : Int) := by omega
        have hn60 := rightA_name HRI.out
        have hv := valD_len HRI.out HFI.out
        have HTK : Hid ((l.map itemB).take (j + 1) = (l.map itemB).take j ++ [itemB a0]) := Lib.hid (by
          rw [List.take_add_one, List.getElem?_map, List.getElem?_eq_getElem hl0, ha0]; rfl)
        obtain ⟨vs, hvs⟩ : ∃ vs : ByteArray, vs = ⟨(valD a0.dat).toArray⟩ := ⟨_, rfl⟩
        have hvl : vs.size ≤ 10002 := by rw [hvs]; simpa [ByteArray.size] using hv
        have HVS := Lib.hid hvs
        clear ha0 hrow hsw hmem hv hvs
        obtain ⟨k0, k1, k2, k3, k4, k5⟩ := hcj
        have hs1 : ∀ W : World, (Op.stringOp .add a0.name ⟨#[32, 61, 32]⟩).run Tryz.prog W = .ok (.string (a0.name ++ ⟨#[32, 61, 32]⟩)) W := fun W => run_string_add_sum W _ _ (by have : (⟨#[32, 61, 32]⟩ : ByteArray).size = 3 := rfl; omega)
        have hs2 : ∀ W : World, (Op.stringOp .add (a0.name ++ ⟨#[32, 61, 32]⟩) vs).run Tryz.prog W = .ok (.string (a0.name ++ ⟨#[32, 61, 32]⟩ ++ vs)) W := fun W => run_string_add_sum W _ _ (by have : (⟨#[32, 61, 32]⟩ : ByteArray).size = 3 := rfl; rw [ByteArray.size_append]; omega)
        have hrlt := Lib.hid HO.out.lt
        have hj9 : j < 100 := by omega
        go_wp2_with fail
        go_region_held3 (fun w' => w'.cell? ⟨wr.heap.size, 0, none⟩ = some (.string a0.name) ∧ w'.cell? ⟨wr.heap.size, 0 + 1, none⟩ = some (.int .i64 a0.kind) ∧ w'.cell? ⟨wr.heap.size, 0 + 2, none⟩ = some (.int .i64 a0.num) ∧ w'.cell? ⟨wr.heap.size, 0 + 3, none⟩ = some (.string a0.text) ∧ w'.cell? ⟨wr.heap.size, 0 + 4, none⟩ = some (.slice a0.ia a0.ints.length a0.ic) ∧ w'.cell? ⟨wr.heap.size, 0 + 5, none⟩ = some (.slice a0.ta a0.texts.length a0.tc)) (go_keep)
          (first
            | (go_at_call 45; refine (textA_any a0 _ (HLI.out _ ?_) HFI.out HRI.out (pow_below HP.out (below_own' HB.out ?_))).mono ?_; (focus ((repeat (first | (with_reducible refine below_set ?_ (by first | exact Nat.le_refl _ | omega) _ _) | with_reducible exact Below.refl _ _ | with_reducible refine belowA ?_ _ | with_reducible refine belowD ?_ | with_reducible refine belowN ?_ _)); done)); (focus ((repeat (first | (with_reducible refine below_set ?_ (by first | exact Nat.le_refl _ | omega) _ _) | with_reducible exact Below.refl _ _ | with_reducible refine belowA ?_ _ | with_reducible refine belowD ?_ | with_reducible refine belowN ?_ _)); done)); rintro e w2 ⟨rfl, hb2⟩; rw [← HVS.out]; have c2 := rdCell hb2 wr.heap.size (by first | (simp; done) | (simp; omega)); have hzz : wr.heap.size < w2.heap.size := (by have := Below.size hb2; simp at this; omega))
            | (rw [if_pos (by rfl)]; refine wp_append_own _ _ _ 25 rfl w.heap.size 9 i0 (.string ⟨#[]⟩) 1 16 Tryz.underlying25 hin hz0 hz1 hz2 rfl (by decide) _ _ _ rfl ((own_below HO.out (by (repeat (first | (with_reducible refine below_set ?_ (by first | exact Nat.le_refl _ | omega) _ _) | with_reducible exact Below.refl _ _ | with_reducible refine belowA ?_ _ | with_reducible refine below_own' ?_ hb2 | with_reducible refine belowD ?_ | with_reducible refine belowN ?_ _)))).alloc _) ⟨w2.heap.size, 0, none⟩ 1 1 [.string (a0.name ++ ⟨#[32, 61, 32]⟩ ++ vs)] rfl rfl ?c1 ?c2 ?c3 ?c4 ?c5 ?_;
                (focus (case c1 => (intro t u hj; match t, hj with | 0, hj => simp at hj; subst hj; simp [Addr.add]))); (focus (case c2 => (intro u hu; simp at hu; subst hu; rfl))); (focus (case c3 => (unfold maxLen; omega))); (focus (case c4 => omega)); (focus (case c5 => (have := hb2.size; simp at this ⊢; omega)));
                intro v' w3 hown' hgrow hnil3; obtain ⟨sa', sc', rfl⟩ := own_slice hown'; clear hnil3; have c3 := cell_grown hgrow wr.heap.size (by first | (simp; done) | (simp; omega)) (fun e => by have := (hrlt.out _ e).2; omega)))
        have HOWN3 := Lib.hid (show w3.ownsRow w.heap.size 9 1 (.slice sa' (j + 1) sc') (j + 1) (((l.map itemB).take (j + 1)).map .string) by rw [HTK.out, itemB, ← HVS.out]; simpa using hown')
        have HB3 := Lib.hid (show Below w.heap.size w w3 from (belowA (show Below w.heap.size w w2 from below_own' HB.out (by (repeat (first | (with_reducible refine below_set ?_ (by first | exact Nat.le_refl _ | omega) _ _) | with_reducible exact Below.refl _ _ | with_reducible refine belowA ?_ _ | with_reducible refine below_own' ?_ hb2 | with_reducible refine belowD ?_ | with_reducible refine belowN ?_ _)))) _).grown hgrow (by simp; omega) (fun k hk => (HO.out.lt k hk).1))
        clear hown'
        go_wp2_with fail
        go_roundw
        · exact ⟨j + 1, sa', sc', by go_num, by go_num, by omega, HOWN3.out, HB3.out⟩
        · simp [intOf]; omega
      · obtain rfl : N = j := by omega
        have htk : (l.map itemB).take N = l.map itemB := List.take_of_length_le (by simp [HN.out])
        have ho := HO.out
        rw [htk] at ho
        have hlm : (l.map itemB).length = N := by simp [HN.out]
        have hsl := own_strs (zs := l.map itemB) ho
        obtain ⟨sa', sc', he, hcap, -⟩ := own_form ho
        cases he
        have HJ := Lib.hid (join_sl' hsl sc (by rw [hlm]; exact hcap) (by rw [hlm]; omega) (Nat.le_trans hjl.out (by omega)))
        rw [hlm] at HJ
        clear hcap ho hsl hlm htk
        go_wp2_with (go_at_call 79; refine HJ.out.mono ?_; rintro e w2 ⟨t, rfl, ht, hts, hb2⟩)
        go_ret
        refine ⟨?_, below_own' HB.out hb2⟩
        have e1 : (⟨#[123]⟩ ++ t ++ ⟨#[125]⟩ : ByteArray) = ⟨(listD (l.map Atr.dat)).toArray⟩ := by
          apply ByteArray.ext
          apply Array.ext'
          have hm : (l.map itemB).map (fun x => x.data.toList) = (l.map Atr.dat).map itemD := by
            rw [List.map_map, List.map_map]; apply List.map_congr_left; intro a _; exact itemB_list a
          rw [listD, if_neg (by simpa using HNIL.out), ← hm, ← ht.out]
          simp
        rw [← e1]; rfl

/-- The string of a list, if it is not too long. -/
def shortPost (s : List UInt8) (w : World) (e : Ending) (w' : World) : Prop :=
  (if s.length ≤ 262144 then e = .returned (.tuple #[.string ⟨s.toArray⟩, .int .i64 0]) else e = .returned (.tuple #[.string ⟨#[]⟩, .int .i64 2])) ∧ Below w.heap.size w w'
theorem short_any (s : List UInt8) (w : World) : Calls Tryz.prog 59 #[.string ⟨s.toArray⟩] w (shortPost s w) := by
  obtain ⟨t, ht⟩ : ∃ t : ByteArray, t = ⟨s.toArray⟩ := ⟨_, rfl⟩
  have hz : t.size = s.length := by rw [ht]; simp [ByteArray.size]
  rw [← ht]
  have HT := Lib.hid ht
  have HZ := Lib.hid hz
  rcases Nat.lt_or_ge 262144 t.size with h | h
  all_goals
    clear ht hz
    go_enter Tryz.func59, Tryz.ntmps59
    go_wp2_with fail
    go_ret2
    refine ⟨?_, Below.refl _ _⟩
    rw [← HZ.out]
  · rw [if_neg (by omega)]; rfl
  · rw [if_pos h, ← HT.out]; rfl
/-- What Value and Print answer. -/
def SaidPost (ok : Bool) (s : List UInt8) (w : World) (e : Ending) (w' : World) : Prop :=
  (if ok then (if s.length ≤ 262144 then e = .returned (.tuple #[.string ⟨s.toArray⟩, .int .i64 0]) else e = .returned (.tuple #[.string ⟨#[]⟩, .int .i64 2])) else e = .returned (.tuple #[.string ⟨#[]⟩, .int .i64 20])) ∧ Below w.heap.size w w'
theorem print_any (p : Option Addr) (c : Nat) (l : List Atr) (w : World) (hs : AtrSl w p l) (hl : l.length ≤ 100000000000000) (hp : Pow w) :
    Calls Tryz.prog 30 #[.slice p l.length c] w (SaidPost (rightL l) (listD (l.map Atr.dat)) w) := by
  have HS := Lib.hid (fun (W : World) (hb : Below w.heap.size w W) => hs.below hb)
  have HP := Lib.hid hp
  have hc := check_any' p c l w hs hl
  unfold CkPost at hc
  obtain ⟨r, hr⟩ : ∃ r, r = rightL l := ⟨_, rfl⟩
  rw [← hr]
  rw [← hr] at hc
  have HC := Lib.hid hc
  clear hc
  have HR := Lib.hid hr
  clear hs hp hr
  cases r with
  | false =>
    go_enter Tryz.func30, Tryz.ntmps30
    go_wp2_with (go_at_call 19; refine HC.out.mono ?_; rintro e w1 ⟨rfl, hb1⟩; simp only [Bool.false_eq_true, if_false])
    go_ret2
    exact ⟨rfl, hb1⟩
  | true =>
    go_enter Tryz.func30, Tryz.ntmps30
    go_wp2_with (first
      | (go_at_call 19; refine HC.out.mono ?_; rintro e w1 ⟨rfl, hb1⟩; simp only [if_true])
      | (go_at_call 53; refine (list_any p c l _ (HS.out _ ?_) (rightL_mem HR.out.symm) (rightL_len HR.out.symm) (pow_below HP.out ?_)).mono ?_; (focus ((repeat (first | (with_reducible refine below_set ?_ (by first | exact Nat.le_refl _ | omega) _ _) | with_reducible exact Below.refl _ _ | with_reducible refine belowA ?_ _ | with_reducible refine below_own' ?_ hb1 | with_reducible refine belowD ?_ | with_reducible refine belowN ?_ _)); done)); (focus ((repeat (first | (with_reducible refine below_set ?_ (by first | exact Nat.le_refl _ | omega) _ _) | with_reducible exact Below.refl _ _ | with_reducible refine belowA ?_ _ | with_reducible refine below_own' ?_ hb1 | with_reducible refine belowD ?_ | with_reducible refine belowN ?_ _)); done)); rintro e w2 ⟨rfl, hb2⟩)
      | (go_at_call 59; refine (short_any _ _).mono ?_; rintro e w3 ⟨he, hb3⟩; split at he; all_goals (subst he)))
    all_goals go_ret2
    all_goals refine ⟨?_, by (repeat (first | (with_reducible refine below_set ?_ (by first | exact Nat.le_refl _ | omega) _ _) | with_reducible exact Below.refl _ _ | with_reducible refine belowA ?_ _ | with_reducible refine below_own' ?_ hb3 | with_reducible refine below_own' ?_ hb2 | with_reducible refine below_own' ?_ hb1 | with_reducible refine belowD ?_ | with_reducible refine belowN ?_ _))⟩
    · rw [if_pos rfl, if_pos (by assumption)]; rfl
    · rw [if_pos rfl, if_neg (by assumption)]; rfl
end Go.Proofs.YtmepjbjmjbpchaaGreatDoor
end
