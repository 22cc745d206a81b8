/- Texts of this claim, laid together: Ax2, Az0, Ax3. -/
import Derived.Lib.ItoaLen
import Derived.Laws.RangeAny
import Derived.Lib.OthersKept
import Derived.WalkSmall
import Derived.Test.YtmepjbjmjbpchaaGreatDoorMg4
import Derived.Test.YtmepjbjmjbpchaaGreatDoorMg5
import Derived.Test.YtmepjbjmjbpchaaGreatDoorMg9
import Derived.Test.YtmepjbjmjbpchaaGreatDoorMg13
import Derived.Test.YtmepjbjmjbpchaaGreatDoorMg14
section
/- Package attrs: the strings of values, kind by kind. -/
namespace Go.Proofs.YtmepjbjmjbpchaaGreatDoor
open Go Go.RowKit
set_option linter.unusedVariables false
set_option linter.unusedSimpArgs false

/-- A number's digits as a string. -/
def itoaB (z : Int) : ByteArray := ⟨(Lib.itoa z).toArray⟩
theorem itoaB_size (z : Int) (h0 : -9223372036854775808 ≤ z) (h1 : z ≤ 9223372036854775807) : (itoaB z).size ≤ 21 := by
  simpa [itoaB, ByteArray.size] using Lib.itoa_length_le z h0 h1
theorem fmt_any (n : Int) (h0 : -9223372036854775808 ≤ n) (h1 : n ≤ 9223372036854775807) (w : World) (hp : Pow w) :
    Calls Tryz.prog 136 #[.int .i64 n, .int .i64 10] w fun e w' => ∃ t : ByteArray, e = .returned (.string t) ∧ Hid (t = itoaB n) ∧ Below w.heap.size w w' := by
  have hc := (Tryz.internal_strconv_FormatInt_10 n h0 h1 w hp).mono (R' := fun e w' => ∃ t : ByteArray, e = .returned (.string t) ∧ Hid (t = itoaB n) ∧ Below w.heap.size w w') fun e w' ⟨he, k, os, hw⟩ => ⟨_, he, rfl, by rw [hw]; exact below_grow w k os⟩
  have HC := Lib.hid hc
  clear hc
  go_enter Tryz.func136, Tryz.ntmps136
  go_wp2_with (go_at_call 155; refine HC.out.mono ?_; rintro e w1 ⟨t, rfl, ht, hb⟩)
  go_ret
  exact ⟨t, rfl, ht, hb⟩
theorem join_sl' {w : World} {a : Option Addr} {ls : List ByteArray} (h : StrSl w a ls) (c : Nat) (hc : ls.length ≤ c) (hN : ls.length ≤ 140737488355328) (hl : (Lib.join (ls.map (·.data.toList)) [44, 32]).length ≤ 140737488355328) :
    Calls Tryz.prog 79 #[.slice a ls.length c, .string ⟨#[44, 32]⟩] w fun e w' => ∃ t : ByteArray, e = .returned (.string t) ∧ Hid (t.data.toList = Lib.join (ls.map (·.data.toList)) [44, 32]) ∧ t.size ≤ 140737488355328 ∧ Below w.heap.size w w' := by
  rcases h with rfl | ⟨g, off, rfl, h2, h3⟩
  · exact (Tryz.strings_Join_none a c ⟨#[44, 32]⟩ w).mono fun e w' ⟨he, hw⟩ => ⟨_, he, rfl, by simp [ByteArray.size], by rw [hw]; exact Below.refl _ _⟩
  · refine (Tryz.strings_Join g off c ls ⟨#[44, 32]⟩ w (fun j x hx => ?_) h2 hN hc (by simpa using hl)).mono fun e w' ⟨he, hb⟩ => ⟨_, he, rfl, by simpa [ByteArray.size] using hl, hb⟩
    obtain ⟨hj, rfl⟩ := List.getElem?_eq_some_iff.1 hx
    exact h3 j hj
theorem join_len (b : Nat) (xs : List (List UInt8)) (h : ∀ x ∈ xs, x.length ≤ b) : (Lib.join xs [44, 32]).length ≤ (b + 2) * xs.length := by
  cases xs with
  | nil => simp [Lib.join_nil]
  | cons x r =>
    rw [Lib.join_length]
    have := lens_le b (x :: r) h
    simp [Nat.add_mul, Nat.mul_add] at this ⊢
    omega

/-- The string of a value. -/
def valD (d : Dat) : List UInt8 :=
  if d.kind = 0 then Lib.itoa d.num else if d.kind = 1 then quoteL d.text.data.toList else if d.kind = 2 then 64 :: d.text.data.toList
  else if d.kind = 3 then d.text.data.toList else if d.kind = 4 then 91 :: (Lib.join ((d.ints.map itoaB).map (·.data.toList)) [44, 32] ++ [93])
  else (joinOf d.texts).1

section
variable (nm : ByteArray) (k n : Int) (tx : ByteArray) (ia : Option Addr) (il ic : Nat) (ta : Option Addr) (tl tc : Nat) (w : World)
theorem vnumber_any (h0 : -9223372036854775808 ≤ n) (h1 : n ≤ 9223372036854775807) (hp : Pow w) :
    Calls Tryz.prog 102 #[av nm k n tx ia il ic ta tl tc] w fun e w' => e = .returned (.string (itoaB n)) ∧ Below w.heap.size w w' := by
  have HP := Lib.hid hp
  clear hp
  go_enter Tryz.func102, Tryz.ntmps102
  go_wp2_with (go_at_call 136; refine (fmt_any n h0 h1 _ (pow_below HP.out ((Below.refl _ w).alloc (Nat.le_refl _) _))).mono ?_; rintro e w1 ⟨t, rfl, ht, hb1⟩)
  go_ret
  exact ⟨by rw [ht.out]; rfl, below_own hb1⟩
theorem symbol_any (hx : tx.size ≤ 140737488351232) : Calls Tryz.prog 107 #[av nm k n tx ia il ic ta tl tc] w fun e w' => e = .returned (.string (⟨#[64]⟩ ++ tx)) ∧ Below w.heap.size w w' := by
  go_enter Tryz.func107, Tryz.ntmps107
  go_wp2_with fail
  go_ret
  exact ⟨rfl, (Below.refl _ w).alloc (Nat.le_refl _) _⟩
theorem same_any : Calls Tryz.prog 109 #[av nm k n tx ia il ic ta tl tc] w fun e w' => e = .returned (.string tx) ∧ Below w.heap.size w w' := by
  go_enter Tryz.func109, Tryz.ntmps109
  go_wp2_with fail
  go_ret
  exact ⟨rfl, (Below.refl _ w).alloc (Nat.le_refl _) _⟩
theorem quoted_any (hs : tx.size ≤ 1000) : Calls Tryz.prog 105 #[av nm k n tx ia il ic ta tl tc] w fun e w' => e = .returned (.string ⟨(quoteL tx.data.toList).toArray⟩) ∧ Below w.heap.size w w' := by
  go_enter Tryz.func105, Tryz.ntmps105
  go_wp2_with (go_at_call 137; refine (quote_any tx _ (by omega)).mono ?_; rintro e w1 ⟨rfl, hb1⟩)
  go_ret
  exact ⟨rfl, below_own hb1⟩
theorem types_any (ls : List ByteArray) (hs : StrSl w ta ls) (hlen : ls.length ≤ 9223372036854775807) (hc : ls.length ≤ tc) (hl : ∀ s ∈ ls, s.size ≤ 140737488355328) :
    Calls Tryz.prog 114 #[av nm k n tx ia il ic ta ls.length tc] w fun e w' => e = .returned (.string ⟨(joinOf ls).1.toArray⟩) ∧ Below w.heap.size w w' := by
  have hb0 := (Below.refl w.heap.size w).alloc (Nat.le_refl _) (.cells (avCells nm k n tx ia il ic ta ls.length tc) 120)
  have HJ := Lib.hid (joinT_any ta tc ls _ (hs.below hb0) hlen hc hl)
  clear hb0 hs hl
  go_enter Tryz.func114, Tryz.ntmps114
  go_wp2_with (go_at_call 138; refine HJ.out.mono ?_; rintro e w1 ⟨rfl, hb1⟩)
  go_ret
  exact ⟨by simp, below_own hb1⟩
set_option maxRecDepth 100000 in
set_option maxHeartbeats 2000000 in
theorem ints_any (zs : List Int) (hs : IntSl w ia zs) (hlen : zs.length ≤ 100) (hz : ∀ z ∈ zs, -9223372036854775808 ≤ z ∧ z ≤ 9223372036854775807) (hp : Pow w) :
    Calls Tryz.prog 112 #[av nm k n tx ia zs.length ic ta tl tc] w fun e w' => e = .returned (.string ⟨(91 :: (Lib.join ((zs.map itoaB).map (·.data.toList)) [44, 32] ++ [93])).toArray⟩) ∧ Below w.heap.size w w' := by
  obtain ⟨i0, hin, hz0, hz1, hz2⟩ := info_parts (show (Tryz.prog.info? 9).map (fun i => (i.zero, i.size, i.bytes)) = some (some (.string ⟨#[]⟩), 1, 16) by kernel_rfl)
  have HS := Lib.hid hs
  have HZ := Lib.hid hz
  have HP := Lib.hid hp
  obtain ⟨N, hN⟩ : ∃ N, N = zs.length := ⟨_, rfl⟩
  rw [← hN] at hlen ⊢
  have HN := Lib.hid hN
  have hjl : Hid ((Lib.join ((zs.map itoaB).map (·.data.toList)) [44, 32]).length ≤ 10000) := Lib.hid (by
    have := join_len 21 ((zs.map itoaB).map (·.data.toList)) (fun x hx => by
      simp only [List.mem_map] at hx
      obtain ⟨y, ⟨z, hzm, rfl⟩, rfl⟩ := hx
      simpa using itoaB_size z (HZ.out z hzm).1 (HZ.out z hzm).2)
    simp at this ⊢; omega)
  clear hs hz hp hN
  go_enter Tryz.func112, Tryz.ntmps112
  go_wp2_with fail
  go_loopw [3, 9] (fun v i wr => ∃ (j : Nat) (sa : Option Addr) (sc : Nat), v = .slice sa j sc ∧ i = .int .i64 j ∧ j ≤ N ∧ wr.ownsRow w.heap.size 9 1 (.slice sa j sc) j (((zs.map itoaB).take j).map .string) ∧ Below w.heap.size w wr) (fun _ i _ => N - (intOf i).toNat)
  case atStart => exact ⟨0, none, 0, rfl, rfl, Nat.zero_le _, World.ownsRow_nil _ _ _ _, (Below.refl _ w).alloc (Nat.le_refl _) _⟩
  case round =>
    obtain ⟨j, sa, sc, rfl, rfl, hj, ho, hb⟩ := hrel
    have HO := Lib.hid ho
    have HB := Lib.hid hb
    have hszw := hb.size
    clear ho hb
    rcases Nat.lt_or_ge j N with hlt | hge
    · have hl0 : j < zs.length := by rw [← HN.out]; exact hlt
      obtain ⟨g, off, rfl, hg, hcell⟩ := (HS.out.below HB.out).at hl0
      have hlt' : (j : Int) < (N : Int) := by omega
      obtain ⟨z, hze⟩ : ∃ z, z = zs.getD j 0 := ⟨_, rfl⟩
      rw [← hze] at hcell
      have hzm : z ∈ zs := by rw [hze, List.getD_eq_getElem?_getD, List.getElem?_eq_getElem hl0]; exact List.getElem_mem _
      obtain ⟨z0, z1⟩ := HZ.out z hzm
      have HTK : Hid ((zs.map itoaB).take (j + 1) = (zs.map itoaB).take j ++ [itoaB z]) := Lib.hid (by
        rw [List.take_add_one, List.getElem?_map, List.getElem?_eq_getElem hl0, hze, List.getD_eq_getElem?_getD, List.getElem?_eq_getElem hl0]; rfl)
      have hj9 : j < 100 := by omega
      clear hze hzm
      go_wp2_with (first
        | (go_at_call 136; refine (fmt_any z z0 z1 wr (pow_below HP.out HB.out)).mono ?_; rintro e w2 ⟨t, rfl, ht, hb2⟩)
        | (at_builtin; refine wpList_append_own _ rfl _ _ 25 rfl w.heap.size 9 i0 (.string ⟨#[]⟩) 1 16 Tryz.underlying25 hin hz0 hz1 hz2 rfl (by decide) _ _ _ rfl ((own_below HO.out hb2).alloc _) ⟨w2.heap.size, 0, none⟩ 1 1 [.string t] rfl rfl ?c1 ?c2 ?c3 ?c4 ?c5 ?_))
      case c1 =>
        intro t u hj
        match t, hj with
        | 0, hj => simp at hj; subst hj; simp [Addr.add]
      case c2 => intro u hu; simp at hu; subst hu; rfl
      case c3 => unfold maxLen; omega
      case c4 => omega
      case c5 => simp; have := hb2.size; omega
      intro v' w3 hown' hgrow _
      obtain ⟨sa', sc', rfl⟩ := own_slice hown'
      have HOWN3 := Lib.hid (show w3.ownsRow w.heap.size 9 1 (.slice sa' (j + 1) sc') (j + 1) (((zs.map itoaB).take (j + 1)).map .string) by rw [HTK.out, ← ht.out]; simpa using hown')
      have hszb := hb2.size
      have HB3 := Lib.hid ((belowA (below_own' HB.out hb2) (.cells #[.string t] 9)).grown hgrow (by simp; omega) (fun k hk => ((own_below HO.out hb2).lt k hk).1))
      clear hown'
      go_wp2_with fail
      go_roundw
      · exact ⟨j + 1, sa', sc', by go_num, by go_num, by omega, HOWN3.out, HB3.out⟩
      · simp [intOf]; omega
    · obtain rfl : N = j := by omega
      have htk : (zs.map itoaB).take N = zs.map itoaB := List.take_of_length_le (by simp [HN.out])
      have ho := HO.out
      rw [htk] at ho
      have hlm : (zs.map itoaB).length = N := by simp [HN.out]
      have hsl := own_strs (zs := zs.map itoaB) ho
      obtain ⟨sa', sc', he, hcap, -⟩ := own_form ho
      cases he
      have HJ := Lib.hid (join_sl' hsl sc (by rw [hlm]; exact hcap) (by rw [hlm]; omega) (Nat.le_trans hjl.out (by omega)))
      rw [hlm] at HJ
      clear hcap ho hsl hlm htk
      go_wp2_with (go_at_call 79; refine HJ.out.mono ?_; rintro e w2 ⟨t, rfl, ht, hts, hb2⟩)
      go_ret
      refine ⟨?_, below_own' HB.out hb2⟩
      have e1 : (⟨#[91]⟩ ++ t ++ ⟨#[93]⟩ : ByteArray) = ⟨(91 :: (Lib.join ((zs.map itoaB).map (·.data.toList)) [44, 32] ++ [93])).toArray⟩ := by
        apply ByteArray.ext
        apply Array.ext'
        rw [← ht.out]
        simp
      rw [← e1]; rfl
end
end Go.Proofs.YtmepjbjmjbpchaaGreatDoor
end
section
/- attrs.pieces: the parts of a list between commas that stand outside of strings and brackets. -/
namespace Go.Proofs.YtmepjbjmjbpchaaGreatDoor
open Go Go.RowKit
set_option linter.unusedVariables false
set_option linter.unusedSimpArgs false

/-- The parts from a place on: d the depth, q whether within a string, f where the part begins, k whether the next rune is passed over. -/
def pcs (s : ByteArray) : Nat → Nat → Int → Bool → Nat → Bool → List ByteArray
  | 0, _, _, _, f, _ => [s.extract f s.size]
  | n + 1, pos, d, q, f, k =>
    if pos < s.size then
      if k = true then pcs s n (pos + (Utf8.decode s pos).2) d q f false
      else if q = true ∧ (Utf8.decode s pos).1 = 92 then pcs s n (pos + (Utf8.decode s pos).2) d q f true
      else if (Utf8.decode s pos).1 = 34 then pcs s n (pos + (Utf8.decode s pos).2) d (!q) f false
      else if q = true then pcs s n (pos + (Utf8.decode s pos).2) d q f false
      else if (Utf8.decode s pos).1 = 40 ∨ (Utf8.decode s pos).1 = 91 ∨ (Utf8.decode s pos).1 = 60 then pcs s n (pos + (Utf8.decode s pos).2) (d + 1) q f false
      else if (Utf8.decode s pos).1 = 41 ∨ (Utf8.decode s pos).1 = 93 ∨ (Utf8.decode s pos).1 = 62 then pcs s n (pos + (Utf8.decode s pos).2) (d - 1) q f false
      else if (Utf8.decode s pos).1 = 44 ∧ d = 0 then s.extract f pos :: pcs s n (pos + (Utf8.decode s pos).2) d q (pos + 1) false
      else pcs s n (pos + (Utf8.decode s pos).2) d q f false
    else [s.extract f s.size]
def piecesB (s : ByteArray) : List ByteArray := pcs s s.size 0 0 false 0 false
theorem pcs_end (s : ByteArray) (n pos : Nat) (d : Int) (q : Bool) (f : Nat) (k : Bool) (h : ¬ pos < s.size) : pcs s n pos d q f k = [s.extract f s.size] := by
  cases n <;> simp [pcs, h]
theorem width_pos (s : ByteArray) (pos : Nat) (h : pos < s.size) : 1 ≤ (Utf8.decode s pos).2 := by
  by_cases ha : (s[pos]'h).toNat < 128
  · rw [decode_ascii s pos h ha]
    exact Nat.le_refl _
  · exact (decode_high s pos h (by omega)).2
/-- What the loop carries. -/
structure PcI (s : ByteArray) (w : World) (wr : World) (pos n f : Nat) (d : Int) (q k : Bool) (acc : List ByteArray) (v : Value) : Prop where
  own : wr.ownsRow (w.heap.size + 1) 9 1 v acc.length (acc.map .string)
  it : wr.heap[w.heap.size]? = some (.stringIter s pos)
  bel : Below w.heap.size w wr
  eq : acc ++ pcs s n pos d q f k = piecesB s
  fuel : s.size ≤ pos + n
  f1 : f ≤ pos
  f2 : f ≤ s.size
  d1 : -(pos : Int) ≤ d
  d2 : d ≤ pos
  al : acc.length ≤ f
theorem PcI.next {s : ByteArray} {w wr : World} {pos n f : Nat} {d : Int} {q k : Bool} {acc : List ByteArray} {v : Value} (h : PcI s w wr pos (n + 1) f d q k acc v) (hp : pos < s.size) {d' : Int} {q' k' : Bool}
    (he : pcs s (n + 1) pos d q f k = pcs s n (pos + (Utf8.decode s pos).2) d' q' f k') (hd1 : -((pos : Int) + 1) ≤ d') (hd2 : d' ≤ (pos : Int) + 1) :
    PcI s w (wr.iterAt w.heap.size s (pos + (Utf8.decode s pos).2)) (pos + (Utf8.decode s pos).2) n f d' q' k' acc v := by
  have hwd := width_pos s pos hp
  exact ⟨ownsRow_iterAt h.own (by omega) s _, Lib.iterAt_heap _ _ _ _ _ h.it, Lib.below_iterAt h.bel (Nat.le_refl _) s _, by rw [← he]; exact h.eq, by have := h.fuel; omega, by have := h.f1; omega, h.f2, by omega, by omega, h.al⟩

set_option maxRecDepth 100000 in
set_option maxHeartbeats 8000000 in
theorem pieces_any (s : ByteArray) (w : World) (hs : s.size ≤ 1099511627776) :
    Calls Tryz.prog 50 #[.string s] w fun e w' => ∃ sa sc, e = .returned (.slice sa (piecesB s).length sc) ∧ w'.ownsRow w.heap.size 9 1 (.slice sa (piecesB s).length sc) (piecesB s).length ((piecesB s).map .string) ∧ Below w.heap.size w w' := by
  obtain ⟨i0, hin, hz0, hz1, hz2⟩ := info_parts (show (Tryz.prog.info? 9).map (fun i => (i.zero, i.size, i.bytes)) = some (some (.string ⟨#[]⟩), 1, 16) by kernel_rfl)
  go_enter Tryz.func50, Tryz.ntmps50
  go_wp2_with fail
  go_loopw [3, 4, 5, 6, 7] (fun v dv qv fv kv wr => ∃ (pos n f : Nat) (d : Int) (q k : Bool) (acc : List ByteArray) (sa : Option Addr) (sc : Nat), v = .slice sa acc.length sc ∧ dv = .int .i64 d ∧ qv = .bool q ∧ fv = .int .i64 f ∧ kv = .bool k ∧ PcI s w wr pos n f d q k acc (.slice sa acc.length sc)) (fun _ _ _ _ _ wr => s.size - wr.iterPos w.heap.size)
  case atStart => exact ⟨0, s.size, 0, 0, false, false, [], none, 0, rfl, rfl, rfl, rfl, rfl, ⟨World.ownsRow_nil _ _ _ _, World.iter_heap w s 0, (Below.refl _ w).alloc (Nat.le_refl _) _, rfl, by omega, by omega, by omega, by omega, by omega, by simp⟩⟩
  case round =>
    obtain ⟨pos, n, f, d, q, k, acc, sa, sc, rfl, rfl, rfl, rfl, rfl, hI⟩ := hrel
    have HI := Lib.hid hI
    have hszw := hI.bel.size
    have hf1 := hI.f1
    have hf2 := hI.f2
    have hd1 := hI.d1
    have hd2 := hI.d2
    have hal := hI.al
    by_cases hp : pos < s.size
    · obtain ⟨n, rfl⟩ : ∃ m, n = m + 1 := ⟨n - 1, by have := hI.fuel; omega⟩
      have hwd := Lib.hid (width_pos s pos hp)
      have hcle := decode_le s pos
      obtain ⟨W, hW⟩ : ∃ W, W = wr.iterAt w.heap.size s (pos + (Utf8.decode s pos).2) := ⟨_, rfl⟩
      obtain ⟨c, hc⟩ : ∃ c, c = (Utf8.decode s pos).1 := ⟨_, rfl⟩
      have hnx : ∀ ty, (Instr.next (.pointer (some ⟨w.heap.size, 0, none⟩)) true ty).run Tryz.prog wr = .ok (.tuple #[.bool true, .int .i64 pos, .int .i32 c]) W := fun ty => by rw [hc, hW]; exact Lib.run_next_any_at wr w.heap.size s pos ty hI.it hp
      rw [← hc] at hcle
      have HW := Lib.hid hW
      have HC := Lib.hid hc
      have hmes : Hid (s.size - (pos + (Utf8.decode s pos).2) < s.size - wr.iterPos w.heap.size) := Lib.hid (by rw [iterPos_of hI.it]; have := hwd.out; omega)
      have hWs : W.heap.size = wr.heap.size := by rw [hW, Lib.iterAt_size]
      clear hW hc hI
      have hcs : k = true ∨ (k = false ∧ q = true ∧ c = 92) ∨ (k = false ∧ q = true ∧ c = 34) ∨ (k = false ∧ q = false ∧ c = 34) ∨ (k = false ∧ q = true ∧ c ≠ 92 ∧ c ≠ 34)
          ∨ (k = false ∧ q = false ∧ (c = 40 ∨ c = 91 ∨ c = 60)) ∨ (k = false ∧ q = false ∧ (c = 41 ∨ c = 93 ∨ c = 62)) ∨ (k = false ∧ q = false ∧ c = 44 ∧ d = 0) ∨ (k = false ∧ q = false ∧ c = 44 ∧ d ≠ 0)
          ∨ (k = false ∧ q = false ∧ c ≠ 34 ∧ c ≠ 40 ∧ c ≠ 91 ∧ c ≠ 60 ∧ c ≠ 41 ∧ c ≠ 93 ∧ c ≠ 62 ∧ c ≠ 44) := by
        cases k <;> cases q <;> simp <;> omega
      rcases hcs with rfl | ⟨rfl, rfl, rfl⟩ | ⟨rfl, rfl, rfl⟩ | ⟨rfl, rfl, rfl⟩ | ⟨rfl, rfl, h92, h34⟩ | ⟨rfl, rfl, rfl | rfl | rfl⟩ | ⟨rfl, rfl, rfl | rfl | rfl⟩ | ⟨rfl, rfl, rfl, rfl⟩ | ⟨rfl, rfl, rfl, hd0⟩ | ⟨rfl, rfl, h34, h40, h91, h60, h41, h93, h62, h44⟩
      · go_wp2_with fail
        go_roundw
        · exact ⟨_, n, f, d, q, false, acc, sa, sc, rfl, by go_num, by first | rfl | (simp; done), rfl, rfl, by rw [HW.out]; exact HI.out.next hp (by simp [pcs, hp, ← HC.out]) (by omega) (by omega)⟩
        · rw [HW.out, iterPos_of (Lib.iterAt_heap _ _ _ _ _ HI.out.it)]; exact hmes.out
      · go_wp2_with fail
        go_roundw
        · exact ⟨_, n, f, d, true, true, acc, sa, sc, rfl, by go_num, by first | rfl | (simp; done), rfl, rfl, by rw [HW.out]; exact HI.out.next hp (by simp [pcs, hp, ← HC.out]) (by omega) (by omega)⟩
        · rw [HW.out, iterPos_of (Lib.iterAt_heap _ _ _ _ _ HI.out.it)]; exact hmes.out
      · go_wp2_with fail
        go_roundw
        · exact ⟨_, n, f, d, false, false, acc, sa, sc, rfl, by go_num, by first | rfl | (simp; done), rfl, rfl, by rw [HW.out]; exact HI.out.next hp (by simp [pcs, hp, ← HC.out]) (by omega) (by omega)⟩
        · rw [HW.out, iterPos_of (Lib.iterAt_heap _ _ _ _ _ HI.out.it)]; exact hmes.out
      · go_wp2_with fail
        go_roundw
        · exact ⟨_, n, f, d, true, false, acc, sa, sc, rfl, by go_num, by first | rfl | (simp; done), rfl, rfl, by rw [HW.out]; exact HI.out.next hp (by simp [pcs, hp, ← HC.out]) (by omega) (by omega)⟩
        · rw [HW.out, iterPos_of (Lib.iterAt_heap _ _ _ _ _ HI.out.it)]; exact hmes.out
      · have i92 : ¬ ((c : Int) = 92) := by omega
        have i34 : ¬ ((c : Int) = 34) := by omega
        go_wp2_with fail
        go_roundw
        · exact ⟨_, n, f, d, true, false, acc, sa, sc, rfl, by go_num, by first | rfl | (simp; done), rfl, rfl, by rw [HW.out]; exact HI.out.next hp (by simp [pcs, hp, ← HC.out, h92, h34]) (by omega) (by omega)⟩
        · rw [HW.out, iterPos_of (Lib.iterAt_heap _ _ _ _ _ HI.out.it)]; exact hmes.out
      · go_wp2_with fail
        go_roundw
        · exact ⟨_, n, f, d + 1, false, false, acc, sa, sc, rfl, by go_num, by first | rfl | (simp; done), rfl, rfl, by rw [HW.out]; exact HI.out.next hp (by simp [pcs, hp, ← HC.out]) (by omega) (by omega)⟩
        · rw [HW.out, iterPos_of (Lib.iterAt_heap _ _ _ _ _ HI.out.it)]; exact hmes.out
      · go_wp2_with fail
        go_roundw
        · exact ⟨_, n, f, d + 1, false, false, acc, sa, sc, rfl, by go_num, by first | rfl | (simp; done), rfl, rfl, by rw [HW.out]; exact HI.out.next hp (by simp [pcs, hp, ← HC.out]) (by omega) (by omega)⟩
        · rw [HW.out, iterPos_of (Lib.iterAt_heap _ _ _ _ _ HI.out.it)]; exact hmes.out
      · go_wp2_with fail
        go_roundw
        · exact ⟨_, n, f, d + 1, false, false, acc, sa, sc, rfl, by go_num, by first | rfl | (simp; done), rfl, rfl, by rw [HW.out]; exact HI.out.next hp (by simp [pcs, hp, ← HC.out]) (by omega) (by omega)⟩
        · rw [HW.out, iterPos_of (Lib.iterAt_heap _ _ _ _ _ HI.out.it)]; exact hmes.out
      · go_wp2_with fail
        go_roundw
        · exact ⟨_, n, f, d - 1, false, false, acc, sa, sc, rfl, by go_num, by first | rfl | (simp; done), rfl, rfl, by rw [HW.out]; exact HI.out.next hp (by simp [pcs, hp, ← HC.out]) (by omega) (by omega)⟩
        · rw [HW.out, iterPos_of (Lib.iterAt_heap _ _ _ _ _ HI.out.it)]; exact hmes.out
      · go_wp2_with fail
        go_roundw
        · exact ⟨_, n, f, d - 1, false, false, acc, sa, sc, rfl, by go_num, by first | rfl | (simp; done), rfl, rfl, by rw [HW.out]; exact HI.out.next hp (by simp [pcs, hp, ← HC.out]) (by omega) (by omega)⟩
        · rw [HW.out, iterPos_of (Lib.iterAt_heap _ _ _ _ _ HI.out.it)]; exact hmes.out
      · go_wp2_with fail
        go_roundw
        · exact ⟨_, n, f, d - 1, false, false, acc, sa, sc, rfl, by go_num, by first | rfl | (simp; done), rfl, rfl, by rw [HW.out]; exact HI.out.next hp (by simp [pcs, hp, ← HC.out]) (by omega) (by omega)⟩
        · rw [HW.out, iterPos_of (Lib.iterAt_heap _ _ _ _ _ HI.out.it)]; exact hmes.out
      · have hIw : PcI s w W (pos + (Utf8.decode s pos).2) n f 0 false false acc (.slice sa acc.length sc) ∨ True := .inr trivial
        have HOW : Hid (W.ownsRow (w.heap.size + 1) 9 1 (.slice sa acc.length sc) acc.length (acc.map .string)) := Lib.hid (by rw [HW.out]; exact ownsRow_iterAt HI.out.own (by omega) s _)
        have HIT : Hid (W.heap[w.heap.size]? = some (.stringIter s (pos + (Utf8.decode s pos).2))) := Lib.hid (by rw [HW.out]; exact Lib.iterAt_heap _ _ _ _ _ HI.out.it)
        have HBW : Hid (Below w.heap.size w W) := Lib.hid (by rw [HW.out]; exact Lib.below_iterAt HI.out.bel (Nat.le_refl _) s _)
        have hzit : w.heap.size < W.heap.size := blkLt HIT.out
        have hfp : (f : Int) ≤ (pos : Int) := by omega
        have hf0 : (0 : Int) ≤ (f : Int) := by omega
        have hps : (pos : Int) ≤ (s.size : Int) := by omega
        obtain ⟨na, hna⟩ : ∃ na, na = acc.length := ⟨_, rfl⟩
        rw [← hna] at HOW hal ⊢
        have HNA := Lib.hid hna
        clear hna hIw
        go_wp2_with (at_builtin; go_loud (refine wpList_append_own _ rfl _ _ 25 rfl (w.heap.size + 1) 9 i0 (.string ⟨#[]⟩) 1 16 Tryz.underlying25 hin hz0 hz1 hz2 rfl (by decide) (.slice sa na sc) na (acc.map .string) (by simp [Act.eval]) (HOW.out.alloc _) ⟨W.heap.size, 0, none⟩ 1 1 [.string (s.extract f pos)] (by simp [Act.eval]) rfl ?c1 ?c2 ?c3 ?c4 ?c5 ?_))
        case c1 =>
          intro t u hj
          match t, hj with
          | 0, hj => simp at hj; subst hj; simp [Addr.add]
        case c2 => intro u hu; simp at hu; subst hu; rfl
        case c3 => unfold maxLen; omega
        case c4 => omega
        case c5 => simp; omega
        intro v' w3 hown' hgrow _
        obtain ⟨sa', sc', rfl⟩ := own_slice hown'
        have HI3 : Hid (PcI s w w3 (pos + (Utf8.decode s pos).2) n (pos + 1) 0 false false (acc ++ [s.extract f pos]) (.slice sa' (acc ++ [s.extract f pos]).length sc')) := Lib.hid (by
          have hwd := hwd.out
          have hlt := HOW.out.lt
          have hgb := hgrow.block w.heap.size (by simp; omega) (fun e => by have := (hlt _ e.symm).1; omega)
          refine ⟨?_, ?_, ?_, ?_, by have := HI.out.fuel; omega, by omega, by omega, by omega, by omega, by have := HNA.out; simp; omega⟩
          · rw [List.length_append, List.map_append, ← HNA.out]; exact hown'
          · rw [hgb]; exact heap_alloc_old HIT.out _
          · exact (belowA HBW.out _).grown hgrow (by simp; omega) (fun k hk => by have := (hlt k hk).1; omega)
          · rw [← HI.out.eq]; simp [pcs, hp, ← HC.out])
        clear hown' hgrow
        go_wp2_with fail
        go_roundw
        · exact ⟨_, n, pos + 1, 0, false, false, acc ++ [s.extract f pos], sa', sc', by rw [List.length_append, ← HNA.out]; rfl, rfl, rfl, by go_num, rfl, HI3.out⟩
        · rw [iterPos_of HI3.out.it]; exact hmes.out
      · have i0 : ¬ (d = 0) := hd0
        go_wp2_with fail
        go_roundw
        · exact ⟨_, n, f, d, false, false, acc, sa, sc, rfl, by go_num, by first | rfl | (simp; done), rfl, rfl, by rw [HW.out]; exact HI.out.next hp (by simp [pcs, hp, ← HC.out, hd0]) (by omega) (by omega)⟩
        · rw [HW.out, iterPos_of (Lib.iterAt_heap _ _ _ _ _ HI.out.it)]; exact hmes.out
      · have i34 : ¬ ((c : Int) = 34) := by omega
        have i40 : ¬ ((c : Int) = 40) := by omega
        have i91 : ¬ ((c : Int) = 91) := by omega
        have i60 : ¬ ((c : Int) = 60) := by omega
        have i41 : ¬ ((c : Int) = 41) := by omega
        have i93 : ¬ ((c : Int) = 93) := by omega
        have i62 : ¬ ((c : Int) = 62) := by omega
        have i44 : ¬ ((c : Int) = 44) := by omega
        go_wp2_with fail
        all_goals try (exfalso; simp only [beq_iff_eq] at *; omega)
        go_roundw
        · exact ⟨_, n, f, d, false, false, acc, sa, sc, rfl, by go_num, by first | rfl | (simp; done), rfl, rfl, by rw [HW.out]; exact HI.out.next hp (by simp [pcs, hp, ← HC.out, h34, h40, h91, h60, h41, h93, h62, h44]) (by omega) (by omega)⟩
        · rw [HW.out, iterPos_of (Lib.iterAt_heap _ _ _ _ _ HI.out.it)]; exact hmes.out
    · have hnx : ∀ ty, (Instr.next (.pointer (some ⟨w.heap.size, 0, none⟩)) true ty).run Tryz.prog wr = .ok (.tuple #[.bool false]) wr := fun ty => Lib.run_next_end_at wr w.heap.size s pos ty hI.it hp
      have hfs : (f : Int) ≤ (s.size : Int) := by omega
      have hf0 : (0 : Int) ≤ (f : Int) := by omega
      have HOW := Lib.hid hI.own
      have hzit : w.heap.size < wr.heap.size := blkLt hI.it
      have heq : Hid (piecesB s = acc ++ [s.extract f s.size]) := Lib.hid (by rw [← hI.eq, pcs_end _ _ _ _ _ _ _ hp])
      obtain ⟨na, hna⟩ : ∃ na, na = acc.length := ⟨_, rfl⟩
      rw [← hna] at HOW hal ⊢
      have HNA := Lib.hid hna
      have hnas : na ≤ 1099511627776 := by
        omega
      clear hna hI
      go_wp2_with (at_builtin; refine wpList_append_own _ rfl _ _ 25 rfl (w.heap.size + 1) 9 i0 (.string ⟨#[]⟩) 1 16 Tryz.underlying25 hin hz0 hz1 hz2 rfl (by decide) (.slice sa na sc) na (acc.map .string) (by simp [Act.eval]) (HOW.out.alloc _) ⟨wr.heap.size, 0, none⟩ 1 1 [.string (s.extract f s.size)] (by simp [Act.eval]) rfl ?c1 ?c2 ?c3 ?c4 ?c5 ?_)
      case c1 =>
        intro t u hj
        match t, hj with
        | 0, hj => simp at hj; subst hj; simp [Addr.add]
      case c2 => intro u hu; simp at hu; subst hu; rfl
      case c3 => unfold maxLen; omega
      case c4 => omega
      case c5 => simp; omega
      intro v' w3 hown' hgrow _
      obtain ⟨sa', sc', rfl⟩ := own_slice hown'
      go_wp2_with fail
      go_ret
      have hlt := HOW.out.lt
      have hln : (piecesB s).length = na + 1 := by rw [heq.out, List.length_append, ← HNA.out]; rfl
      refine ⟨sa', sc', by rw [hln]; rfl, ?_, (belowA HI.out.bel _).grown hgrow (by simp; omega) (fun k hk => by have := (hlt k hk).1; omega)⟩
      rw [hln, heq.out, List.map_append]
      exact ⟨hown'.1, hown'.2.imp id fun ⟨g, cap, cur, a1, a2, r⟩ => ⟨g, cap, cur, a1, by omega, r⟩⟩
end Go.Proofs.YtmepjbjmjbpchaaGreatDoor
end
section
/- attrs.text. -/
namespace Go.Proofs.YtmepjbjmjbpchaaGreatDoor
open Go Go.RowKit
set_option linter.unusedVariables false
set_option linter.unusedSimpArgs false
attribute [local go_sem ↓] Go.wp_at_zero Go.wp_at_succ

section
variable (nm : ByteArray) (k n : Int) (tx : ByteArray) (ia : Option Addr) (il ic : Nat) (ta : Option Addr) (tl tc : Nat) (w : World)
set_option maxRecDepth 100000 in
set_option maxHeartbeats 4000000 in
theorem textA_row (f g t : Nat) (r : ByteArray) (h : kindRow k = some (f, g, t)) (hint : ∀ args w, (callFunc t args).run Tryz.prog w = .ok (.enter t args) w)
    (ht : ∀ W, Below w.heap.size w W → Calls Tryz.prog t #[av nm k n tx ia il ic ta tl tc] W fun e w' => e = .returned (.string r) ∧ Below W.heap.size W w') :
    Calls Tryz.prog 45 #[av nm k n tx ia il ic ta tl tc] w fun e w' => e = .returned (.string r) ∧ Below w.heap.size w w' := by
  have hl : ∀ (W : World) (m : Nat), W.heap[m]? = some (kindO 6) → (Instr.lookup 118 (.map (some m)) (.int .i64 k) false).run Tryz.prog W = .ok (.agg #[.func (.func f) #[] #[], .func (.func g) #[] #[], .func (.func t) #[] #[]]) W := fun W m hm => look_yes hm h false
  have hfd : ∀ W : World, (Instr.field 116 (.agg #[.func (.func f) #[] #[], .func (.func g) #[] #[], .func (.func t) #[] #[]]) 2).run Tryz.prog W = .ok (.func (.func t) #[] #[]) W := fun _ => by kernel_rfl
  have HL := Lib.hid hl
  have HT := Lib.hid ht
  clear hl h ht
  go_enter Tryz.func45, Tryz.ntmps45
  go_wp2_with fail
  go_region_held3 (fun w' => w'.cell? ⟨w.heap.size, 0, none⟩ = some (.string nm) ∧ w'.cell? ⟨w.heap.size, 1, none⟩ = some (.int .i64 k) ∧ w'.cell? ⟨w.heap.size, 2, none⟩ = some (.int .i64 n) ∧ w'.cell? ⟨w.heap.size, 3, none⟩ = some (.string tx) ∧ w'.cell? ⟨w.heap.size, 4, none⟩ = some (.slice ia il ic) ∧ w'.cell? ⟨w.heap.size, 5, none⟩ = some (.slice ta tl tc)) (go_keep)
    (first
      | (go_at_call 75; refine (kinds_m _).mono ?_; rintro e w1 ⟨m, rfl, hm, hb1⟩; have hl1 := HL.out w1 m hm; have c0 := rdCell hb1 w.heap.size (by first | (simp; done) | (simp; omega)); have hz1 : w.heap.size < w1.heap.size := (by have := Below.size hb1; simp at this; omega))
      | ((with_reducible refine Calls.mono (HT.out _ ?_) ?_); (focus ((repeat (first | (with_reducible refine below_set ?_ (by first | exact Nat.le_refl _ | omega) _ _) | with_reducible exact Below.refl _ _ | with_reducible refine belowA ?_ _ | with_reducible refine below_own' ?_ hb1 | with_reducible refine belowD ?_ | with_reducible refine belowN ?_ _)); done)); rintro e w2 ⟨rfl, hb2⟩; have c2 := rdCell hb2 w.heap.size (by omega)))
  all_goals go_wp2_with fail
  all_goals go_ret
  all_goals refine ⟨rfl, ?_⟩
  all_goals ((repeat (first | (with_reducible refine below_set ?_ (by first | exact Nat.le_refl _ | omega) _ _) | with_reducible exact Below.refl _ _ | with_reducible refine belowA ?_ _ | with_reducible refine below_own' ?_ hb2 | with_reducible refine below_own' ?_ hb1 | with_reducible refine belowD ?_ | with_reducible refine belowN ?_ _)))
end
theorem av_kind_row {a : Atr} (h : rightA a = true) : 0 ≤ a.kind ∧ a.kind ≤ 5 := by
  unfold rightA at h
  simp only [Bool.and_eq_true, decide_eq_true_eq] at h
  exact h.1.1.1
theorem textA_any (a : Atr) (w : World) (hl : a.Lies w) (hf : a.Fits) (hr : rightA a = true) (hp : Pow w) :
    Calls Tryz.prog 45 #[a.val] w fun e w' => e = .returned (.string ⟨(valD a.dat).toArray⟩) ∧ Below w.heap.size w w' := by
  obtain ⟨k0, k5⟩ := av_kind_row hr
  have h6 : a.kind = 0 ∨ a.kind = 1 ∨ a.kind = 2 ∨ a.kind = 3 ∨ a.kind = 4 ∨ a.kind = 5 := by omega
  have hq : ∀ s ∈ a.texts, s.size ≤ 140737488355328 := fun s hs => by have := hf.texts s hs; omega
  have hn : a.texts.length ≤ 9223372036854775807 := by have := hf.tl; omega
  have hown : ownB a = true := by unfold rightA at hr; simp only [Bool.and_eq_true] at hr; exact hr.1.2
  have go : ∀ (f g t : Nat) (r : ByteArray), kindRow a.kind = some (f, g, t) → (∀ args w, (callFunc t args).run Tryz.prog w = .ok (.enter t args) w) →
      (∀ W, Below w.heap.size w W → Calls Tryz.prog t #[a.val] W fun e w' => e = .returned (.string r) ∧ Below W.heap.size W w') → r = ⟨(valD a.dat).toArray⟩ →
      Calls Tryz.prog 45 #[a.val] w fun e w' => e = .returned (.string ⟨(valD a.dat).toArray⟩) ∧ Below w.heap.size w w' := by
    intro f g t r h1 h2 h3 h4
    rw [← h4]
    exact textA_row a.name a.kind a.num a.text a.ia a.ints.length a.ic a.ta a.texts.length a.tc w f g t r h1 h2 h3
  rcases h6 with h | h | h | h | h | h
  · refine go _ _ _ _ (by rw [h]; rfl) (fun args w => callFunc_enters Tryz.func102 (by kernel_rfl) rfl args w) (fun W hb => vnumber_any _ _ _ _ _ _ _ _ _ _ W hf.num.1 hf.num.2 (pow_below hp hb)) ?_
    simp [valD, Atr.dat, h, itoaB]
  · refine go _ _ _ _ (by rw [h]; rfl) (fun args w => callFunc_enters Tryz.func105 (by kernel_rfl) rfl args w) (fun W hb => quoted_any _ _ _ _ _ _ _ _ _ _ W (by simpa [ownB, h] using hown)) ?_
    simp [valD, Atr.dat, h]
  · refine go _ _ _ _ (by rw [h]; rfl) (fun args w => callFunc_enters Tryz.func107 (by kernel_rfl) rfl args w) (fun W hb => symbol_any _ _ _ _ _ _ _ _ _ _ W hf.text) ?_
    apply ByteArray.ext; apply Array.ext'
    simp [valD, Atr.dat, h]
  · refine go _ _ _ _ (by rw [h]; rfl) (fun args w => callFunc_enters Tryz.func109 (by kernel_rfl) rfl args w) (fun W hb => same_any _ _ _ _ _ _ _ _ _ _ W) ?_
    simp [valD, Atr.dat, h]
  · refine go _ _ _ _ (by rw [h]; rfl) (fun args w => callFunc_enters Tryz.func112 (by kernel_rfl) rfl args w) (fun W hb => ints_any _ _ _ _ _ _ _ _ _ W a.ints (hl.ints.below hb) (by simp [ownB, h] at hown; exact hown.1) hf.ints (pow_below hp hb)) ?_
    simp [valD, Atr.dat, h]
  · refine go _ _ _ _ (by rw [h]; rfl) (fun args w => callFunc_enters Tryz.func114 (by kernel_rfl) rfl args w) (fun W hb => types_any _ _ _ _ _ _ _ _ _ W a.texts (hl.texts.below hb) hn hf.textsC hq) ?_
    simp [valD, Atr.dat, h]
theorem joinOf_len (ls : List ByteArray) : (joinOf ls).1.length ≤ 10002 := by
  unfold joinOf
  split
  · simp
  · split
    · simp
    · rename_i h1 h2
      have := join_le (by simpa using h1) (by omega)
      simp at this ⊢; omega
/-- The strings of values are short. -/
theorem valD_len {a : Atr} (hr : rightA a = true) (hf : a.Fits) : (valD a.dat).length ≤ 10002 := by
  obtain ⟨k0, k5⟩ := av_kind_row hr
  have hown : ownB a = true := by unfold rightA at hr; simp only [Bool.and_eq_true] at hr; exact hr.1.2
  have h6 : a.kind = 0 ∨ a.kind = 1 ∨ a.kind = 2 ∨ a.kind = 3 ∨ a.kind = 4 ∨ a.kind = 5 := by omega
  rcases h6 with h | h | h | h | h | h
  · have := itoaB_size a.num hf.num.1 hf.num.2
    simp [valD, Atr.dat, h]; simp [itoaB, ByteArray.size] at this; omega
  · have h1 : a.text.size ≤ 1000 := by simpa [ownB, h] using hown
    have := quoteL_len a.text.data.toList
    simp [valD, Atr.dat, h] at this ⊢; omega
  · have h1 : nameOf a.text.data.toList = true := by simpa [ownB, h] using hown
    have h2 : a.text.data.toList.length ≤ 60 := Nat.le_of_not_lt fun h3 => by rw [nameOf_long h3] at h1; cases h1
    simp [valD, Atr.dat, h] at h2 ⊢; omega
  · have h1 : isTyB a.text = true := by simpa [ownB, h] using hown
    have h2 := goodTy_len (s := a.text) (by rw [badTy_eq, h1]; rfl)
    simp [valD, Atr.dat, h] at h2 ⊢; omega
  · have h1 : a.ints.length ≤ 100 := by simp [ownB, h] at hown; exact hown.1
    have := join_len 21 ((a.ints.map itoaB).map (·.data.toList)) (fun x hx => by
      simp only [List.mem_map] at hx
      obtain ⟨y, ⟨z, hzm, rfl⟩, rfl⟩ := hx
      simpa using itoaB_size z (hf.ints z hzm).1 (hf.ints z hzm).2)
    simp [valD, Atr.dat, h] at this ⊢; omega
  · have := joinOf_len a.texts
    simp [valD, Atr.dat, h]; omega
end Go.Proofs.YtmepjbjmjbpchaaGreatDoor
end
