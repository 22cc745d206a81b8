/- Texts of this claim, laid together: Ax0, Bld, BldB, TyD, Ar3, Ar4, Ar5. -/
import Derived.Test.YtmepjbjmjbpchaaGreatDoorShelf
import Derived.Shelf.Strings.Builder1
import Derived.Lib.AppendIntMem
import Derived.Test.YtmepjbjmjbpchaaGreatDoorMg4
import Derived.Test.YtmepjbjmjbpchaaGreatDoorMg5
import Derived.Test.YtmepjbjmjbpchaaGreatDoorMg10
section
/- Strings between quotation marks: plain law. -/
namespace Go.Proofs.YtmepjbjmjbpchaaGreatDoor
open Go Go.RowKit

/-- The digit of a number below 16. -/
def hexOf (n : Nat) : UInt8 := if n < 10 then UInt8.ofNat (48 + n) else UInt8.ofNat (87 + n)
def escOf (c : UInt8) : List UInt8 :=
  if c = 34 then [92, 34] else if c = 92 then [92, 92] else if c = 10 then [92, 110] else
  if c.toNat < 32 ∨ 126 < c.toNat then [92, 120, hexOf (c.toNat / 16), hexOf (c.toNat % 16)] else [c]
def escL : List UInt8 → List UInt8
  | [] => []
  | c :: r => escOf c ++ escL r
theorem escL_append (l m : List UInt8) : escL (l ++ m) = escL l ++ escL m := by
  induction l with
  | nil => rfl
  | cons c r ih => simp [escL, ih]
theorem escL_snoc {l : List UInt8} {i : Nat} (h : i < l.length) : escL (l.take (i + 1)) = escL (l.take i) ++ escOf l[i] := by
  rw [List.take_add_one, List.getElem?_eq_getElem h, Option.toList_some, escL_append]; simp [escL]
theorem escOf_len (c : UInt8) : (escOf c).length ≤ 4 := by
  unfold escOf; repeat (first | (split) | simp)
theorem escL_len (l : List UInt8) : (escL l).length ≤ 4 * l.length := by
  induction l with
  | nil => simp [escL]
  | cons c r ih => have := escOf_len c; simp [escL]; omega
def quoteL (l : List UInt8) : List UInt8 := 34 :: (escL l ++ [34])
theorem quoteL_len (l : List UInt8) : (quoteL l).length ≤ 4 * l.length + 2 := by
  have := escL_len l
  simp [quoteL]; omega
end Go.Proofs.YtmepjbjmjbpchaaGreatDoor
end
section
/- The writing methods of strings.Builder at this program (turned from the library's own proofs). -/
namespace Go.Proofs.YtmepjbjmjbpchaaGreatDoor
open Go Go.RowKit
set_option linter.unusedVariables false
set_option linter.unusedSimpArgs false

theorem bldExtra : (Tryz.prog.info? 136).map (·.size) = some 2 ∧ liesAt Tryz.prog Tryz.prog.depth 136 (2 / Tryz.prog.cellsOf 136) 0 136 1 = true ∧ (Tryz.prog.info? 5).map (fun i => (i.zero, i.size, i.bytes)) = some (some (.int .u8 0), 1, 1) :=
  ⟨by kernel_rfl, by kernel_rfl, by kernel_rfl⟩

set_option maxHeartbeats 1000000 in
set_option maxRecDepth 100000 in
theorem bld_check_used (b : Nat) (w : World) (h0 : w.cell? ⟨b, 0, none⟩ = some (.pointer (some ⟨b, 0, none⟩))) :
    Calls Tryz.prog 125 #[.pointer (some ⟨b, 0, none⟩)] w fun e w' => e = .returned (.tuple #[]) ∧ w' = w := by
  obtain ⟨j, hj, _⟩ := Option.map_eq_some_iff.1 bldExtra.1
  go_enter Tryz.func125, Tryz.ntmps125
  go_wp2
  rw [Lib.run_neq_ptr_same w _ Tryz.underlying134 hj]
  go_wp2
  go_end0
  exact ⟨rfl, rfl⟩

set_option maxHeartbeats 1000000 in
set_option maxRecDepth 100000 in
theorem bld_check_fresh (b : Nat) (w : World) (h0 : w.cell? ⟨b, 0, none⟩ = some (.pointer none)) (hsh : w.shape? b = some (136, 2)) (hfz : w.frozen? ⟨b, 0, none⟩ = false) :
    Calls Tryz.prog 125 #[.pointer (some ⟨b, 0, none⟩)] w fun e w' => e = .returned (.tuple #[]) ∧ w' = w.setCell ⟨b, 0, none⟩ (.pointer (some ⟨b, 0, none⟩)) := by
  obtain ⟨j, hj, hjs⟩ := Option.map_eq_some_iff.1 bldExtra.1
  go_enter Tryz.func125, Tryz.ntmps125
  go_wp2
  rw [Lib.run_to_unsafe w ⟨b, 0, none⟩ Tryz.underlying134 Tryz.underlying172 hj (by rw [hjs]; decide) hsh (Nat.zero_lt_succ 1)]
  simp only [Result.andThen]
  rw [Oper.upon_value]
  go_wp2
  rw [run_callFunc_extern Tryz.func149 (by kernel_rfl) (by kernel_rfl) (by kernel_rfl) (e := Extern.AbiNoEscape.same) (by kernel_rfl)]
  rw [Lib.run_noEscape]
  simp only [Result.andThen]
  rw [Oper.upon_value]
  go_wp2
  rw [Lib.run_from_unsafe w ⟨b, 0, none⟩ Tryz.underlying172 Tryz.underlying134 hj hsh bldExtra.2.1]
  simp only [Result.andThen]
  rw [Oper.upon_value]
  go_wp2
  go_end0
  exact ⟨rfl, rfl⟩

abbrev IsB (B b : Nat) (bs : List Value) (w : World) : Prop := Lib.IsBuilder 136 5 B b bs w
theorem bld_check (B b : Nat) (bs : List Value) (w : World) (h : IsB B b bs w) :
    Calls Tryz.prog 125 #[.pointer (some ⟨b, 0, none⟩)] w fun e w' => e = .returned (.tuple #[]) ∧ (Lib.BuilderAt 136 5 B b (.pointer (some ⟨b, 0, none⟩)) bs w' ∧ Below B w w') := by
  rcases h with h | h
  · refine (bld_check_fresh b w h.cell0 h.shape h.frozen0).mono ?_
    rintro e w' ⟨rfl, rfl⟩
    exact ⟨rfl, h.used _, (Below.refl B w).setCell (p := ⟨b, 0, none⟩) h.1 _⟩
  · refine (bld_check_used b w h.cell0).mono ?_
    rintro e w' ⟨rfl, rfl⟩
    exact ⟨rfl, h, Below.refl B _⟩

set_option maxHeartbeats 2000000 in
set_option maxRecDepth 100000 in
theorem bld_write (B b : Nat) (bs : List Value) (s : ByteArray) (w : World) (h : IsB B b bs w) (hlen : bs.length + s.size ≤ 140737488355328) (hBw : B ≤ w.heap.size) :
    Calls Tryz.prog 118 #[.pointer (some ⟨b, 0, none⟩), .string s] w fun e w' => e = .returned (.tuple #[.int .i64 s.size, .nilIface]) ∧ (IsB B b (bs ++ Lib.strCells s) w' ∧ Below B w w') := by
  obtain ⟨i0, hi, hz0, hz1, hz2⟩ := info_parts bldExtra.2.2
  go_enter Tryz.func118, Tryz.ntmps118
  go_wp2_with (go_at_call 125; refine (bld_check B b bs _ h).mono ?_)
  rintro e w1 ⟨rfl, h1, hb1⟩
  obtain ⟨hB, v, hbk, hown, hne⟩ := h1
  have c0 : w1.cell? ⟨b, 0, none⟩ = some (.pointer (some ⟨b, 0, none⟩)) := by rw [Lib.cell_of_heap hbk]; rfl
  have c1 : w1.cell? ⟨b, 1, none⟩ = some v := by rw [Lib.cell_of_heap hbk]; rfl
  go_wp2_with (at_builtin; refine Lib.wpList_append_own_string _ rfl _ _ 60 9 rfl B 5 i0 Tryz.underlying60 Tryz.underlying9 hi hz0 hz1 hz2 _ _ _ rfl hown s rfl ?c3 ?c4 ?c5 ?_)
  case c3 => unfold maxLen; omega
  case c4 => omega
  case c5 => have := hb1.size; omega
  intro v' w2 hown' hgrow _
  have hlt : b < w1.heap.size := by
    rcases Nat.lt_or_ge b w1.heap.size with h' | h'
    · exact h'
    · simp [Array.getElem?_eq_none h'] at hbk
  have hb2 : w2.heap[b]? = some (.cells #[.pointer (some ⟨b, 0, none⟩), v] 136 (0, 0)) := by
    rw [hgrow.block b hlt (fun e => hne e.symm)]
    exact hbk
  have d0 : w2.cell? ⟨b, 0, none⟩ = some (.pointer (some ⟨b, 0, none⟩)) := by rw [Lib.cell_of_heap hb2]; rfl
  have d1 : w2.cell? ⟨b, 1, none⟩ = some v := by rw [Lib.cell_of_heap hb2]; rfl
  have f1 : w2.frozen? ⟨b, 1, none⟩ = false := Lib.frozen_of_heap hb2 1
  obtain ⟨ao, n', cap, rfl⟩ : ∃ ao n' cap, v' = .slice ao n' cap := by
    rcases hown'.2 with ⟨hv, _⟩ | ⟨g, cap, cur, hv, _⟩
    · exact ⟨_, _, _, hv⟩
    · exact ⟨_, _, _, hv⟩
  go_wp2
  go_ret2
  refine ⟨rfl, .inr ?_, ?_⟩
  · exact Lib.BuilderAt.put (T := 136) (e := 5) hB hb2 (bs' := bs ++ Lib.strCells s) (by simpa [Lib.strCells_length] using hown') (by decide)
  · exact (hb1.grown hgrow (by have := hb1.size; omega) (fun k hk => (hown.lt k hk).1)).setCell (p := ⟨b, 1, none⟩) hB _
end Go.Proofs.YtmepjbjmjbpchaaGreatDoor
end
section
/- WriteByte of strings.Builder at this program (turned from the library's own proof). -/
namespace Go.Proofs.YtmepjbjmjbpchaaGreatDoor
open Go Go.RowKit
set_option linter.unusedVariables false
set_option linter.unusedSimpArgs false

set_option maxHeartbeats 2000000 in
set_option maxRecDepth 100000 in
theorem bld_byte (B b : Nat) (bs : List Value) (c : Int) (w : World) (h : IsB B b bs w) (hlen : bs.length + 1 ≤ 140737488355328) (hBw : B ≤ w.heap.size) :
    Calls Tryz.prog 92 #[.pointer (some ⟨b, 0, none⟩), .int .u8 c] w fun e w' => e = .returned .nilIface ∧ (IsB B b (bs ++ [.int .u8 c]) w' ∧ Below B w w') := by
  obtain ⟨i0, hi, hz0, hz1, hz2⟩ := info_parts bldExtra.2.2
  go_enter Tryz.func92, Tryz.ntmps92
  go_wp2_with (go_at_call 125; refine (bld_check B b bs _ h).mono ?_)
  rintro e w1 ⟨rfl, h1, hb1⟩
  obtain ⟨hB, v, hbk, hown, hne⟩ := h1
  have c0 : w1.cell? ⟨b, 0, none⟩ = some (.pointer (some ⟨b, 0, none⟩)) := by rw [Lib.cell_of_heap hbk]; rfl
  have c1 : w1.cell? ⟨b, 1, none⟩ = some v := by rw [Lib.cell_of_heap hbk]; rfl
  go_wp2_with (at_builtin; refine wpList_append_own _ rfl _ _ 60 rfl B 5 i0 (.int .u8 0) 1 1 Tryz.underlying60 hi hz0 hz1 hz2 rfl (by decide) _ _ _ rfl (hown.alloc _) ⟨w1.heap.size, 0, none⟩ 1 1 [.int .u8 c] rfl rfl ?c1 ?c2 ?c3 ?c4 ?c5 ?_)
  case c1 =>
    intro j u hj
    match j, hj with
    | 0, hj => simp at hj; subst hj; simp [Addr.add]
  case c2 => intro u hu; simp at hu; subst hu; rfl
  case c3 => unfold maxLen; omega
  case c4 => omega
  case c5 => have := hb1.size; simp; omega
  intro v' w2 hown' hgrow _
  have hlt : b < w1.heap.size := by
    rcases Nat.lt_or_ge b w1.heap.size with h' | h'
    · exact h'
    · simp [Array.getElem?_eq_none h'] at hbk
  have hb2 : w2.heap[b]? = some (.cells #[.pointer (some ⟨b, 0, none⟩), v] 136 (0, 0)) := by
    rw [hgrow.block b (by simp; omega) (fun e => hne e.symm), Lib.alloc_old w1 _ b hlt]
    exact hbk
  have d0 : w2.cell? ⟨b, 0, none⟩ = some (.pointer (some ⟨b, 0, none⟩)) := by rw [Lib.cell_of_heap hb2]; rfl
  have d1 : w2.cell? ⟨b, 1, none⟩ = some v := by rw [Lib.cell_of_heap hb2]; rfl
  have f1 : w2.frozen? ⟨b, 1, none⟩ = false := Lib.frozen_of_heap hb2 1
  obtain ⟨g, cap, rfl⟩ : ∃ g cap, v' = .slice (some ⟨g, 0, none⟩) (bs.length + 1) cap := by
    rcases hown'.2 with ⟨_, h0⟩ | ⟨g, cap, cur, hv, _⟩
    · omega
    · exact ⟨g, cap, hv⟩
  go_wp2
  go_ret
  refine ⟨rfl, .inr ?_, ?_⟩
  · exact Lib.BuilderAt.put (T := 136) (e := 5) hB hb2 (bs' := bs ++ [.int .u8 c]) (by simpa using hown') (by decide)
  · exact ((hb1.alloc (by have := hb1.size; omega) _).grown hgrow (by have := hb1.size; simp; omega) (fun k hk => (hown.lt k hk).1)).setCell (p := ⟨b, 1, none⟩) hB _
end Go.Proofs.YtmepjbjmjbpchaaGreatDoor
end
section
/- types.text. -/
namespace Go.Proofs.YtmepjbjmjbpchaaGreatDoor
open Go Go.RowKit Go.Sort
set_option linter.unusedVariables false
set_option linter.unusedSimpArgs false

/-- strconv's table of powers of ten lies in the heap. -/
abbrev Pow (w : World) : Prop := Lib.TabIs Tryz.prog w "internal/strconv.uint64pow10" .u64 Lib.pow10Tab
theorem pow_below {w w' : World} (h : Pow w) (hb : Below w.heap.size w w') : Pow w' := Lib.tabBelow_of_tabIs h w' hb
theorem below_grow (w : World) (k : Nat) (os : Array Obj) : Below w.heap.size w (grow (w.drewN k) os) :=
  ⟨rfl, rfl, rfl, Lib.size_grow w k os, fun j hj => by
    show (w.heap ++ os)[j]? = _
    rw [Array.getElem?_append_left hj]⟩

theorem isB_below {B b : Nat} {bs : List Value} {W W' : World} (h : IsB B b bs W) (hb : Below W.heap.size W W') : IsB B b bs W' := by
  have key : ∀ p, Lib.BuilderAt 136 5 B b p bs W → Lib.BuilderAt 136 5 B b p bs W' := by
    rintro p ⟨hB, v, hbk, hown, hne⟩
    refine ⟨hB, v, blkBelow hbk hb, ⟨hown.1, ?_⟩, hne⟩
    rcases hown.2 with h1 | ⟨g, cap, cur, e1, e2, e3, e4⟩
    · exact .inl h1
    · exact .inr ⟨g, cap, cur, e1, e2, blkBelow e3 hb, e4⟩
  rcases h with h | h
  · exact .inl (key _ h)
  · exact .inr (key _ h)

theorem digs_le : ∀ (d n : Nat), n < 10 ^ (d + 1) → Lib.nDigits n ≤ d + 1
  | 0, n, h => by unfold Lib.nDigits; rw [dif_pos (by simpa using h)]; omega
  | d + 1, n, h => by
    unfold Lib.nDigits
    split
    · omega
    · have := digs_le d (n / 10) (by rw [Nat.div_lt_iff_lt_mul (by decide)]; rw [Nat.pow_succ] at h; exact h)
      omega
end Go.Proofs.YtmepjbjmjbpchaaGreatDoor
end
section
/- The reference: Place, Equal, EqualLists. -/
namespace Go.Proofs.YtmepjbjmjbpchaaGreatDoor
open Go Go.RowKit
set_option linter.unusedVariables false
set_option linter.unusedSimpArgs false

/-- Whether two attributes are the same. -/
def sameA (a b : Atr) : Bool := decide (a.name = b.name ∧ a.kind = b.kind ∧ a.num = b.num ∧ a.text = b.text ∧ a.ints = b.ints ∧ a.texts = b.texts)
set_option maxRecDepth 100000 in
set_option maxHeartbeats 8000000 in
theorem requal_head (a b : Atr) (w : World) (h : ¬ (a.name = b.name ∧ a.kind = b.kind ∧ a.num = b.num ∧ a.text = b.text ∧ a.ints.length = b.ints.length ∧ a.texts.length = b.texts.length)) :
    Calls Tryz.prog 24 #[a.val, b.val] w fun e w' => e = .returned (.bool false) ∧ Below w.heap.size w w' := by
  have h' : (a.name.toList != b.name.toList) = true ∨ ((a.name.toList != b.name.toList) = false ∧ ((a.kind != b.kind) = true ∨ ((a.kind != b.kind) = false ∧ ((a.num != b.num) = true ∨ ((a.num != b.num) = false ∧ ((a.text.toList != b.text.toList) = true ∨ ((a.text.toList != b.text.toList) = false ∧
      ((((a.ints.length : Nat) : Int) != ((b.ints.length : Nat) : Int)) = true ∨ ((((a.ints.length : Nat) : Int) != ((b.ints.length : Nat) : Int)) = false ∧ (((a.texts.length : Nat) : Int) != ((b.texts.length : Nat) : Int)) = true))))))))) := by
    simp only [bne_iff_ne, bne_eq_false_iff_eq, ne_eq, toList_inj, Int.natCast_inj] at *
    grind
  clear h
  obtain ⟨nm, k, n, tx, ia, il, ic, ta, tl, tc⟩ := a
  obtain ⟨nm2, k2, n2, tx2, ia2, il2, ic2, ta2, tl2, tc2⟩ := b
  simp only at h'
  rcases h' with h | ⟨h1, h | ⟨h2, h | ⟨h3, h | ⟨h4, h | ⟨h5, h⟩⟩⟩⟩⟩
  all_goals
    go_enter Tryz.func24, Tryz.ntmps24
    go_wp2_with fail
    all_goals first
      | (go_ret; exact ⟨rfl, by (repeat (first | (with_reducible refine below_set ?_ (by first | exact Nat.le_refl _ | omega) _ _) | with_reducible exact Below.refl _ _ | with_reducible refine belowA ?_ _ | with_reducible refine belowD ?_ | with_reducible refine belowN ?_ _))⟩)
      | (exfalso; simp_all; done)
      | (exfalso; simp_all; omega)
end Go.Proofs.YtmepjbjmjbpchaaGreatDoor
end
section
/- The reference: Equal. -/
namespace Go.Proofs.YtmepjbjmjbpchaaGreatDoor
open Go Go.RowKit
set_option linter.unusedVariables false
set_option linter.unusedSimpArgs false

theorem getD_at {α : Type} (d : α) {x : List α} {j : Nat} (h : j < x.length) : x.getD j d = x[j] := by
  rw [List.getD_eq_getElem?_getD, List.getElem?_eq_getElem h, Option.getD_some]
theorem list_ext_getD {α : Type} {d : α} {x y : List α} (h : x.length = y.length) (he : ∀ j, j < x.length → x.getD j d = y.getD j d) : x = y := by
  apply List.ext_getElem h
  intro j h1 h2
  have := he j h1
  rwa [getD_at d h1, getD_at d h2] at this
theorem StrSl.getD {w : World} {a : Option Addr} {ls : List ByteArray} (h : StrSl w a ls) {j : Nat} (hj : j < ls.length) : ∃ g off, a = some ⟨g, off, none⟩ ∧ g < w.heap.size ∧ w.cell? ⟨g, off + j, none⟩ = some (.string (ls.getD j ByteArray.empty)) := by
  rcases h with rfl | ⟨g, off, h1, h2, h3⟩
  · simp at hj
  · exact ⟨g, off, h1, h2, by rw [h3 j hj, getD_at _ hj]⟩
theorem below_two {w w' : World} {o o2 : Obj} (h : Below (w.heap.size + 2) ((w.alloc o).alloc o2) w') : Below w.heap.size w w' :=
  (((Below.refl w.heap.size w).alloc (Nat.le_refl _) o).alloc (by simp) o2).trans (h.mono (by simp))

set_option maxRecDepth 100000 in
set_option maxHeartbeats 8000000 in
theorem requal_body (nm : ByteArray) (k n : Int) (tx : ByteArray) (ia : Option Addr) (ic : Nat) (ta : Option Addr) (tc : Nat) (ia2 : Option Addr) (ic2 : Nat) (ta2 : Option Addr) (tc2 : Nat) (zs zs2 : List Int) (ls ls2 : List ByteArray) (L M : Nat)
    (h1 : zs.length = L) (h2 : zs2.length = L) (h3 : ls.length = M) (h4 : ls2.length = M) (w : World) (hz : IntSl w ia zs) (hz2 : IntSl w ia2 zs2) (hs : StrSl w ta ls) (hs2 : StrSl w ta2 ls2) (hL : L ≤ 100000000000000) (hM : M ≤ 100000000000000) :
    Calls Tryz.prog 24 #[av nm k n tx ia L ic ta M tc, av nm k n tx ia2 L ic2 ta2 M tc2] w fun e w' => e = .returned (.bool (decide (zs = zs2) && decide (ls = ls2))) ∧ Below w.heap.size w w' := by
  have H1 := Lib.hid h1; have H2 := Lib.hid h2; have H3 := Lib.hid h3; have H4 := Lib.hid h4
  have HZ := Lib.hid hz; have HZ2 := Lib.hid hz2; have HS := Lib.hid hs; have HS2 := Lib.hid hs2
  clear h1 h2 h3 h4 hz hz2 hs hs2
  go_enter Tryz.func24, Tryz.ntmps24
  go_wp2_with fail
  go_loopw [5] (fun i wr => ∃ j : Nat, i = .int .i64 j ∧ j ≤ L ∧ Below (w.heap.size + 2) ((w.alloc (.cells (avCells nm k n tx ia L ic ta M tc) 27)).alloc (.cells (avCells nm k n tx ia2 L ic2 ta2 M tc2) 27)) wr ∧ ∀ t, t < j → zs.getD t 0 = zs2.getD t 0) (fun i _ => L - (intOf i).toNat)
  case atStart => exact ⟨0, rfl, Nat.zero_le _, Below.refl _ _, fun t ht => by omega⟩
  case round =>
    obtain ⟨j, rfl, hj, hb, ht⟩ := hrel
    have c0 := rdCell (hb.mono (by simp)) w.heap.size (by simp <;> omega)
    have c1 := rdCell (hb.mono (by simp)) (w.heap.size + 1) (by simp)
    have HT := Lib.hid ht
    have HB := Lib.hid hb
    clear ht hb
    rcases Nat.lt_or_ge j L with hlt | hge
    · have hw0 := below_two HB.out
      obtain ⟨g, off, hia, hg, hc⟩ := (HZ.out.below hw0).at (j := j) (by rw [H1.out]; exact hlt)
      obtain ⟨g2, off2, hia2, hg2, hc2⟩ := (HZ2.out.below hw0).at (j := j) (by rw [H2.out]; exact hlt)
      subst hia hia2
      obtain ⟨x, hx⟩ : ∃ x, x = zs.getD j 0 := ⟨_, rfl⟩
      obtain ⟨y, hy⟩ : ∃ y, y = zs2.getD j 0 := ⟨_, rfl⟩
      rw [← hx] at hc
      rw [← hy] at hc2
      have HX := Lib.hid hx; have HY := Lib.hid hy; have HW0 := Lib.hid hw0
      clear hx hy hw0
      have hj0 : (0 : Int) ≤ (j : Int) := by omega
      have hjl : (j : Int) < (L : Int) := by omega
      by_cases hxy : x = y
      · have hb : (x != y) = false := by simpa using hxy
        have HXY := Lib.hid hxy
        clear hxy
        go_wp2_with fail
        go_quiet (fail)
        go_wp2_with fail
        go_roundw
        case rel => exact ⟨j + 1, by go_num, by omega, by have := HB.out; (first | exact this.drew | exact belowN this _), fun t ht => by
          rcases Nat.lt_or_ge t j with h2 | h2
          · exact HT.out t h2
          · obtain rfl : t = j := by omega
            rw [← HX.out, ← HY.out]; exact HXY.out⟩
        case measure => simp [intOf]; omega
      · have hb : (x != y) = true := by simpa using hxy
        have HXY := Lib.hid hxy
        clear hxy
        go_wp2_with fail
        go_quiet (fail)
        go_wp2_with fail
        go_ret
        have hne : ¬ zs = zs2 := fun e => HXY.out (by rw [HX.out, HY.out, e])
        exact ⟨by simp [hne], by have := HW0.out; (first | exact this.drew | exact belowN this _)⟩
    · obtain rfl : L = j := by omega
      have hzz : Hid (zs = zs2) := Lib.hid (list_ext_getD (by rw [H1.out, H2.out]) (fun t h => HT.out t (by rw [← H1.out]; exact h)))
      go_wp2_with fail
      obtain ⟨wo, hwo⟩ : ∃ wo : World, wo = wr := ⟨_, rfl⟩
      subst hwo
      go_loopw [6] (fun i wr => ∃ j : Nat, i = .int .i64 j ∧ j ≤ M ∧ Below (w.heap.size + 2) ((w.alloc (.cells (avCells nm k n tx ia L ic ta M tc) 27)).alloc (.cells (avCells nm k n tx ia2 L ic2 ta2 M tc2) 27)) wr ∧ ∀ t, t < j → ls.getD t ByteArray.empty = ls2.getD t ByteArray.empty) (fun i _ => M - (intOf i).toNat)
      case atStart => exact ⟨0, rfl, Nat.zero_le _, HB.out, fun t ht => by omega⟩
      case round =>
        obtain ⟨j, rfl, hj, hb, ht⟩ := hrel
        clear c0 c1
        have c0 := rdCell (hb.mono (by simp)) w.heap.size (by simp <;> omega)
        have c1 := rdCell (hb.mono (by simp)) (w.heap.size + 1) (by simp)
        have HT := Lib.hid ht
        have HB := Lib.hid hb
        clear ht hb
        rcases Nat.lt_or_ge j M with hlt | hge
        · have hw0 := below_two HB.out
          obtain ⟨g, off, hia, hg, hc⟩ := (HS.out.below hw0).getD (j := j) (by rw [H3.out]; exact hlt)
          obtain ⟨g2, off2, hia2, hg2, hc2⟩ := (HS2.out.below hw0).getD (j := j) (by rw [H4.out]; exact hlt)
          subst hia hia2
          obtain ⟨x, hx⟩ : ∃ x, x = ls.getD j ByteArray.empty := ⟨_, rfl⟩
          obtain ⟨y, hy⟩ : ∃ y, y = ls2.getD j ByteArray.empty := ⟨_, rfl⟩
          rw [← hx] at hc
          rw [← hy] at hc2
          have HX := Lib.hid hx; have HY := Lib.hid hy; have HW0 := Lib.hid hw0
          clear hx hy hw0
          have hj0 : (0 : Int) ≤ (j : Int) := by omega
          have hjl : (j : Int) < (M : Int) := by omega
          by_cases hxy : x = y
          · have hb : (x.toList == y.toList) = true := by rw [toList_beq]; simpa using hxy
            have HXY := Lib.hid hxy
            clear hxy
            go_wp2_with fail
            go_quiet (fail)
            go_wp2_with fail
            go_roundw
            case rel => exact ⟨j + 1, by go_num, by omega, by have := HB.out; (first | exact this.drew | exact belowN this _), fun t ht => by
              rcases Nat.lt_or_ge t j with h2 | h2
              · exact HT.out t h2
              · obtain rfl : t = j := by omega
                rw [← HX.out, ← HY.out]; exact HXY.out⟩
            case measure => simp [intOf]; omega
          · have hb : (x.toList == y.toList) = false := by rw [toList_beq]; simpa using hxy
            have HXY := Lib.hid hxy
            clear hxy
            go_wp2_with fail
            go_quiet (fail)
            go_wp2_with fail
            go_ret
            have hne : ¬ ls = ls2 := fun e => HXY.out (by rw [HX.out, HY.out, e])
            exact ⟨by simp [hne], by have := HW0.out; (first | exact this.drew | exact belowN this _)⟩
        · obtain rfl : j = M := by omega
          have hll : Hid (ls = ls2) := Lib.hid (list_ext_getD (by rw [H3.out, H4.out]) (fun t h => HT.out t (by rw [← H3.out]; exact h)))
          go_wp2_with fail
          go_ret
          exact ⟨by simp [hzz.out, hll.out], below_two HB.out⟩
end Go.Proofs.YtmepjbjmjbpchaaGreatDoor
end
section
/- The reference: Equal at two attributes, EqualLists. -/
namespace Go.Proofs.YtmepjbjmjbpchaaGreatDoor
open Go Go.RowKit
set_option linter.unusedVariables false
set_option linter.unusedSimpArgs false
attribute [local go_sem] Oper.semAt_some

theorem Atr.Fits.lens {a : Atr} (h : a.Fits) : a.ints.length ≤ 100000000000000 ∧ a.texts.length ≤ 100000000000000 := by
  have := h.il; have := h.tl
  omega
theorem requal_any (a b : Atr) (w : World) (ha : a.Lies w) (hb : b.Lies w) (fa : a.Fits) (fb : b.Fits) :
    Calls Tryz.prog 24 #[a.val, b.val] w fun e w' => e = .returned (.bool (sameA a b)) ∧ Below w.heap.size w w' := by
  by_cases h : a.name = b.name ∧ a.kind = b.kind ∧ a.num = b.num ∧ a.text = b.text ∧ a.ints.length = b.ints.length ∧ a.texts.length = b.texts.length
  · obtain ⟨h1, h2, h3, h4, h5, h6⟩ := h
    have e : sameA a b = (decide (a.ints = b.ints) && decide (a.texts = b.texts)) := by
      unfold sameA; rw [Bool.eq_iff_iff]; simp [h1, h2, h3, h4]
    rw [e]
    have := requal_body a.name a.kind a.num a.text a.ia a.ic a.ta a.tc b.ia b.ic b.ta b.tc a.ints b.ints a.texts b.texts a.ints.length a.texts.length rfl h5.symm rfl h6.symm w ha.ints hb.ints ha.texts hb.texts fa.lens.1 fa.lens.2
    have hv : b.val = av a.name a.kind a.num a.text b.ia a.ints.length b.ic b.ta a.texts.length b.tc := by
      show av b.name b.kind b.num b.text b.ia b.ints.length b.ic b.ta b.texts.length b.tc = _
      rw [← h1, ← h2, ← h3, ← h4, ← h5, ← h6]
    rw [hv]; exact this
  · have e : sameA a b = false := by
      unfold sameA; rw [decide_eq_false_iff_not]
      rintro ⟨h1, h2, h3, h4, h5, h6⟩
      exact h ⟨h1, h2, h3, h4, by rw [h5], by rw [h6]⟩
    rw [e]; exact requal_head a b w h

/-- Whether two lists are the same. -/
def sameL (l m : List Atr) : Bool := decide (l.length = m.length) && (List.range l.length).all fun j => match l[j]?, m[j]? with | some a, some b => sameA a b | _, _ => true
def sameAt (l m : List Atr) (j : Nat) : Bool := match l[j]?, m[j]? with | some a, some b => sameA a b | _, _ => true
theorem sameL_eq (l m : List Atr) (h : l.length = m.length) : sameL l m = (List.range l.length).all (sameAt l m) := by
  unfold sameL; simp [h]; rfl

set_option maxRecDepth 100000 in
set_option maxHeartbeats 8000000 in
theorem requalL_any (p q : Option Addr) (c d : Nat) (l m : List Atr) (w : World) (hs : AtrSl w p l) (hs2 : AtrSl w q m) (hl : l.length ≤ 100000000000000) (hm : m.length ≤ 100000000000000) :
    Calls Tryz.prog 17 #[.slice p l.length c, .slice q m.length d] w fun e w' => e = .returned (.bool (sameL l m)) ∧ Below w.heap.size w w' := by
  by_cases hlm : l.length = m.length
  · have HLM := Lib.hid hlm
    have HS := Lib.hid hs
    have HS2 := Lib.hid hs2
    clear hs hs2 hlm
    obtain ⟨M, hM⟩ : ∃ M, M = m.length := ⟨_, rfl⟩
    have hLM : Hid (l.length = M) := Lib.hid (by rw [hM]; exact HLM.out)
    rw [← hM] at hm ⊢
    obtain ⟨L, hL⟩ : ∃ L, L = l.length := ⟨_, rfl⟩
    have hll : L = M := by rw [hL]; exact hLM.out
    rw [← hL] at hl ⊢
    have HL := Lib.hid hL
    have HM := Lib.hid hM
    subst hll
    clear hL hM
    refine (callsIn_wide (n := 6)).1 ?_
    refine callsIn_of_wp Tryz.func17 rfl trivial ?_ rfl
    simp only [Tryz.ntmps17, List.size_toArray, List.length_cons, List.length_nil, Nat.reduceAdd, Nat.reduceSub, Array.replicate_succ, Array.replicate_zero, List.push_toArray, List.append_toArray, List.nil_append, List.cons_append]
    gi_wp2_with fail
    gi_loopw [5] (fun i wr => ∃ j : Nat, i = .int .i64 j ∧ j ≤ L ∧ Below w.heap.size w wr ∧ (List.range j).all (sameAt l m) = true) (fun i _ => L - (intOf i).toNat)
    case atStart => exact ⟨0, rfl, Nat.zero_le _, Below.refl _ _, rfl⟩
    case round =>
      obtain ⟨j, rfl, hj, hb, ht⟩ := hrel
      have HB := Lib.hid hb
      have HT := Lib.hid ht
      clear hb ht
      rcases Nat.lt_or_ge j L with hlt | hge
      · have hl1 : j < l.length := by rw [← HL.out]; exact hlt
        have hl2 : j < m.length := by rw [← HM.out]; exact hlt
        have hsw := HS.out.below HB.out
        have hsw2 := HS2.out.below HB.out
        obtain ⟨g, off, rfl, hzg, hrow⟩ := hsw.row hl1
        obtain ⟨g2, off2, rfl, hzg2, hrow2⟩ := hsw2.row hl2
        obtain ⟨a0, ha0⟩ : ∃ a0, a0 = l[j] := ⟨_, rfl⟩
        obtain ⟨b0, hb0⟩ : ∃ b0, b0 = m[j] := ⟨_, rfl⟩
        have hcj := hrow j hl1
        have hcj2 := hrow2 j hl2
        rw [← ha0] at hcj
        rw [← hb0] at hcj2
        have HLI := Lib.hid (fun (W : World) (hb : Below wr.heap.size wr W) => (hsw.lies a0 (by rw [ha0]; exact List.getElem_mem _)).below hb)
        have HFI := Lib.hid (hsw.fits a0 (by rw [ha0]; exact List.getElem_mem _))
        have HLI2 := Lib.hid (fun (W : World) (hb : Below wr.heap.size wr W) => (hsw2.lies b0 (by rw [hb0]; exact List.getElem_mem _)).below hb)
        have HFI2 := Lib.hid (hsw2.fits b0 (by rw [hb0]; exact List.getElem_mem _))
        have hj0 : (0 : Int) ≤ (j : Int) := by omega
        have hjl : (j : Int) < (L : Int) := by omega
        have HE : Hid (sameAt l m j = sameA a0 b0) := Lib.hid (by unfold sameAt; rw [List.getElem?_eq_getElem hl1, List.getElem?_eq_getElem hl2, ha0, hb0])
        clear ha0 hb0 hrow hrow2 hsw hsw2
        obtain ⟨k0, k1, k2, k3, k4, k5⟩ := hcj
        obtain ⟨q0, q1, q2, q3, q4, q5⟩ := hcj2
        gi_wp2_with fail
        generalize hops : (#[_, _, _, _, _, _, _, _, _, _] : Array Oper) = ops
        refine wpIn_region_inv_tail 8 (fun i => match i with | 0 => .slice (some ⟨g, off, none⟩) L c | 1 => .int .i64 (j : Int) | 2 => .pointer (some ⟨g, off + j * 6, none⟩) | 3 => a0.val | 4 => .slice (some ⟨g2, off2, none⟩) L d | 5 => .int .i64 (j : Int) | 6 => .pointer (some ⟨g2, off2 + j * 6, none⟩) | 7 => b0.val | _ => undef)
          (fun _ Wy => Below wr.heap.size wr Wy) (by kernel_rfl) (by rw [← hops]; kernel_rfl) (by rw [← hops]; kernel_rfl) (by rw [← hops]; kernel_rfl) (by rw [← hops]; decide) (by rw [← hops]; kernel_rfl) ((Below.refl _ _).drew) ?step ?tail
        case step =>
          intro i o listed a Wy ho hs hu hall ha hi hy hlt
          have old0 : a.eval (.tmp 0) = .slice (some ⟨g, off, none⟩) L c := by rw [ha.eval_old (noDst_spec (by rw [← hops]; kernel_rfl))]; rfl
          have old1 : a.eval (.tmp 1) = .slice (some ⟨g2, off2, none⟩) L d := by rw [ha.eval_old (noDst_spec (by rw [← hops]; kernel_rfl))]; rfl
          have old5 : a.eval (.tmp 5) = .int .i64 (j : Int) := by rw [ha.eval_old (noDst_spec (by rw [← hops]; kernel_rfl))]; rfl
          have hcase : i = 0 ∨ i = 1 ∨ i = 2 ∨ i = 3 ∨ i = 4 ∨ i = 5 ∨ i = 6 ∨ i = 7 := by omega
          rcases hcase with rfl | rfl | rfl | rfl | rfl | rfl | rfl | rfl
          all_goals (have ho' := ho; rw [← hops] at ho'; simp only [List.getElem?_toArray, List.getElem?_cons_zero, List.getElem?_cons_succ, Option.some.injEq] at ho'; subst ho')
          · refine step_none rfl ?_
            refine opIn_value wideAt_plain (fun c h => by cases h) (v := .slice (some ⟨g, off, none⟩) L c) (W' := Wy) ?_ ⟨rfl, hi⟩
            simp only [execOp, old0]
            simp only [Sem.run_pure]
          · refine step_none rfl ?_
            refine opIn_value wideAt_plain (fun c h => by cases h) (v := .int .i64 (j : Int)) (W' := Wy) ?_ ⟨rfl, hi⟩
            simp only [execOp, old5]
            simp only [Sem.run_pure]
          · refine step_none rfl ?_
            have h17 : a.eval (.tmp 17) = .slice (some ⟨g, off, none⟩) L c := ha.eval_got (j := 0) (by rw [← hops]; rfl) rfl (hall ⟨0, .data⟩ (by simp) rfl)
            have h18 : a.eval (.tmp 18) = .int .i64 (j : Int) := ha.eval_got (j := 1) (by rw [← hops]; rfl) rfl (hall ⟨1, .data⟩ (by simp) rfl)
            refine opIn_value wideAt_plain (fun c h => by cases h) (v := .pointer (some ⟨g, off + j * 6, none⟩)) (W' := Wy) ?_ ⟨rfl, hi⟩
            simp only [execOp, h17, h18]
            simp [go_sem, hjl, hj0] <;> (intro h; exfalso; first | omega | (have := h (by omega); omega))
          · refine step_none rfl ?_
            have h19 : a.eval (.tmp 19) = .pointer (some ⟨g, off + j * 6, none⟩) := ha.eval_got (j := 2) (by rw [← hops]; rfl) rfl (hall ⟨2, .data⟩ (by simp) rfl)
            refine opIn_value wideAt_plain (fun c h => by cases h) (v := a0.val) (W' := Wy) ?_ ⟨rfl, hi⟩
            simp only [execOp, h19]
            simp [go_sem, rdCell hi g hzg, k0, k1, k2, k3, k4, k5]
          · refine step_none rfl ?_
            refine opIn_value wideAt_plain (fun c h => by cases h) (v := .slice (some ⟨g2, off2, none⟩) L d) (W' := Wy) ?_ ⟨rfl, hi⟩
            simp only [execOp, old1]
            simp only [Sem.run_pure]
          · refine step_none rfl ?_
            refine opIn_value wideAt_plain (fun c h => by cases h) (v := .int .i64 (j : Int)) (W' := Wy) ?_ ⟨rfl, hi⟩
            simp only [execOp, old5]
            simp only [Sem.run_pure]
          · refine step_none rfl ?_
            have h21 : a.eval (.tmp 21) = .slice (some ⟨g2, off2, none⟩) L d := ha.eval_got (j := 4) (by rw [← hops]; rfl) rfl (hall ⟨4, .data⟩ (by simp) rfl)
            have h22 : a.eval (.tmp 22) = .int .i64 (j : Int) := ha.eval_got (j := 5) (by rw [← hops]; rfl) rfl (hall ⟨5, .data⟩ (by simp) rfl)
            refine opIn_value wideAt_plain (fun c h => by cases h) (v := .pointer (some ⟨g2, off2 + j * 6, none⟩)) (W' := Wy) ?_ ⟨rfl, hi⟩
            simp only [execOp, h21, h22]
            simp [go_sem, hjl, hj0] <;> (intro h; exfalso; first | omega | (have := h (by omega); omega))
          · refine step_none rfl ?_
            have h23 : a.eval (.tmp 23) = .pointer (some ⟨g2, off2 + j * 6, none⟩) := ha.eval_got (j := 6) (by rw [← hops]; rfl) rfl (hall ⟨6, .data⟩ (by simp) rfl)
            refine opIn_value wideAt_plain (fun c h => by cases h) (v := b0.val) (W' := Wy) ?_ ⟨rfl, hi⟩
            simp only [execOp, h23]
            simp [go_sem, rdCell hi g2 hzg2, q0, q1, q2, q3, q4, q5]
        case tail =>
          intro Wz hz
          subst hops
          simp only [frameOf, Act.put, Option.bind_some, List.getElem?_toArray, List.getElem?_cons_zero, List.getElem?_cons_succ, List.setIfInBounds_toArray, List.set_cons_zero, List.set_cons_succ, List.drop_succ_cons, List.drop_zero]
          have HZ := Lib.hid hz
          clear hz
          gi_wp2_with (refine ⟨trivial, ?_⟩; gi_at_call 24; refine (callsIn_wide.2 (requal_any a0 b0 _ (HLI.out _ HZ.out) (HLI2.out _ HZ.out) HFI.out HFI2.out)).mono ?_; rintro e w2 ⟨rfl, hb2⟩)
          · go_ret
            have hq : sameA a0 b0 = false := by simpa using (by assumption : (!sameA a0 b0) = true)
            have hrl : sameL l m = false := by rw [sameL_eq _ _ HLM.out]; exact all_range_false hl1 (by rw [HE.out, hq])
            exact ⟨by rw [hrl]; rfl, below_own' (below_own' HB.out HZ.out) hb2⟩
          · have hq : sameA a0 b0 = true := by simpa using (by assumption : (!sameA a0 b0) = false)
            go_roundw
            case rel => exact ⟨j + 1, by go_num, by omega, below_own' (below_own' HB.out HZ.out) hb2, by rw [all_range_succ, HT.out, HE.out, hq]; rfl⟩
            case measure => simp [intOf]; omega
      · obtain rfl : L = j := by omega
        have hrl : Hid (sameL l m = true) := Lib.hid (by rw [sameL_eq _ _ HLM.out, ← HL.out]; exact HT.out)
        gi_wp2_with fail
        go_ret
        exact ⟨by rw [hrl.out]; rfl, HB.out⟩
  · have hd : (((l.length : Nat) : Int) != ((m.length : Nat) : Int)) = true := by simpa using fun h => hlm (Int.ofNat_inj.1 h)
    have hrl : Hid (sameL l m = false) := Lib.hid (by unfold sameL; simp [hlm])
    have hne : ¬ ((l.length : Int) = (m.length : Int)) := fun h => hlm (Int.ofNat_inj.1 h)
    clear hs hs2
    go_enter Tryz.func17, Tryz.ntmps17
    go_wp2_with fail
    go_ret
    exact ⟨by rw [hrl.out]; rfl, Below.refl _ _⟩
end Go.Proofs.YtmepjbjmjbpchaaGreatDoor
end
