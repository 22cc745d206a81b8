/- Texts of this claim, laid together: Rs0, Rs1, Lwa0, Ae2, Aq1, Aq2, Aq3, Aq4. -/
import Derived.OwnWalkIn
import Derived.Lib.ParseIntBCases
import Derived.Shelf.Strconv.ParseIntPublic10
import Derived.Test.YtmepjbjmjbpchaaGreatDoorMg13
import Derived.Test.YtmepjbjmjbpchaaGreatDoorMg14
import Derived.Test.YtmepjbjmjbpchaaGreatDoorMg18
import Derived.Test.YtmepjbjmjbpchaaGreatDoorMg19
import Derived.Test.YtmepjbjmjbpchaaGreatDoorMg22
section
/- The reference: Set. -/
namespace Go.Proofs.YtmepjbjmjbpchaaGreatDoor
open Go Go.RowKit Go.Sort
set_option linter.unusedVariables false
set_option linter.unusedSimpArgs false
attribute [local go_sem] Oper.semAt_some

theorem own_belowG {W W1 : World} {base : Nat} {e : TypeId} {sz : Nat} {v : Value} {n : Nat} {xs : List Value} (h : W.ownsRow base e sz v n xs) (hb : Below W.heap.size W W1) : W1.ownsRow base e sz v n xs :=
  ⟨h.1, by
    rcases h.2 with h | ⟨g, c, cur, h1, h2, h3, h4⟩
    · exact .inl h
    · exact .inr ⟨g, c, cur, h1, h2, blkBelow h3 hb, h4⟩⟩
/-- What the loop carries. -/
structure RsI (a : Atr) (l : List Atr) (w wr : World) (j n : Nat) (out : List Atr) (done : Bool) (v : Value) : Prop where
  own : wr.ownsRow (w.heap.size + 1) 27 6 v n (out.flatMap Atr.cells)
  len : n = out.length
  bel : Below w.heap.size w wr
  box : wr.heap[w.heap.size]? = some (.cells (avCells a.name a.kind a.num a.text a.ia a.ints.length a.ic a.ta a.texts.length a.tc) 27 (0, 0))
  mem : ∀ b ∈ out, b ∈ l ∨ b = a
  eq : (out.map Atr.dat, done) = rsetD a.dat ((l.take j).map Atr.dat) ([], false)
  few : n ≤ 2 * j
theorem RsI.below {a : Atr} {l : List Atr} {w wr W : World} {j n : Nat} {out : List Atr} {done : Bool} {v : Value} (h : RsI a l w wr j n out done v) (hb : Below wr.heap.size wr W) : RsI a l w W j n out done v :=
  ⟨own_belowG h.own hb, h.len, below_own' h.bel hb, blkBelow h.box hb, h.mem, h.eq, h.few⟩
/-- A row that an attribute has been put behind. -/
structure RsA (a : Atr) (l : List Atr) (w wr : World) (n : Nat) (out : List Atr) (v : Value) : Prop where
  own : wr.ownsRow (w.heap.size + 1) 27 6 v n (out.flatMap Atr.cells)
  len : n = out.length
  bel : Below w.heap.size w wr
  box : wr.heap[w.heap.size]? = some (.cells (avCells a.name a.kind a.num a.text a.ia a.ints.length a.ic a.ta a.texts.length a.tc) 27 (0, 0))
  mem : ∀ b ∈ out, b ∈ l ∨ b = a
theorem RsA.below {a : Atr} {l : List Atr} {w wr W : World} {n : Nat} {out : List Atr} {v : Value} (h : RsA a l w wr n out v) (hb : Below wr.heap.size wr W) : RsA a l w W n out v :=
  ⟨own_belowG h.own hb, h.len, below_own' h.bel hb, blkBelow h.box hb, h.mem⟩
theorem RsA.snoc {a b : Atr} {l : List Atr} {w W W' : World} {n : Nat} {out : List Atr} {v v' : Value} (h : RsA a l w W n out v) (hb : b ∈ l ∨ b = a)
    (ho : W'.ownsRow (w.heap.size + 1) 27 6 v' (n + 1) (out.flatMap Atr.cells ++ [.string b.name, .int .i64 b.kind, .int .i64 b.num, .string b.text, .slice b.ia b.ints.length b.ic, .slice b.ta b.texts.length b.tc]))
    {x : Obj} (hg : (W.alloc x).grownBy W' v.ownBlock) : RsA a l w W' (n + 1) (out ++ [b]) v' := by
  have hw : w.heap.size < W.heap.size := blkLt h.box
  have hlt := h.own.lt
  refine ⟨by rw [List.flatMap_append]; simpa [Atr.cells] using ho, by rw [h.len]; simp, (belowA h.bel x).grown hg (by simp; omega) (fun k hk => by have := (hlt k hk).1; omega), ?_, ?_⟩
  · have h1 : (W.alloc x).heap[w.heap.size]? = some _ := heap_alloc_old h.box x
    rw [hg.block w.heap.size (by simp; omega) (fun e => by have := (hlt _ e.symm).1; omega)]
    exact h1
  · intro c hc
    rcases List.mem_append.1 hc with hc | hc
    · exact h.mem c hc
    · rw [List.mem_singleton.1 hc]; exact hb
theorem RsA.sl {a : Atr} {l : List Atr} {w W : World} {n : Nat} {out : List Atr} {p : Option Addr} {c : Nat} (h : RsA a l w W n out (.slice p n c)) (hl : ∀ b ∈ l, b.Lies w) (hlf : ∀ b ∈ l, b.Fits) (ha : a.Lies w) (hf : a.Fits) : AtrSl W p out := by
  have hn := h.len
  refine ⟨?_, fun b hb => ?_, fun b hb => ?_⟩
  · rcases h.own.2 with ⟨h1, h2⟩ | ⟨g, cap, cur, h1, hb, h2, h4, h5, h6, h7⟩
    · exact .inl (List.length_eq_zero_iff.1 (by omega))
    · cases h1
      refine .inr ⟨g, 0, rfl, blkLt h2, fun j hj i hi => ?_⟩
      rw [blkCell h2, Nat.zero_add, ← flat_at hj hi, ← h7, List.getElem?_take, if_pos (by omega)]
      simp
  · rcases h.mem b hb with h1 | rfl
    · exact (hl b h1).below h.bel
    · exact ha.below h.bel
  · rcases h.mem b hb with h1 | rfl
    · exact hlf b h1
    · exact hf
end Go.Proofs.YtmepjbjmjbpchaaGreatDoor
end
section
/- The reference: Merge. -/
namespace Go.Proofs.YtmepjbjmjbpchaaGreatDoor
open Go Go.RowKit Go.Sort
set_option linter.unusedVariables false
set_option linter.unusedSimpArgs false

end Go.Proofs.YtmepjbjmjbpchaaGreatDoor
end
section
/- What the laws of the chapter use: lists with the same data are the same. -/
namespace Go.Proofs.YtmepjbjmjbpchaaGreatDoor
open Go Go.RowKit Go.Sort
set_option linter.unusedVariables false
set_option linter.unusedSimpArgs false

theorem sameA_dat (a b : Atr) : sameA a b = decide (a.dat = b.dat) := by
  unfold sameA
  rw [decide_eq_decide]
  constructor
  · rintro ⟨h1, h2, h3, h4, h5, h6⟩
    show (⟨a.name, a.kind, a.num, a.text, a.ints, a.texts⟩ : Dat) = ⟨b.name, b.kind, b.num, b.text, b.ints, b.texts⟩
    rw [h1, h2, h3, h4, h5, h6]
  · intro h
    exact ⟨congrArg Dat.name h, congrArg Dat.kind h, congrArg Dat.num h, congrArg Dat.text h, congrArg Dat.ints h, congrArg Dat.texts h⟩
theorem sameL_dat {l m : List Atr} (h : l.map Atr.dat = m.map Atr.dat) : sameL l m = true := by
  have hl : l.length = m.length := by simpa using congrArg List.length h
  rw [sameL_eq l m hl, List.all_eq_true]
  intro j hj
  have hj1 : j < l.length := List.mem_range.1 hj
  unfold sameAt
  rw [List.getElem?_eq_getElem hj1, List.getElem?_eq_getElem (by omega : j < m.length)]
  have := congrArg (fun k => k[j]?) h
  simp only [List.getElem?_map, List.getElem?_eq_getElem hj1, List.getElem?_eq_getElem (by omega : j < m.length), Option.map_some, Option.some.injEq] at this
  show sameA l[j] m[j] = true
  rw [sameA_dat, this]
  simp
theorem requalL_same (p q : Option Addr) (c d n k : Nat) (l m : List Atr) (w : World) (hs : AtrSl w p l) (hs2 : AtrSl w q m) (h : l.map Atr.dat = m.map Atr.dat) (hn : n = l.length) (hk : k = m.length) (hl : l.length ≤ 100000000000000) :
    Calls Tryz.prog 17 #[.slice p n c, .slice q k d] w fun e w' => e = .returned (.bool true) ∧ Below w.heap.size w w' := by
  have hlm : l.length = m.length := by simpa using congrArg List.length h
  rw [hn, hk]
  have := requalL_any p q c d l m w hs hs2 hl (by omega)
  rw [sameL_dat h] at this
  exact this
end Go.Proofs.YtmepjbjmjbpchaaGreatDoor
end
section
/- Lists with an attribute set: plain law. -/
namespace Go.Proofs.YtmepjbjmjbpchaaGreatDoor
open Go Go.RowKit Go.Sort
set_option linter.unusedVariables false
set_option linter.unusedSimpArgs false

end Go.Proofs.YtmepjbjmjbpchaaGreatDoor
end
section
/- strconv.ParseInt at any string: some number; at the string of a number: that number. -/
namespace Go.Proofs.YtmepjbjmjbpchaaGreatDoor
open Go Go.RowKit
set_option linter.unusedVariables false
set_option linter.unusedSimpArgs false

/-- The library's variables that are read, those of errors too. -/
structure GlobE (w : World) : Prop where
  glob : Glob w
  e1 : ∃ ev, w.cell? ⟨1, 0, none⟩ = some ev ∧ (ev = .nilIface ∨ ∃ te pe, ev = .iface te pe)
  e2 : ∃ ev, w.cell? ⟨2, 0, none⟩ = some ev ∧ (ev = .nilIface ∨ ∃ te pe, ev = .iface te pe)
  pos : 2 < w.heap.size
theorem GlobE.below {w w1 : World} (h : GlobE w) (hb : Below w.heap.size w w1) : GlobE w1 := by
  have hp := h.pos
  refine ⟨h.glob.below hb, ?_, ?_, Nat.lt_of_lt_of_le h.pos hb.size⟩
  · obtain ⟨ev, h1, h2⟩ := h.e1
    exact ⟨ev, (rdCell hb 1 (by omega) 0).trans h1, h2⟩
  · obtain ⟨ev, h1, h2⟩ := h.e2
    exact ⟨ev, (rdCell hb 2 (by omega) 0).trans h1, h2⟩
/-- The number that ParseInt gives, whatever the string is. -/
def piOf (l : List UInt8) : Int := match Lib.parseIntB 64 l with | .ok v => v | .range => Lib.intSat 64 l | _ => 0
theorem pi_range (l : List UInt8) : -9223372036854775808 ≤ piOf l ∧ piOf l ≤ 9223372036854775807 := by
  unfold piOf
  rcases hx : Lib.parseIntB 64 l with v | _ | _
  · show -9223372036854775808 ≤ v ∧ v ≤ 9223372036854775807
    cases l with
    | nil => cases hx
    | cons c r =>
      unfold Lib.parseIntB at hx
      simp only at hx
      split at hx
      · cases hx
      · cases hx
      · rename_i u hu
        split at hx
        · cases hx
        · split at hx
          · cases hx
          · rename_i h1 h2
            have hv := Lib.NumEnd.ok.inj hx
            by_cases hn : c.toNat = 45
            · rw [if_pos hn] at hv
              have h3 : ¬ 2 ^ 63 < u := fun h => h2 ⟨hn, h⟩
              omega
            · rw [if_neg hn] at hv
              have h3 : ¬ 2 ^ 63 ≤ u := fun h => h1 ⟨hn, h⟩
              omega
  · show -9223372036854775808 ≤ (0 : Int) ∧ (0 : Int) ≤ 9223372036854775807
    omega
  · show -9223372036854775808 ≤ Lib.intSat 64 l ∧ Lib.intSat 64 l ≤ 9223372036854775807
    unfold Lib.intSat
    split <;> exact ⟨by decide, by decide⟩
theorem parseU_dig : ∀ (l : List UInt8) (acc : Nat), (∀ c ∈ l, 48 ≤ c.toNat ∧ c.toNat ≤ 57) → numOfL acc l ≤ 18446744073709551615 → Lib.parseUintM 18446744073709551615 acc l = .ok (numOfL acc l)
  | [], acc, _, _ => rfl
  | c :: r, acc, hd, hM => by
    have hc := hd c (List.mem_cons_self ..)
    have hmono : ∀ (l : List UInt8) (a : Nat), a ≤ numOfL a l := by
      intro l
      induction l with
      | nil => intro a; exact Nat.le_refl _
      | cons b l ih => intro a; exact Nat.le_trans (by omega) (ih _)
    have h1 : 10 * acc + (c.toNat - 48) ≤ 18446744073709551615 := Nat.le_trans (hmono r _) hM
    unfold Lib.parseUintM
    rw [if_pos hc, if_neg (by omega), if_neg (by omega), show acc * 10 + (c.toNat - 48) = 10 * acc + (c.toNat - 48) by omega]
    exact parseU_dig r _ (fun b hb => hd b (List.mem_cons_of_mem _ hb)) hM
theorem parse_dec {u : Nat} (h : u ≤ 18446744073709551615) : Lib.parseUintB 64 (Lib.decDigits u) = .ok u := by
  unfold Lib.parseUintB
  rw [if_neg (by unfold Lib.decDigits; split <;> simp)]
  have := parseU_dig (Lib.decDigits u) 0 (dec_digit u) (by rw [numOfL_dec]; exact h)
  rw [numOfL_dec] at this
  exact this
theorem parse_itoa {n : Int} (h0 : -9223372036854775808 ≤ n) (h1 : n ≤ 9223372036854775807) : Lib.parseIntB 64 (Lib.itoa n) = .ok n := by
  unfold Lib.itoa
  by_cases hn : n < 0
  · rw [if_pos hn]
    unfold Lib.parseIntB
    simp only [show (45 : UInt8).toNat = 45 from rfl, or_true, if_true]
    rw [parse_dec (by omega)]
    simp only
    rw [if_neg (by simp), if_neg (by intro h; have := h.2; omega)]
    congr 1
    omega
  · rw [if_neg hn]
    cases hd : Lib.decDigits n.toNat with
    | nil => exfalso; unfold Lib.decDigits at hd; split at hd <;> simp at hd
    | cons c r =>
      have hc := dec_digit n.toNat c (by rw [hd]; exact List.mem_cons_self ..)
      unfold Lib.parseIntB
      simp only
      rw [if_neg (by omega), ← hd, parse_dec (by omega)]
      simp only
      rw [if_neg (by intro h; have := h.2; omega), if_neg (by intro h; have := h.1; omega), if_neg (by omega)]
      congr 1
      omega
theorem pi_itoa {n : Int} (h0 : -9223372036854775808 ≤ n) (h1 : n ≤ 9223372036854775807) : piOf (Lib.itoa n) = n := by
  unfold piOf
  rw [parse_itoa h0 h1]
theorem parseInt_all (s : ByteArray) (hs : s.size ≤ 140737488355328) (w : World) (hg : GlobE w) :
    Calls Tryz.prog 71 #[.string s, .int .i64 10, .int .i64 64] w fun e w' => ∃ er, e = .returned (.tuple #[.int .i64 (piOf s.data.toList), er]) ∧ Below w.heap.size w w' := by
  unfold piOf
  rcases hx : Lib.parseIntB 64 s.data.toList with v | _ | _
  · exact (Tryz.strconv_ParseInt_10_at64_ok s (by omega) v hx w).mono fun e w' ⟨he, hw⟩ => ⟨_, he, by
      rcases hw with rfl | ⟨t, rfl⟩
      · exact Below.refl _ _
      · exact Lib.bytesWorld_below _ _ _⟩
  · obtain ⟨ev, h1, h2⟩ := hg.e1
    exact (Any.strconv_ParseInt_10_at64_syntax Tryz.laysC174 s (by omega) hx ev w h1 h2).mono fun e w' ⟨N, he, _, _, hb⟩ => ⟨_, he, hb⟩
  · obtain ⟨ev, h1, h2⟩ := hg.e2
    exact (Tryz.strconv_ParseInt_10_at64_range s (by omega) hx ev w h1 h2).mono fun e w' ⟨N, he, _, _, hb⟩ => ⟨_, he, hb⟩
end Go.Proofs.YtmepjbjmjbpchaaGreatDoor
end
section
/- attrs.guess at a string in square brackets. -/
namespace Go.Proofs.YtmepjbjmjbpchaaGreatDoor
open Go Go.RowKit Go.Sort
set_option linter.unusedVariables false
set_option linter.unusedSimpArgs false

/-- What guess makes of what stands between brackets. -/
def gBody (s : ByteArray) : ByteArray := s.extract 1 (max 1 (s.size - 1))
def gPieces (b : ByteArray) : List ByteArray := Lib.splitB ⟨#[44, 32]⟩ 0 (Lib.countB b ⟨#[44, 32]⟩) b
def gInts (s : ByteArray) : List Int := if (gBody s).size = 0 then [] else (gPieces (gBody s)).map fun p => piOf p.data.toList
abbrev boxI (nm : ByteArray) (v : Value) : Array Value := #[.string nm, .int .i64 4, .int .i64 0, .string ⟨#[]⟩, v, .slice none 0 0]
/-- What the loop carries. -/
structure GiI (w w2 wr : World) (nm : ByteArray) (ps : List ByteArray) (H j : Nat) (v : Value) : Prop where
  own : wr.ownsRow w2.heap.size 2 1 v j ((ps.take j).map fun p => .int .i64 (piOf p.data.toList))
  box : wr.heap[w.heap.size + 1]? = some (.cells (boxI nm v) 27 (0, 0))
  low : wr.heap[w.heap.size]? = some (.cells #[.string ⟨#[]⟩, .int .i64 0, .int .i64 0, .string ⟨#[]⟩, .slice none 0 0, .slice none 0 0] 27 (0, 0))
  bel : Below w.heap.size w wr
  lt : w.heap.size + 1 < w2.heap.size
  le : w2.heap.size ≤ wr.heap.size
  sl : StrSl wr (some ⟨H, 0, none⟩) ps
  hw : w.heap.size + 1 < H
  h2 : H < w2.heap.size
theorem GiI.step {w w2 wr w3 w4 : World} {nm : ByteArray} {ps : List ByteArray} {H j : Nat} {pa sa : Option Addr} {pc sc : Nat} {z : Int} {o : Obj} (h : GiI w w2 wr nm ps H j (.slice pa j pc)) (hb : Below wr.heap.size wr w3)
    (htk : (ps.take (j + 1)).map (fun p => Value.int .i64 (piOf p.data.toList)) = (ps.take j).map (fun p => Value.int .i64 (piOf p.data.toList)) ++ [.int .i64 z])
    (hown : w4.ownsRow w2.heap.size 2 1 (.slice sa (j + 1) sc) (j + 1) ((ps.take j).map (fun p => Value.int .i64 (piOf p.data.toList)) ++ [.int .i64 z])) (hgr : (w3.alloc o).grownBy w4 (Value.ownBlock (.slice pa j pc))) :
    w4.heap[w.heap.size + 1]? = some (.cells (boxI nm (.slice pa j pc)) 27 (0, 0)) ∧ GiI w w2 (w4.setCell ⟨w.heap.size + 1, 4, none⟩ (.slice sa (j + 1) sc)) nm ps H (j + 1) (.slice sa (j + 1) sc) := by
  have hlt := h.lt
  have hw := h.hw
  have hH := h.h2
  have hle := h.le
  have hsz := hb.size
  have hrow : ∀ k, Value.ownBlock (.slice pa j pc) = some k → w2.heap.size ≤ k := fun k hk => (h.own.lt k hk).1
  have hrow' : ∀ k, Value.ownBlock (.slice sa (j + 1) sc) = some k → w2.heap.size ≤ k := fun k hk => (hown.lt k hk).1
  have hbox : w4.heap[w.heap.size + 1]? = some (.cells (boxI nm (.slice pa j pc)) 27 (0, 0)) := by
    rw [hgr.block (w.heap.size + 1) (by simp; omega) (fun e => by have := hrow _ e.symm; omega)]
    exact heap_alloc_old (blkBelow h.box hb) _
  have hlow : w4.heap[w.heap.size]? = some (.cells #[.string ⟨#[]⟩, .int .i64 0, .int .i64 0, .string ⟨#[]⟩, .slice none 0 0, .slice none 0 0] 27 (0, 0)) := by
    rw [hgr.block w.heap.size (by simp; omega) (fun e => by have := hrow _ e.symm; omega)]
    exact heap_alloc_old (blkBelow h.low hb) _
  have hs4 : StrSl w4 (some ⟨H, 0, none⟩) ps := ((h.sl.below hb).below ((Below.refl _ w3).alloc (Nat.le_refl _) o)).grown hgr (fun x hx e => by cases hx; have := hrow _ e; simp at this; omega)
  have hb4 : Below w.heap.size w w4 := (belowA (below_own' h.bel hb) o).grown hgr (by simp; omega) (fun k hk => by have := hrow k hk; omega)
  have h4 : w2.heap.size ≤ w4.heap.size := by have := hgr.size; simp at this; omega
  have hset := grownBy_setOff w4 (w.heap.size + 1) 4 (.slice sa (j + 1) sc)
  refine ⟨hbox, ?_, ?_, ?_, below_set hb4 (by omega) _ _, hlt, ?_, ?_, hw, hH⟩
  · rw [htk]
    refine hown.kept hset ?_
    cases hv : Value.ownBlock (.slice sa (j + 1) sc) with
    | none => exact .inl rfl
    | some k => exact .inr (fun e => by have := hrow' k hv; have := Option.some.inj e; omega)
  · exact heap_setCell_same w4 (w.heap.size + 1) 4 _ _ _ hbox
  · rw [heap_setCell_other _ _ _ _ (by show w.heap.size ≠ w.heap.size + 1; omega)]; exact hlow
  · exact Nat.le_trans h4 hset.size
  · exact hs4.grown hset (fun x hx e => by cases hx; have := Option.some.inj e; simp at this; omega)
set_option maxRecDepth 100000 in
set_option maxHeartbeats 16000000 in
theorem guess_ints (nm s : ByteArray) (w : World) (hnm : nm.size ≤ 140737488351232) (h0 : 0 < s.size) (hc : (s[0]'h0).toNat = 91) (hs : s.size < 4294967281) (hg : GlobE w) (hb0 : 0 < (gBody s).size) :
    Calls Tryz.prog 43 #[.string nm, .string s] w (GsPost ⟨nm, 4, 0, ⟨#[]⟩, gInts s, []⟩ w) := by
  obtain ⟨i0, hin, hz0, hz1, hz2⟩ := info_parts (show (Tryz.prog.info? 2).map (fun i => (i.zero, i.size, i.bytes)) = some (some (.int .i64 0), 1, 8) by kernel_rfl)
  have hne := not_empty h0
  have h1 : (1 : Int) ≤ (s.size : Int) := by omega
  have h00 : (0 : Int) < (s.size : Int) := by omega
  have hm1 : (1 : Int) ≤ max 1 ((s.size : Int) - 1) := by omega
  have hm2 : max 1 ((s.size : Int) - 1) ≤ (s.size : Int) := by omega
  have mixed := mixed_in
  have HG := Lib.hid hg
  obtain ⟨b, hb⟩ : ∃ b, b = gBody s := ⟨_, rfl⟩
  have hbz : b.size ≤ s.size := by rw [hb]; unfold gBody; rw [ByteArray.size_extract]; omega
  have hbe : b.toList.isEmpty = false := not_empty (by rw [hb]; exact hb0)
  obtain ⟨ps, hps⟩ : ∃ ps, ps = gPieces b := ⟨_, rfl⟩
  obtain ⟨N, hN⟩ : ∃ N, N = Lib.countB b ⟨#[44, 32]⟩ + 1 := ⟨_, rfl⟩
  have hpl : ps.length = N := by rw [hps, hN]; exact Lib.splitB_all ⟨#[44, 32]⟩ (by decide) 0 _ b rfl
  have hNl : N ≤ 4294967282 := by have := Lib.countB_le ⟨#[44, 32]⟩ (by decide) b.size b (Nat.le_refl _); omega
  have hpz : ∀ t ∈ ps, t.size ≤ 140737488355328 := fun t ht => by rw [hps] at ht; have := splitB_size _ _ _ t ht; omega
  have HSP : Hid (∀ W, Below w.heap.size w W → Calls Tryz.prog 73 #[.string b, .string ⟨#[44, 32]⟩] W fun e w' => ∃ H, e = .returned (.slice (some ⟨H, 0, none⟩) N N) ∧ H = W.heap.size ∧ StrSl w' (some ⟨H, 0, none⟩) ps ∧ H < w'.heap.size ∧ Below W.heap.size W w') := Lib.hid fun W h => by
    obtain ⟨m, hm⟩ := (hg.below h).glob.len
    refine (Tryz.strings_Split b ⟨#[44, 32]⟩ m W (by omega) hm (by decide)).mono fun e w' h2 => ?_
    obtain ⟨he, rfl⟩ := h2
    refine ⟨W.heap.size, by rw [he, hN], rfl, .inr ⟨W.heap.size, 0, rfl, by simp, fun j hj => ?_⟩, by simp, (Below.refl _ W).alloc (Nat.le_refl _) _⟩
    have e : (Lib.splitB ⟨#[44, 32]⟩ 0 (Lib.countB b ⟨#[44, 32]⟩) b).map Value.string = ps.map Value.string := by rw [hps]; rfl
    rw [blkCell (heap_alloc_new W _), e, Nat.zero_add, List.getElem?_toArray, List.getElem?_map, List.getElem?_eq_getElem hj]
    rfl
  obtain ⟨zs, hzs⟩ : ∃ zs : List Int, zs = ps.map fun p => piOf p.data.toList := ⟨_, rfl⟩
  have HZL : Hid (N = zs.length) := Lib.hid (by rw [hzs, List.length_map, hpl])
  have HZS := Lib.hid hzs
  have HGI : Hid (gInts s = ps.map fun p => piOf p.data.toList) := Lib.hid (by unfold gInts; rw [if_neg (by omega), hps, hb])
  have HPL := Lib.hid hpl
  have HPZ := Lib.hid hpz
  have hbd : s.extract 1 (max 1 ((s.size : Int) - 1)).toNat = b := by rw [hb]; unfold gBody; congr 1; omega
  have hs4 : (s.size : Int) ≤ 4294967281 := by omega
  have HNM := Lib.hid hnm
  clear hg hb hps hN hpl hpz hb0 hs hzs hnm
  go_enter Tryz.func43, Tryz.ntmps43
  go_wp2_with (go_at_call 73; refine (HSP.out _ ?_).mono ?_; (focus ((repeat (first | (with_reducible refine below_set ?_ (by first | exact Nat.le_refl _ | omega) _ _) | with_reducible exact Below.refl _ _ | with_reducible refine belowA ?_ _ | with_reducible refine belowD ?_ | with_reducible refine belowN ?_ _)); done)); rintro e w2 ⟨H, rfl, hH, hsl, hHl, hb2⟩; have HH := Lib.hid hH; clear hH)
  have hH2 : w.heap.size + 1 < H := by have := HH.out; simp at this; omega
  have HSL := Lib.hid hsl
  have HB2 : Hid (Below w.heap.size w w2) := Lib.hid (by (repeat (first | (with_reducible refine below_set ?_ (by first | exact Nat.le_refl _ | omega) _ _) | with_reducible exact Below.refl _ _ | with_reducible refine belowA ?_ _ | with_reducible refine below_own' ?_ hb2 | with_reducible refine belowD ?_ | with_reducible refine belowN ?_ _)))
  have hlow := (blkBelow (heap_alloc_old (heap_alloc_new w (.cells #[.string ⟨#[]⟩, .int .i64 0, .int .i64 0, .string ⟨#[]⟩, .slice none 0 0, .slice none 0 0] 27)) (.cells (boxI nm (.slice none 0 0)) 27)) hb2)
  have hbox := (blkBelow (heap_alloc_new' (w.alloc (.cells #[.string ⟨#[]⟩, .int .i64 0, .int .i64 0, .string ⟨#[]⟩, .slice none 0 0, .slice none 0 0] 27)) (.cells (boxI nm (.slice none 0 0)) 27) (k := w.heap.size + 1) (by simp)) hb2)
  have hlt2 : w.heap.size + 1 < w2.heap.size := by omega
  have HI0 : Hid (GiI w w2 w2 nm ps H 0 (.slice none 0 0)) := Lib.hid ⟨World.ownsRow_nil _ _ _ _, hbox, hlow, HB2.out, hlt2, Nat.le_refl _, hsl, hH2, hHl⟩
  clear hsl hb2 hlow hbox hH2
  go_loopw [71] (fun i wr => ∃ (j : Nat) (pa : Option Addr) (pc : Nat), i = .int .i64 j ∧ j ≤ N ∧ GiI w w2 wr nm ps H j (.slice pa j pc)) (fun i _ => N - (intOf i).toNat)
  case atStart => exact ⟨0, none, 0, rfl, Nat.zero_le _, HI0.out⟩
  case round =>
    obtain ⟨j, pa, pc, rfl, hj, hI⟩ := hrel
    have HI := Lib.hid hI
    have hq := blkCell hI.box
    have hf := blkFree hI.box
    have hzr : w.heap.size + 1 < wr.heap.size := blkLt hI.box
    have hHr : H < wr.heap.size := Nat.lt_of_lt_of_le hI.h2 hI.le
    clear hI
    rcases Nat.lt_or_ge j N with hlt | hge
    · have hjl : (j : Int) < (N : Int) := by omega
      have hj0 : (0 : Int) ≤ (j : Int) := by omega
      have hjp : j < ps.length := by rw [HPL.out]; exact hlt
      obtain ⟨p0, hp0⟩ : ∃ p0, p0 = ps[j] := ⟨_, rfl⟩
      have hpz0 : p0.size ≤ 140737488355328 := HPZ.out p0 (by rw [hp0]; exact List.getElem_mem _)
      have hcell : wr.cell? ⟨H, j, none⟩ = some (.string p0) := by
        rcases HI.out.sl with h | ⟨g', off', he, -, h3⟩
        · rw [h] at hjp; simp at hjp
        · cases he
          have := h3 j hjp
          rw [Nat.zero_add] at this
          rw [this, hp0]
      have HTK : Hid ((ps.take (j + 1)).map (fun p => Value.int .i64 (piOf p.data.toList)) = (ps.take j).map (fun p => Value.int .i64 (piOf p.data.toList)) ++ [.int .i64 (piOf p0.data.toList)]) := Lib.hid (by rw [List.take_succ_eq_append_getElem hjp, List.map_append, hp0]; rfl)
      obtain ⟨v0, hv0⟩ : ∃ v0, v0 = piOf p0.data.toList := ⟨_, rfl⟩
      have HV0 := Lib.hid hv0
      clear hp0 hv0
      go_wp2_with (first
        | (at_builtin; refine wpList_append_own _ rfl _ _ 24 rfl w2.heap.size 2 i0 (.int .i64 0) 1 8 Tryz.underlying24 hin hz0 hz1 hz2 rfl (by decide) _ _ _ rfl ((HI.out.own.kept (grown_below HB3.out) (by cases hv : Value.ownBlock (.slice pa j pc) <;> simp)).alloc _) ⟨w3.heap.size, 0, none⟩ 1 1 [.int .i64 v0] rfl rfl ?c1 ?c2 ?c3 ?c4 ?c5 ?_)
        | (go_at_call 71; refine (parseInt_all p0 hpz0 _ (HG.out.below ?_)).mono ?_; (focus ((repeat (first | (with_reducible refine below_set ?_ (by first | exact Nat.le_refl _ | omega) _ _) | with_reducible exact Below.refl _ _ | with_reducible refine belowA ?_ _ | with_reducible refine below_own' ?_ HI.out.bel | with_reducible refine belowD ?_ | with_reducible refine belowN ?_ _)); done)); rintro e w3 ⟨er, rfl, hb3⟩; rw [← HV0.out]; have q3 := fun j => (rdCell hb3 (w.heap.size + 1) hzr j).trans (hq j); have f3 := fun j => (rdFree hb3 (w.heap.size + 1) hzr j).trans (hf j); have hz3 := Nat.lt_of_lt_of_le hzr hb3.size; have HB3 := Lib.hid hb3; clear hb3 hq hf))
      case c1 =>
        intro t u hj
        match t, hj with
        | 0, hj => simp at hj; subst hj; simp [Addr.add]
      case c2 => intro u hu; simp at hu; subst hu; rfl
      case c3 => unfold maxLen; omega
      case c4 => omega
      case c5 => have h1 := HI.out.le; have h2 := HB3.out.size; simp; omega
      intro v' w4 hown' hgr _
      obtain ⟨sa, sc, rfl, -⟩ := own_form hown'
      obtain ⟨hbx4, hI4⟩ := HI.out.step (z := v0) HB3.out (by rw [HTK.out, HV0.out]) (by rw [List.map_take]; exact hown') hgr
      have HI4 := Lib.hid hI4
      have q4 := blkCell hbx4
      have f4 := blkFree hbx4
      have hz4 : w.heap.size + 1 < w4.heap.size := blkLt hbx4
      clear hown' hgr hI4 hbx4 q3 f3 hz3 hcell
      go_wp2_with fail
      go_roundw
      case rel => exact ⟨j + 1, sa, sc, by go_num, by omega, HI4.out⟩
      case measure => simp [intOf]; omega
    · obtain rfl : j = N := by omega
      have e := HZL.out
      subst e
      have c0 := blkCell HI.out.low
      have f0 := blkFree HI.out.low
      have hzl : w.heap.size < wr.heap.size := by omega
      go_wp2_with fail
      refine bodyPost_ret (v := av nm 4 0 ⟨#[]⟩ pa zs.length pc none 0 0) (by simp [results, Tryz.results43, go_sem, c0, f0, hq, hf, hzl, hzr]) rfl ?_
      have hgr := six_grown wr w.heap.size 0 ⟨nm, 4, 0, ⟨#[]⟩, pa, zs, pc, none, [], 0⟩
      have hzs : zs = (ps.map fun p => piOf p.data.toList) := HZS.out
      have hown := HI.out.own
      have hlp : zs.length = ps.length := by rw [hzs, List.length_map]
      have hsl : IntSl wr pa zs := by
        refine own_ints (T := 2) (n := zs.length) (c := pc) (base := w2.heap.size) ?_
        rw [List.take_of_length_le (by omega)] at hown
        have e2 : zs.map (Value.int .i64) = ps.map fun p => Value.int .i64 (piOf p.data.toList) := by rw [hzs, List.map_map]; rfl
        rw [e2]
        exact hown
      have hfr : ∀ x, pa = some x → w2.heap.size ≤ x.block ∧ x.block < wr.heap.size := fun x hx => by
        obtain ⟨a', c', he, -, h3⟩ := own_form hown
        cases he
        exact h3 x hx
      have hlt := HI.out.lt
      refine ⟨⟨nm, 4, 0, ⟨#[]⟩, pa, zs, pc, none, [], 0⟩, rfl, ?_, ⟨hsl.grown hgr (fun x hx e => by have := (hfr x hx).1; have := Option.some.inj e; omega), .inl rfl⟩, ?_, fun x hx => ?_, HI.out.bel.grown hgr HI.out.bel.size (fun t e => by cases e; exact Nat.le_refl _)⟩
      · show (⟨nm, 4, 0, ⟨#[]⟩, zs, []⟩ : Dat) = _
        rw [HGI.out, hzs]
      · obtain ⟨a', c', he, hnc, -⟩ := own_form hown
        cases he
        refine ⟨HNM.out, by show (⟨#[]⟩ : ByteArray).size ≤ _; decide, by show -9223372036854775808 ≤ (0 : Int) ∧ (0 : Int) ≤ 9223372036854775807; omega, by show -9223372036854775808 ≤ (4 : Int) ∧ (4 : Int) ≤ 9223372036854775807; omega, hnc, fun z hz => ?_, ?_, Nat.le_refl _, by simp, by simp⟩
        · have hz' : z ∈ zs := hz
          rw [hzs] at hz'
          obtain ⟨p, -, rfl⟩ := List.mem_map.1 hz'
          exact pi_range _
        · show zs.length * 8 ≤ 140737488351232
          omega
      · rcases hx with hx | hx
        · have h3 := hfr x hx
          have h4 := hgr.size
          exact ⟨by omega, Nat.lt_of_lt_of_le h3.2 h4⟩
        · cases hx
end Go.Proofs.YtmepjbjmjbpchaaGreatDoor
end
section
/- attrs.guess at a string in round brackets, at one of empty brackets, at a name's sign. -/
namespace Go.Proofs.YtmepjbjmjbpchaaGreatDoor
open Go Go.RowKit Go.Sort
set_option linter.unusedVariables false
set_option linter.unusedSimpArgs false

/-- The texts that types.Split gives. -/
def gTexts (s : ByteArray) : List ByteArray :=
  match bodyOf s.data.toList with
  | none => []
  | some l => if l = [] then [] else if okPieces ⟨l.toArray⟩ then piecesOf ⟨l.toArray⟩ else []
def SpX (s : ByteArray) (w : World) (e : Ending) (w' : World) : Prop :=
  ∃ (sa : Option Addr) (n c : Nat) (er : Int), e = .returned (.tuple #[.slice sa n c, .int .i64 er]) ∧ n = (gTexts s).length ∧ n ≤ c ∧ StrSl w' sa (gTexts s) ∧ (∀ x, sa = some x → w.heap.size ≤ x.block ∧ x.block < w'.heap.size) ∧ Below w.heap.size w w'
theorem SpX.nil {s : ByteArray} {w w' : World} {e : Ending} {er : Int} (h : gTexts s = []) (he : e = .returned (.tuple #[.slice none 0 0, .int .i64 er])) (hb : Below w.heap.size w w') : SpX s w e w' :=
  ⟨none, 0, 0, er, he, by rw [h]; rfl, Nat.le_refl _, .inl h, (fun x hx => by cases hx), hb⟩
set_option maxRecDepth 100000 in
set_option maxHeartbeats 2000000 in
theorem splitX_good (s : ByteArray) (w : World) (hs : s.size < 4294967281) (m : Int) (hm : w.cell? ⟨0, 0, none⟩ = some (.int .i64 m)) (b : ByteArray) (hb : bodyOf s.data.toList = some b.data.toList) (hne : b.data.toList ≠ []) (hok : okPieces b = true) : Calls Tryz.prog 74 #[.string s] w (SpX s w) := by
  have HB := Lib.hid hb
  obtain ⟨hp, hu, he, h2⟩ := bodyOf_some hb
  have hl : s.data.toList.length = s.size := by simp
  rw [hl] at h2
  have h2' : 2 ≤ (s.size : Int) := by omega
  have HP := Lib.hid hp
  have HU := Lib.hid hu
  have HE := Lib.hid he
  have hbs : b.size < 4294967281 := by
    have := congrArg List.length he
    simp at this; omega
  have hemp : b.toList.isEmpty = false := by
    rw [List.isEmpty_eq_false_iff]; intro h; exact hne ((toList_nil_iff b).1 h)
  have HN := Lib.hid hne
  have hcb : Lib.countB b ⟨#[44, 32]⟩ ≤ b.size := Lib.countB_le ⟨#[44, 32]⟩ (by decide) b.size b (Nat.le_refl _)
  have hpl : (piecesOf b).length = Lib.countB b ⟨#[44, 32]⟩ + 1 := Lib.splitB_all ⟨#[44, 32]⟩ (by decide) 0 _ b rfl
  have hps : ∀ t ∈ piecesOf b, t.size ≤ 140737488355328 := fun t ht => by have := splitB_size _ _ _ t ht; omega
  have hgt : gTexts s = piecesOf b := by
    unfold gTexts
    rw [hb]
    simp only
    rw [if_neg hne]
    have : (⟨b.data.toList.toArray⟩ : ByteArray) = b := by cases b; simp
    rw [this, if_pos hok]
  have HGT := Lib.hid hgt
  unfold okPieces at hok
  simp only [Bool.and_eq_true, decide_eq_true_eq, Bool.not_eq_true'] at hok
  obtain ⟨hok1, hbad⟩ := hok
  obtain ⟨N, hN⟩ : ∃ N, N = Lib.countB b ⟨#[44, 32]⟩ := ⟨_, rfl⟩
  rw [← hN] at hpl hcb
  have HPL := Lib.hid hpl
  have HPS := Lib.hid hps
  have HCN := Lib.hid hN
  have hpc : piecesOf b = Lib.splitB ⟨#[44, 32]⟩ 0 N b := by rw [hN]; rfl
  have hsl : StrSl (w.alloc (.cells ((Lib.splitB ⟨#[44, 32]⟩ 0 N b).map Value.string).toArray 9)) (some ⟨w.heap.size, 0, none⟩) (piecesOf b) := .inr ⟨w.heap.size, 0, rfl, by simp, fun j hj => by
    rw [blkCell (heap_alloc_new w _), ← hpc]; simp [hj]⟩
  clear hpc
  have HSL := Lib.hid hsl
  have hn' : (N : Int) + 1 ≤ 100 := by omega
  have HCF := Lib.hid (contains_split (some ⟨w.heap.size, 0, none⟩) (N + 1) (piecesOf b) _ HSL.out (by omega) HPS.out)
  rw [hpl] at HCF
  have HBAD := Lib.hid hbad
  have hs1 : s.size ≤ 9223372036854775807 := by omega
  clear hb hl hp hu he hne hps hN hsl hbad hpl hgt hok1 hs
  go_enter Tryz.func74, Tryz.ntmps74
  go_wp2_with (first
    | (go_at_call 95; refine (cutPrefix_yes _ _ _ HP.out).mono ?_; rintro e w' ⟨t, rfl, ht, rfl⟩)
    | (go_at_call 96; refine (cutSuffix_yes _ _ _ ?_ ?_).mono ?_; (have := congrArg List.length ht.out; simp at this; omega); (rw [ht.out]; exact HU.out); rintro e w' ⟨t2, rfl, ht2, rfl⟩; (have hnil : t2 = b := ByteArray.ext (by rw [← Array.toList_inj, ht2.out, ht.out]; exact HE.out.symm)); subst hnil)
    | (go_at_call 73; refine (Tryz.strings_Split _ _ m _ hbs hm (by decide)).mono ?_; rw [← HCN.out]; rintro e w' ⟨rfl, rfl⟩)
    | (go_at_call 97; refine HCF.out.mono ?_; rintro e w2 ⟨rfl, hb2⟩; rw [HBAD.out]))
  all_goals
    go_ret2
    exact ⟨some ⟨w.heap.size, 0, none⟩, N + 1, N + 1, 0, rfl, by rw [HGT.out, HPL.out], Nat.le_refl _, by rw [HGT.out]; exact HSL.out.below hb2, fun x hx => by cases hx; have := hb2.size; simp at this; exact ⟨Nat.le_refl _, by show w.heap.size < _; omega⟩, (((Below.refl _ w).alloc (Nat.le_refl _) _).trans (hb2.mono (by simp)))⟩
theorem splitX (s : ByteArray) (w : World) (hs : s.size < 4294967281) (hg : Glob w) : Calls Tryz.prog 74 #[.string s] w (SpX s w) := by
  have hall := split_all s w hs hg
  cases hb : bodyOf s.data.toList with
  | none =>
    refine hall.mono fun e w' h => ?_
    obtain ⟨h1, h2⟩ := h
    rw [hb] at h2
    exact SpX.nil (by unfold gTexts; rw [hb]) h2 h1
  | some l =>
    by_cases hl : l = []
    · refine hall.mono fun e w' h => ?_
      obtain ⟨h1, h2⟩ := h
      rw [hb] at h2
      simp only [if_pos hl] at h2
      exact SpX.nil (by unfold gTexts; rw [hb]; simp only; rw [if_pos hl]) h2 h1
    · cases hk : okPieces ⟨l.toArray⟩ with
      | true =>
        obtain ⟨m, hm⟩ := hg.len
        exact splitX_good s w hs m hm ⟨l.toArray⟩ (by rw [hb]) (by simpa using hl) hk
      | false =>
        refine hall.mono fun e w' h => ?_
        obtain ⟨h1, h2⟩ := h
        rw [hb] at h2
        simp only [if_neg hl, hk, Bool.false_eq_true, if_false] at h2
        exact SpX.nil (by unfold gTexts; rw [hb]; simp only; rw [if_neg hl, hk]; rfl) h2 h1
theorem gTexts_size {s : ByteArray} : ∀ t ∈ gTexts s, t.size ≤ s.size := by
  intro t ht
  unfold gTexts at ht
  split at ht
  · cases ht
  · rename_i l hb
    split at ht
    · cases ht
    · split at ht
      · have h1 := splitB_size _ _ _ t ht
        obtain ⟨-, -, he, h2⟩ := bodyOf_some hb
        have h3 := congrArg List.length he
        simp at h3
        have h4 : (⟨l.toArray⟩ : ByteArray).size = l.length := by simp [ByteArray.size]
        omega
      · cases ht
theorem gTexts_len {s : ByteArray} : (gTexts s).length ≤ 100 := by
  unfold gTexts
  split
  · simp
  · split
    · simp
    · split
      · rename_i h
        unfold okPieces at h
        simp only [Bool.and_eq_true, decide_eq_true_eq] at h
        exact h.1
      · simp
end Go.Proofs.YtmepjbjmjbpchaaGreatDoor
end
section
/- attrs.guess at all strings but quoted ones: what it gives. -/
namespace Go.Proofs.YtmepjbjmjbpchaaGreatDoor
open Go Go.RowKit Go.Sort
set_option linter.unusedVariables false
set_option linter.unusedSimpArgs false

theorem gs_flat {nm tx : ByteArray} {k n : Int} {w w' : World} {e : Ending} (h1 : nm.size ≤ 140737488351232) (h2 : tx.size ≤ 140737488351232) (h3 : -9223372036854775808 ≤ n ∧ n ≤ 9223372036854775807) (h4 : -9223372036854775808 ≤ k ∧ k ≤ 9223372036854775807)
    (he : e = .returned (av nm k n tx none 0 0 none 0 0)) (hb : Below w.heap.size w w') : GsPost ⟨nm, k, n, tx, [], []⟩ w e w' :=
  ⟨⟨nm, k, n, tx, none, [], 0, none, [], 0⟩, he, rfl, ⟨.inl rfl, .inl rfl⟩, ⟨h1, h2, h3, h4, Nat.le_refl _, by simp, by simp, Nat.le_refl _, by simp, by simp⟩, (fun x hx => by rcases hx with hx | hx <;> cases hx), hb⟩
set_option maxRecDepth 100000 in
set_option maxHeartbeats 4000000 in
theorem guess_none (nm s : ByteArray) (w : World) (h0 : 0 < s.size) (hc : (s[0]'h0).toNat = 91) (hs : s.size < 4294967281) (hb0 : (gBody s).size = 0) :
    Calls Tryz.prog 43 #[.string nm, .string s] w fun e w' => e = .returned (av nm 4 0 ⟨#[]⟩ none 0 0 none 0 0) ∧ Below w.heap.size w w' := by
  have hne := not_empty h0
  have h1 : (1 : Int) ≤ (s.size : Int) := by omega
  have h00 : (0 : Int) < (s.size : Int) := by omega
  have hm1 : (1 : Int) ≤ max 1 ((s.size : Int) - 1) := by omega
  have hm2 : max 1 ((s.size : Int) - 1) ≤ (s.size : Int) := by omega
  have mixed := mixed_in
  have hbe : gBody s = ⟨#[]⟩ := by
    apply ByteArray.ext
    have h2 : (gBody s).data.size = 0 := hb0
    exact Array.eq_empty_of_size_eq_zero h2
  have hbd : s.extract 1 (max 1 ((s.size : Int) - 1)).toNat = ⟨#[]⟩ := by rw [← hbe]; unfold gBody; congr 1; omega
  have hs4 : (s.size : Int) ≤ 4294967281 := by omega
  clear hbe hb0
  go_enter Tryz.func43, Tryz.ntmps43
  go_wp2_with fail
  refine bodyPost_ret (v := av nm 4 0 ⟨#[]⟩ none 0 0 none 0 0) (by simp [results, Tryz.results43, go_sem]) rfl ?_
  exact ⟨rfl, by (repeat (first | (with_reducible refine below_set ?_ (by first | exact Nat.le_refl _ | omega) _ _) | with_reducible exact Below.refl _ _ | with_reducible refine belowA ?_ _ | with_reducible refine belowD ?_ | with_reducible refine belowN ?_ _))⟩
set_option maxRecDepth 100000 in
set_option maxHeartbeats 4000000 in
theorem guess_types (nm s : ByteArray) (w : World) (hnm : nm.size ≤ 140737488351232) (h0 : 0 < s.size) (hc : (s[0]'h0).toNat = 40) (hs : s.size < 4294967281) (hg : GlobE w) :
    Calls Tryz.prog 43 #[.string nm, .string s] w (GsPost ⟨nm, 5, 0, ⟨#[]⟩, [], gTexts s⟩ w) := by
  have hne := not_empty h0
  have h1 : (1 : Int) ≤ (s.size : Int) := by omega
  have h00 : (0 : Int) < (s.size : Int) := by omega
  have hm1 : (1 : Int) ≤ max 1 ((s.size : Int) - 1) := by omega
  have hm2 : max 1 ((s.size : Int) - 1) ≤ (s.size : Int) := by omega
  have mixed := mixed_in
  have hs4 : (s.size : Int) ≤ 4294967281 := by omega
  have HG := Lib.hid hg
  have HNM := Lib.hid hnm
  have HSZ : Hid (∀ t ∈ gTexts s, t.size ≤ 140737488351232) := Lib.hid fun t ht => by have := gTexts_size t ht; omega
  clear hg hnm
  go_enter Tryz.func43, Tryz.ntmps43
  go_wp2_with (go_at_call 74; refine (splitX s _ hs (HG.out.glob.below ?_)).mono ?_; (focus ((repeat (first | (with_reducible refine below_set ?_ (by first | exact Nat.le_refl _ | omega) _ _) | with_reducible exact Below.refl _ _ | with_reducible refine belowA ?_ _ | with_reducible refine belowD ?_ | with_reducible refine belowN ?_ _)); done)); rintro e w2 ⟨sa, n, c, er, rfl, hn, hnc, hsl, hfr, hb2⟩; have HN := Lib.hid hn; have HSL := Lib.hid hsl; have HFR := Lib.hid hfr; clear hn hsl hfr; have c0 := rdCell hb2 w.heap.size (by first | (simp; done) | (simp; omega)); have f0 := rdFree hb2 w.heap.size (by first | (simp; done) | (simp; omega)); have e0 := rdCell hb2 (w.heap.size + 1) (by first | (simp; done) | (simp; omega)); have g0 := rdFree hb2 (w.heap.size + 1) (by first | (simp; done) | (simp; omega)); have hzw2 : w.heap.size + 1 < w2.heap.size := (by have := Below.size hb2; simp at this; omega))
  have hb9 : Below w.heap.size w w2 := by (repeat (first | (with_reducible refine below_set ?_ (by first | exact Nat.le_refl _ | omega) _ _) | with_reducible exact Below.refl _ _ | with_reducible refine belowA ?_ _ | with_reducible refine below_own' ?_ hb2 | with_reducible refine belowD ?_ | with_reducible refine belowN ?_ _))
  have en := HN.out
  subst en
  refine bodyPost_ret (v := av nm 5 0 ⟨#[]⟩ none 0 0 sa (gTexts s).length c) (by simp [results, Tryz.results43, go_sem, c0, f0, e0, g0, hzw2, show w.heap.size < w2.heap.size by omega]) rfl ?_
  have hset := grownBy_setOff w2 (w.heap.size + 1) 5 (.slice sa (gTexts s).length c)
  have hgr := six_grown (w2.setCell ⟨w.heap.size + 1, 5, none⟩ (.slice sa (gTexts s).length c)) w.heap.size 0 ⟨nm, 5, 0, ⟨#[]⟩, none, [], 0, sa, gTexts s, c⟩
  have hlen := gTexts_len (s := s)
  have hb3 : Below w.heap.size w (w2.setCell ⟨w.heap.size + 1, 5, none⟩ (.slice sa (gTexts s).length c)) := below_set hb9 (by omega) _ _
  have hfr := HFR.out
  refine ⟨⟨nm, 5, 0, ⟨#[]⟩, none, [], 0, sa, gTexts s, c⟩, rfl, rfl, ⟨.inl rfl, ((HSL.out.grown hset fun x hx e => ?_).grown hgr fun x hx e => ?_)⟩, ⟨HNM.out, by show (⟨#[]⟩ : ByteArray).size ≤ _; decide, by show -9223372036854775808 ≤ (0 : Int) ∧ (0 : Int) ≤ 9223372036854775807; omega, by show -9223372036854775808 ≤ (5 : Int) ∧ (5 : Int) ≤ 9223372036854775807; omega, Nat.le_refl _, by simp, by simp, hnc, HSZ.out, by show (gTexts s).length * 16 ≤ _; omega⟩, fun x hx => ?_, hb3.grown hgr hb3.size (fun t e => by cases e; exact Nat.le_refl _)⟩
  · have h2 := (hfr x hx).1
    have h3 := Option.some.inj e
    simp at h2; omega
  · have h2 := (hfr x hx).1
    have h3 := Option.some.inj e
    simp at h2; omega
  · rcases hx with hx | hx
    · cases hx
    · have h3 := hfr x hx
      have h4 := hgr.size
      have h5 := hset.size
      exact ⟨by have := h3.1; simp at this; omega, Nat.lt_of_lt_of_le h3.2 (Nat.le_trans h5 h4)⟩
set_option maxRecDepth 100000 in
set_option maxHeartbeats 4000000 in
theorem guess_ty (nm s : ByteArray) (w : World) (h0 : 0 < s.size) (hc : (s[0]'h0).toNat ∉ [34, 64, 91, 40, 45]) (hd : ¬ (48 ≤ (s[0]'h0).toNat ∧ (s[0]'h0).toNat ≤ 57)) (hs : s.size ≤ 140737488355328) :
    Calls Tryz.prog 43 #[.string nm, .string s] w fun e w' => e = .returned (av nm 3 0 s none 0 0 none 0 0) ∧ Below w.heap.size w w' := by
  have hne := not_empty h0
  have h1 : (1 : Int) ≤ (s.size : Int) := by omega
  have h00 : (0 : Int) < (s.size : Int) := by omega
  have hm1 : (1 : Int) ≤ max 1 ((s.size : Int) - 1) := by omega
  have hm2 : max 1 ((s.size : Int) - 1) ≤ (s.size : Int) := by omega
  have mixed := mixed_in
  obtain ⟨c, hcd⟩ : ∃ c, c = (s[0]'h0).toNat := ⟨_, rfl⟩
  rw [← hcd] at hc hd
  simp only [List.mem_cons, List.not_mem_nil, or_false, not_or] at hc
  obtain ⟨c1, c2, c3, c4, c5⟩ := hc
  have hcx : (s[0]'h0).toNat = c := hcd.symm
  have b1 : ((c : Int) == 34) = false := by simp; omega
  have b2 : ((c : Int) == 64) = false := by simp; omega
  have b3 : ((c : Int) == 91) = false := by simp; omega
  have b4 : ((c : Int) == 40) = false := by simp; omega
  have b5 : ((c : Int) == 45) = false := by simp; omega
  have hcs : c < 48 ∨ (48 ≤ c ∧ 57 < c) := by omega
  clear hcd c1 c2 c3 c4 c5 hd
  rcases hcs with h6 | ⟨h6, h7⟩
  · have b6 : ¬ (48 : Int) ≤ (c : Int) := by omega
    clear h6
    go_enter Tryz.func43, Tryz.ntmps43
    go_wp2_with fail
    refine bodyPost_ret (v := av nm 3 0 s none 0 0 none 0 0) (by simp [results, Tryz.results43, go_sem]) rfl ?_
    exact ⟨rfl, by (repeat (first | (with_reducible refine below_set ?_ (by first | exact Nat.le_refl _ | omega) _ _) | with_reducible exact Below.refl _ _ | with_reducible refine belowA ?_ _ | with_reducible refine belowD ?_ | with_reducible refine belowN ?_ _))⟩
  · have b6 : (48 : Int) ≤ (c : Int) := by omega
    have b7 : ¬ (c : Int) ≤ 57 := by omega
    clear h6 h7
    go_enter Tryz.func43, Tryz.ntmps43
    go_wp2_with fail
    refine bodyPost_ret (v := av nm 3 0 s none 0 0 none 0 0) (by simp [results, Tryz.results43, go_sem]) rfl ?_
    exact ⟨rfl, by (repeat (first | (with_reducible refine below_set ?_ (by first | exact Nat.le_refl _ | omega) _ _) | with_reducible exact Below.refl _ _ | with_reducible refine belowA ?_ _ | with_reducible refine belowD ?_ | with_reducible refine belowN ?_ _))⟩
end Go.Proofs.YtmepjbjmjbpchaaGreatDoor
end
