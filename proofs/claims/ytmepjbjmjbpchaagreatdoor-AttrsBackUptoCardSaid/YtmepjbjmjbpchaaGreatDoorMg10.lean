/- Texts of this claim, laid together: Ad1, Ad2, Ax0, Bld, BldB, TyD, Ar3. -/
import Derived.Test.YtmepjbjmjbpchaaGreatDoorShelf
import Derived.Shelf.Strings.Builder1
import Derived.Lib.AppendIntMem
import Derived.Test.YtmepjbjmjbpchaaGreatDoorMg4
import Derived.Test.YtmepjbjmjbpchaaGreatDoorMg5
import Derived.Test.YtmepjbjmjbpchaaGreatDoorMg7
import Derived.Test.YtmepjbjmjbpchaaGreatDoorMg9
section
/- attrs.Merge, attrs.Set. -/
namespace Go.Proofs.YtmepjbjmjbpchaaGreatDoor
open Go Go.RowKit Go.Sort
set_option linter.unusedVariables false
set_option linter.unusedSimpArgs false

theorem AtrOwn.mono {w : World} {base base' : Nat} {v : Value} {l : List Atr} (h : AtrOwn w base v l) (hb : base' ≤ base) : AtrOwn w base' v l :=
  ⟨⟨h.own.1, h.own.2.imp id fun ⟨g, cap, cur, a1, a2, r⟩ => ⟨g, cap, cur, a1, Nat.le_trans hb a2, r⟩⟩, h.lies, h.fits, h.off, h.nil⟩
theorem AtrOwn.grown {w w' : World} {base : Nat} {v : Value} {l : List Atr} {row : Option Nat} (h : AtrOwn w base v l) (hg : w.grownBy w' row) (hne : v.ownBlock = none ∨ v.ownBlock ≠ row)
    (hl : ∀ a ∈ l, ∀ x, (a.ia = some x ∨ a.ta = some x) → row ≠ some x.block) : AtrOwn w' base v l :=
  ⟨h.own.kept hg hne, fun a ha => (h.lies a ha).grown hg (hl a ha), h.fits, fun a ha x hx => ⟨Nat.lt_of_lt_of_le (h.off a ha x hx).1 hg.size, (h.off a ha x hx).2⟩, h.nil⟩
/-- The list v2 lies apart from the row of v. -/
def Apart (v v2 : Value) (m : List Atr) : Prop := ∀ g, v.ownBlock = some g → v2.ownBlock ≠ some g ∧ ∀ b ∈ m, ∀ x, (b.ia = some x ∨ b.ta = some x) → x.block ≠ g
theorem mergeD_rises : ∀ (m l : List Dat), RisesD l → RisesD (mergeD l m)
  | [], l, h => h
  | d :: m, l, h => mergeD_rises m (setD l d) (setD_rises h d)
theorem mergeD_len : ∀ (m l : List Dat), (mergeD l m).length ≤ l.length + m.length
  | [], l => Nat.le_refl _
  | d :: m, l => by
    have h1 := mergeD_len m (setD l d)
    have h2 := setD_len l d
    show (mergeD (setD l d) m).length ≤ _
    simp; omega
theorem mergeD_snoc (l m : List Dat) (d : Dat) : mergeD l (m ++ [d]) = setD (mergeD l m) d := by unfold mergeD; rw [List.foldl_append]; rfl
structure MgI (w : World) (l m : List Dat) (v2 : Value) (m1 : List Atr) (j : Nat) (v : Value) (l' : List Atr) (wr : World) : Prop where
  out : AtrOwn wr w.heap.size v l'
  arg : AtrOwn wr w.heap.size v2 m1
  off : Apart v v2 m1
  dat : l'.map Atr.dat = mergeD l (m.take j)
  below : Below w.heap.size w wr
theorem MgI.step {w W1 w5 : World} {l m : List Dat} {v2 v v' : Value} {m1 l' l'' : List Atr} {j : Nat} {a0 : Atr} (h : MgI w l m v2 m1 j v l' W1) (hm : m1.map Atr.dat = m) (hj : j < m1.length) (ha : a0 = m1[j])
    (ho : AtrOwn w5 w.heap.size v' l'') (hd : l''.map Atr.dat = setD (l'.map Atr.dat) a0.dat) (hp : PutBlk W1 w5 v v') : MgI w l m v2 m1 (j + 1) v' l'' w5 := by
  have hdat : l''.map Atr.dat = mergeD l (m.take (j + 1)) := by
    have hjm : j < m.length := by rw [← hm]; simpa using hj
    rw [List.take_succ_eq_append_getElem hjm, mergeD_snoc, hd, h.dat]
    congr 1
    subst hm; rw [ha]; simp
  rcases hp with ⟨rfl, g, hg, hgr⟩ | ⟨g, hg, hge, hb⟩
  · have hap := h.off g hg
    exact ⟨ho, h.arg.grown hgr (.inr hap.1) (fun b hb x hx e => hap.2 b hb x hx (Option.some.inj e).symm), h.off, hdat, h.below.grown hgr h.below.size (fun k hk => by cases hk; exact (h.out.own.lt _ hg).1)⟩
  · refine ⟨ho, h.arg.below hb, fun k hk => ?_, hdat, below_own' h.below hb⟩
    rw [hg] at hk; cases hk
    exact ⟨fun e => by have := (h.arg.own.lt _ e).2; omega, fun b hb x hx e => by have := (h.arg.off b hb x hx).1; omega⟩

def MgPost (l m : List Atr) (w : World) (e : Ending) (w' : World) : Prop :=
  Below w.heap.size w w' ∧ if rightL l && rightL m then (if 100 < (mergeD (l.map Atr.dat) (m.map Atr.dat)).length then e = .returned (.tuple #[.slice none 0 0, .int .i64 2]) else
    ∃ v l', e = .returned (.tuple #[v, .int .i64 0]) ∧ AtrOwn w' w.heap.size v l' ∧ l'.map Atr.dat = mergeD (l.map Atr.dat) (m.map Atr.dat)) else e = .returned (.tuple #[.slice none 0 0, .int .i64 20])

set_option maxRecDepth 100000 in
set_option maxHeartbeats 8000000 in
theorem merge_no (p q : Option Addr) (c d : Nat) (l m : List Atr) (w : World) (hs : AtrSl w p l) (hs2 : AtrSl w q m) (hl : l.length ≤ 100000000000000) (hm : m.length ≤ 100000000000000) (h : (rightL l && rightL m) = false) :
    Calls Tryz.prog 18 #[.slice p l.length c, .slice q m.length d] w (MgPost l m w) := by
  have HP : ∀ w', Below w.heap.size w w' → MgPost l m w (.returned (.tuple #[.slice none 0 0, .int .i64 20])) w' := fun w' hb => ⟨hb, by rw [h]; rfl⟩
  have HP' := Lib.hid HP
  have HC := Lib.hid (check_any' p c l w hs hl)
  have HS2 := Lib.hid hs2
  clear HP hs hs2
  cases hr : rightL l with
  | false =>
    have HR := Lib.hid hr
    clear h hr
    go_enter Tryz.func18, Tryz.ntmps18
    go_wp2_with (go_at_call 19; refine HC.out.mono ?_; rintro e w1 ⟨rfl, hb1⟩; rw [HR.out]; simp only [Bool.false_eq_true, if_false])
    go_ret2
    exact HP'.out _ hb1
  | true =>
    have HR := Lib.hid hr
    have HR2 : Hid (rightL m = false) := Lib.hid (by rw [hr] at h; simpa using h)
    clear h hr
    go_enter Tryz.func18, Tryz.ntmps18
    go_wp2_with (first
      | (go_at_call 19; have tok := tok1; clear tok tok1; refine (check_any' q d m w1 (HS2.out.below hb1) hm).mono ?_; rintro e w2 ⟨rfl, hb2⟩; rw [HR2.out]; simp only [Bool.false_eq_true, if_false])
      | (go_at_call 19; refine HC.out.mono ?_; rintro e w1 ⟨rfl, hb1⟩; rw [HR.out]; simp only [if_true]; have tok1 : True := trivial))
    go_ret2
    exact HP'.out _ (below_own' hb1 hb2)
theorem right_len {l : List Atr} (h : rightL l = true) : l.length ≤ 100 := by
  unfold rightL at h; rw [Bool.and_eq_true] at h; simpa using h.1
theorem dat_len {l l' : List Atr} (h : l'.map Atr.dat = l.map Atr.dat) : l'.length = l.length := by simpa using congrArg List.length h

set_option maxRecDepth 100000 in
set_option maxHeartbeats 8000000 in
theorem merge_yes (p q : Option Addr) (c d : Nat) (l m : List Atr) (w : World) (hs : AtrSl w p l) (hs2 : AtrSl w q m) (h1 : rightL l = true) (h2 : rightL m = true) :
    Calls Tryz.prog 18 #[.slice p l.length c, .slice q m.length d] w (MgPost l m w) := by
  have hl := right_len h1
  have hm := right_len h2
  have HC := Lib.hid (check_any' p c l w hs (by omega))
  have HS := Lib.hid hs
  have HS2 := Lib.hid hs2
  have HR := Lib.hid h1
  have HR2 := Lib.hid h2
  clear hs hs2 h1 h2
  go_enter Tryz.func18, Tryz.ntmps18
  go_wp2_with (first
    | (go_at_call 39; have tok := tok3; clear tok tok3; refine Calls.mono (attrs_any q d m _ (HS2.out.below (below_own' (below_own' HB1.out HB2.out) HB3.out)) (by omega)) ?_; rintro e w4 ⟨v2, m1, rfl, ho2, hd2, hfr2, hb4⟩; obtain ⟨pv2, pc2, rfl, -⟩ := own_form ho2.own; have HB4 := Lib.hid hb4; have HO2 := Lib.hid ho2; have HD2 := Lib.hid hd2; have HFR2 := Lib.hid hfr2; clear hb4 ho2 hd2 hfr2)
    | (go_at_call 39; have tok := tok2; clear tok tok2; refine Calls.mono (attrs_any p c l _ (HS.out.below (below_own' HB1.out HB2.out)) (by omega)) ?_; rintro e w3 ⟨v1, l1, rfl, ho1, hd1, -, hb3⟩; have HB3 := Lib.hid hb3; have HO1 := Lib.hid ho1; have HD1 := Lib.hid hd1; clear hb3 ho1 hd1; have tok3 : True := trivial)
    | (go_at_call 19; have tok := tok1; clear tok tok1; refine (check_any' q d m w1 (HS2.out.below HB1.out) (by omega)).mono ?_; rintro e w2 ⟨rfl, hb2⟩; rw [HR2.out]; simp only [if_true]; have HB2 := Lib.hid hb2; clear hb2; have tok2 : True := trivial)
    | (go_at_call 19; refine HC.out.mono ?_; rintro e w1 ⟨rfl, hb1⟩; rw [HR.out]; simp only [if_true]; have HB1 := Lib.hid hb1; clear hb1; have tok1 : True := trivial))
  obtain ⟨M, hM⟩ : ∃ M, M = m1.length := ⟨_, rfl⟩
  have hM2 : Hid (M = m.length) := Lib.hid (by rw [hM]; exact dat_len HD2.out)
  have hM3 : M ≤ 100 := by rw [hM2.out]; exact hm
  rw [← hM]
  have HM := Lib.hid hM
  clear hM
  go_loopw [6, 22] (fun v i wr => ∃ (j : Nat) (l' : List Atr), i = .int .i64 j ∧ j ≤ M ∧ MgI w (l.map Atr.dat) (m.map Atr.dat) (.slice pv2 m1.length pc2) m1 j v l' wr) (fun _ i _ => M - (intOf i).toNat)
  case atStart =>
    have hb4 : Below w.heap.size w w4 := below_own' (below_own' (below_own' HB1.out HB2.out) HB3.out) HB4.out
    have hb24 : w.heap.size ≤ w2.heap.size := (below_own' HB1.out HB2.out).size
    refine ⟨0, l1, rfl, Nat.zero_le _, (HO1.out.below HB4.out).mono hb24, HO2.out.mono (Nat.le_trans hb24 HB3.out.size), fun g hg => ?_, by rw [HD1.out]; rfl, hb4⟩
    have hg3 := (HO1.out.own.lt g hg).2
    refine ⟨fun e => ?_, fun b hb x hx e => ?_⟩
    · have := (HO2.out.own.lt g e).1; omega
    · have := HFR2.out b hb x hx; omega
  case round =>
    obtain ⟨j, l', rfl, hj, hi⟩ := hrel
    have HI := Lib.hid hi
    obtain ⟨pv, pc, rfl, -⟩ := own_form hi.out.own
    have hll := mergeD_len ((m.map Atr.dat).take j) (l.map Atr.dat)
    rw [← hi.dat] at hll
    have hll2 : l'.length ≤ 200 := by simp at hll; omega
    clear hi hll
    rcases Nat.lt_or_ge j M with hlt | hge
    · have hlt1 : j < m1.length := by rw [← HM.out]; exact hlt
      have hsl := HI.out.arg.sl
      obtain ⟨g, off, rfl, hzg, hrow⟩ := hsl.row hlt1
      obtain ⟨a0, ha0⟩ : ∃ a0, a0 = m1[j] := ⟨_, rfl⟩
      have hcj := hrow _ hlt1
      rw [← ha0] at hcj
      have hmem : a0 ∈ m1 := by rw [ha0]; exact List.getElem_mem _
      have HLI := Lib.hid (hsl.lies a0 hmem)
      have HFI := Lib.hid (hsl.fits a0 hmem)
      have HA0 := Lib.hid ha0
      have hri : Rises l' := (risesD_iff l').2 (by rw [HI.out.dat]; exact mergeD_rises _ _ ((risesD_iff l).1 (rises_of_right HR.out)))
      have hoff : ∀ x, (a0.ia = some x ∨ a0.ta = some x) → x.block < wr.heap.size ∧ (Value.slice pv l'.length pc).ownBlock ≠ some x.block := fun x hx => ⟨(HI.out.arg.off a0 hmem x hx).1, fun e => (HI.out.off _ e).2 a0 hmem x hx rfl⟩
      have HRI := Lib.hid hri
      have HOFF := Lib.hid hoff
      have hj0 : (0 : Int) ≤ (j : Int) := by omega
      have hjl : (j : Int) < (M : Int) := by omega
      clear ha0 hrow hsl hmem hri hoff
      obtain ⟨k0, k1, k2, k3, k4, k5⟩ := hcj
      have hb1 : Below wr.heap.size wr (wr.alloc (.cells (avCells a0.name a0.kind a0.num a0.text a0.ia a0.ints.length a0.ic a0.ta a0.texts.length a0.tc) 27)) := by (repeat (first | (with_reducible refine below_set ?_ (by first | exact Nat.le_refl _ | omega) _ _) | with_reducible exact Below.refl _ _ | with_reducible refine belowA ?_ _ | with_reducible refine belowD ?_ | with_reducible refine belowN ?_ _))
      have HPUT := Lib.hid (put_any (.slice pv l'.length pc) l' w.heap.size a0 _ (HI.out.out.below hb1) (by omega) HRI.out (HLI.out.below hb1) HFI.out (by have := HI.out.below.size; simp; omega) (fun x hx => ⟨Nat.lt_of_lt_of_le (HOFF.out x hx).1 hb1.size, (HOFF.out x hx).2⟩))
      have HI1 : Hid (MgI w (l.map Atr.dat) (m.map Atr.dat) (.slice (some ⟨g, off, none⟩) m1.length pc2) m1 j (.slice pv l'.length pc) l' (wr.alloc (.cells (avCells a0.name a0.kind a0.num a0.text a0.ia a0.ints.length a0.ic a0.ta a0.texts.length a0.tc) 27))) :=
        Lib.hid ⟨HI.out.out.below hb1, HI.out.arg.below hb1, HI.out.off, HI.out.dat, below_own' HI.out.below hb1⟩
      clear hb1
      go_wp2_with (go_at_call 40; refine HPUT.out.mono ?_; rintro e w5 ⟨v', l5, rfl, ho5, hd5, -, hp5⟩; have HI5 := Lib.hid (HI1.out.step HD2.out hlt1 HA0.out ho5 hd5 hp5); clear ho5 hd5 hp5)
      go_roundw
      case rel => exact ⟨j + 1, l5, by go_num, by omega, HI5.out⟩
      case measure => simp [intOf]; omega
    · obtain rfl : j = M := by omega
      have hdat : l'.map Atr.dat = mergeD (l.map Atr.dat) (m.map Atr.dat) := by
        rw [HI.out.dat, List.take_of_length_le (by rw [List.length_map, ← hM2.out]; omega)]
      have hlen : l'.length = (mergeD (l.map Atr.dat) (m.map Atr.dat)).length := by rw [← hdat, List.length_map]
      have HDAT := Lib.hid hdat
      have HLEN := Lib.hid hlen
      clear hdat hlen
      rcases Nat.lt_or_ge 100 l'.length with h100 | h100
      · have h1 : (100 : Int) < (l'.length : Int) := by omega
        go_wp2_with fail
        go_ret2
        refine ⟨HI.out.below, ?_⟩
        rw [HR.out, HR2.out, ← HLEN.out]
        simp only [Bool.and_self, if_true]
        rw [if_pos h100]
        rfl
      · have h1 : ¬ (100 : Int) < (l'.length : Int) := by omega
        go_wp2_with fail
        go_ret2
        refine ⟨HI.out.below, ?_⟩
        rw [HR.out, HR2.out, ← HLEN.out]
        simp only [Bool.and_self, if_true]
        rw [if_neg (by omega)]
        exact ⟨_, l', rfl, HI.out.out, HDAT.out⟩
theorem merge_any (p q : Option Addr) (c d : Nat) (l m : List Atr) (w : World) (hs : AtrSl w p l) (hs2 : AtrSl w q m) (hl : l.length ≤ 100000000000000) (hm : m.length ≤ 100000000000000) :
    Calls Tryz.prog 18 #[.slice p l.length c, .slice q m.length d] w (MgPost l m w) := by
  cases h : (rightL l && rightL m) with
  | false => exact merge_no p q c d l m w hs hs2 hl hm h
  | true =>
    rw [Bool.and_eq_true] at h
    exact merge_yes p q c d l m w hs hs2 h.1 h.2
end Go.Proofs.YtmepjbjmjbpchaaGreatDoor
end
section
/- attrs.Set, attrs.Get. -/
namespace Go.Proofs.YtmepjbjmjbpchaaGreatDoor
open Go Go.RowKit Go.Sort
set_option linter.unusedVariables false
set_option linter.unusedSimpArgs false

theorem atrSl_block {W : World} {G : Nat} {a : Atr} (h : W.heap[G]? = some (.cells (avCells a.name a.kind a.num a.text a.ia a.ints.length a.ic a.ta a.texts.length a.tc) 27 (0, 0))) (hl : a.Lies W) (hf : a.Fits) : AtrSl W (some ⟨G, 0, none⟩) [a] := by
  refine ⟨.inr ⟨G, 0, rfl, blkLt h, fun j hj i hi => ?_⟩, fun b hb => by rw [List.mem_singleton.1 hb]; exact hl, fun b hb => by rw [List.mem_singleton.1 hb]; exact hf⟩
  obtain rfl : j = 0 := by simpa using hj
  rw [blkCell h]
  have hi6 : i = 0 ∨ i = 1 ∨ i = 2 ∨ i = 3 ∨ i = 4 ∨ i = 5 := by omega
  rcases hi6 with rfl | rfl | rfl | rfl | rfl | rfl <;> rfl
theorem MgPost.back {l m : List Atr} {w W w' : World} {e : Ending} (h : MgPost l m W e w') (hb : Below w.heap.size w W) : MgPost l m w e w' := by
  refine ⟨below_own' hb h.1, ?_⟩
  have h2 := h.2
  split at h2
  · rw [if_pos (by assumption)]
    split at h2
    · rw [if_pos (by assumption)]; exact h2
    · rw [if_neg (by assumption)]
      obtain ⟨v, l', he, ho, hd⟩ := h2
      exact ⟨v, l', he, ho.mono hb.size, hd⟩
  · rw [if_neg (by assumption)]; exact h2
set_option maxRecDepth 100000 in
set_option maxHeartbeats 4000000 in
theorem set_any (p : Option Addr) (c : Nat) (l : List Atr) (a : Atr) (w : World) (hs : AtrSl w p l) (hl : l.length ≤ 100000000000000) (ha : a.Lies w) (hf : a.Fits) :
    Calls Tryz.prog 13 #[.slice p l.length c, a.val] w (MgPost l [a] w) := by
  have hb2 : Below w.heap.size w ((w.alloc (.cells (avCells a.name a.kind a.num a.text a.ia a.ints.length a.ic a.ta a.texts.length a.tc) 27)).alloc (.cells (avCells a.name a.kind a.num a.text a.ia a.ints.length a.ic a.ta a.texts.length a.tc) 27)) := by (repeat (first | (with_reducible refine below_set ?_ (by first | exact Nat.le_refl _ | omega) _ _) | with_reducible exact Below.refl _ _ | with_reducible refine belowA ?_ _ | with_reducible refine belowD ?_ | with_reducible refine belowN ?_ _))
  have HM := Lib.hid ((merge_any p (some ⟨w.heap.size + 1, 0, none⟩) c 1 l [a] _ (hs.below hb2) (atrSl_block (heap_alloc_new' _ _ (by simp)) (ha.below hb2) hf) hl (by simp)).mono fun e w' h => h.back hb2)
  clear hb2 hs ha
  go_enter Tryz.func13, Tryz.ntmps13
  have hfin : ∀ e w', MgPost l [a] w e w' → ∃ v n, e = .returned (.tuple #[v, .int .i64 n]) := by
    rintro e w' ⟨_, h⟩
    split at h
    · split at h
      · exact ⟨_, _, h⟩
      · obtain ⟨v, _, h, _⟩ := h; exact ⟨_, _, h⟩
    · exact ⟨_, _, h⟩
  have HFIN := Lib.hid hfin
  clear hfin
  go_wp2_with (go_at_call 18; refine HM.out.mono ?_; intro e w1 hp; obtain ⟨v, n, rfl⟩ := HFIN.out _ _ hp; have HP := Lib.hid hp; clear hp)
  go_ret2
  exact HP.out

def zAt : Value := .agg #[.string ⟨#[]⟩, .int .i64 0, .int .i64 0, .string ⟨#[]⟩, .slice none 0 0, .slice none 0 0]
def GetPost (l : List Atr) (s : ByteArray) (w : World) (e : Ending) (w' : World) : Prop :=
  Below w.heap.size w w' ∧ if rightL l then (if foundB l s then ∃ b : Atr, e = .returned (.tuple #[b.val, .int .i64 0]) ∧ b.Lies w' ∧ b.Fits ∧ (l.map Atr.dat)[lowerB l s]? = some b.dat else e = .returned (.tuple #[zAt, .int .i64 4])) else e = .returned (.tuple #[zAt, .int .i64 20])
set_option maxRecDepth 100000 in
set_option maxHeartbeats 4000000 in
theorem get_no (p : Option Addr) (c : Nat) (l : List Atr) (s : ByteArray) (w : World) (hs : AtrSl w p l) (hl : l.length ≤ 100000000000000) (h : rightL l = false ∨ (rightL l = true ∧ foundB l s = false)) :
    Calls Tryz.prog 34 #[.slice p l.length c, .string s] w (GetPost l s w) := by
  have hb0 : Below w.heap.size w (w.alloc (.cells #[.string ⟨#[]⟩, .int .i64 0, .int .i64 0, .string ⟨#[]⟩, .slice none 0 0, .slice none 0 0] 27)) := by (repeat (first | (with_reducible refine below_set ?_ (by first | exact Nat.le_refl _ | omega) _ _) | with_reducible exact Below.refl _ _ | with_reducible refine belowA ?_ _ | with_reducible refine belowD ?_ | with_reducible refine belowN ?_ _))
  have HC := Lib.hid (check_any' p c l _ (hs.below hb0) hl)
  have HS := Lib.hid hs
  clear hb0 hs
  rcases h with h | ⟨h, h2⟩
  · have HR := Lib.hid h
    have HP : Hid (∀ w', Below w.heap.size w w' → GetPost l s w (.returned (.tuple #[zAt, .int .i64 20])) w') := Lib.hid fun w' hb => ⟨hb, by rw [h]; rfl⟩
    clear h
    go_enter Tryz.func34, Tryz.ntmps34
    go_wp2_with (go_at_call 19; refine HC.out.mono ?_; rintro e w1 ⟨rfl, hb1⟩; rw [HR.out]; simp only [Bool.false_eq_true, if_false]; have c0 := rdCell hb1 w.heap.size (by simp); have f0 := rdFree hb1 w.heap.size (by simp); have hzw1 : w.heap.size < w1.heap.size := (by have := Below.size hb1; simp at this; omega))
    refine bodyPost_ret (v := .tuple #[zAt, .int .i64 20]) (by simp [results, Tryz.results34, go_sem, c0, hzw1, zAt]) rfl ?_
    refine HP.out _ ?_
    (repeat (first | (with_reducible refine below_set ?_ (by first | exact Nat.le_refl _ | omega) _ _) | with_reducible exact Below.refl _ _ | with_reducible refine belowA ?_ _ | with_reducible refine below_own' ?_ hb1 | with_reducible refine belowD ?_ | with_reducible refine belowN ?_ _))
  · have HR := Lib.hid h
    have HF := Lib.hid h2
    have HRI := Lib.hid (rises_of_right h)
    have HP : Hid (∀ w', Below w.heap.size w w' → GetPost l s w (.returned (.tuple #[zAt, .int .i64 4])) w') := Lib.hid fun w' hb => ⟨hb, by rw [h, h2]; rfl⟩
    clear h h2
    go_enter Tryz.func34, Tryz.ntmps34
    go_wp2_with (first
      | (go_at_call 63; refine Calls.mono (position_any p c l s _ (HS.out.below ?_) hl HRI.out) ?_; (focus ((repeat (first | (with_reducible refine below_set ?_ (by first | exact Nat.le_refl _ | omega) _ _) | with_reducible exact Below.refl _ _ | with_reducible refine belowA ?_ _ | with_reducible refine below_own' ?_ hb1 | with_reducible refine belowD ?_ | with_reducible refine belowN ?_ _)); done)); rintro e w2 ⟨rfl, hb2⟩; rw [HF.out]; have c2 := rdCell hb2 w.heap.size hzw1; have f2 := rdFree hb2 w.heap.size hzw1; have hzw2 : w.heap.size < w2.heap.size := Nat.lt_of_lt_of_le hzw1 hb2.size)
      | (go_at_call 19; refine HC.out.mono ?_; rintro e w1 ⟨rfl, hb1⟩; rw [HR.out]; simp only [if_true]; have c0 := rdCell hb1 w.heap.size (by simp); have f0 := rdFree hb1 w.heap.size (by simp); have hzw1 : w.heap.size < w1.heap.size := (by have := Below.size hb1; simp at this; omega)))
    refine bodyPost_ret (v := .tuple #[zAt, .int .i64 4]) (by simp [results, Tryz.results34, go_sem, c0, c2, hzw2, zAt]) rfl ?_
    refine HP.out _ ?_
    (repeat (first | (with_reducible refine below_set ?_ (by first | exact Nat.le_refl _ | omega) _ _) | with_reducible exact Below.refl _ _ | with_reducible refine belowA ?_ _ | with_reducible refine below_own' ?_ hb2 | with_reducible refine below_own' ?_ hb1 | with_reducible refine belowD ?_ | with_reducible refine belowN ?_ _))
theorem found_at {l : List Atr} {s : ByteArray} (h : foundB l s = true) : ∃ hlt : lowerB l s < l.length, (l[lowerB l s]'hlt).name = s := by
  unfold foundB at h
  cases hx : l[lowerB l s]? with
  | none => rw [hx] at h; cases h
  | some a =>
    rw [hx] at h
    obtain ⟨h1, rfl⟩ := List.getElem?_eq_some_iff.1 hx
    exact ⟨h1, by simpa using h⟩
theorem atrSl_sub {W : World} {g off : Nat} {l : List Atr} (h : AtrSl W (some ⟨g, off, none⟩) l) {i : Nat} (hi : i < l.length) : AtrSl W (some ⟨g, off + i * 6, none⟩) [l[i]] := by
  refine ⟨?_, fun b hb => h.lies b (by rw [List.mem_singleton.1 hb]; exact List.getElem_mem _), fun b hb => h.fits b (by rw [List.mem_singleton.1 hb]; exact List.getElem_mem _)⟩
  rcases h.at' with h | ⟨g', off', he, h2, h3⟩
  · subst h; simp at hi
  · cases he
    refine .inr ⟨g, off + i * 6, rfl, h2, fun j hj k hk => ?_⟩
    obtain rfl : j = 0 := by simpa using hj
    have := h3 i hi k hk
    simpa using this
theorem one_of {l : List Atr} {a : Atr} (h : l.map Atr.dat = [a].map Atr.dat) : ∃ b, l = [b] := by
  have : l.length = 1 := by simpa using congrArg List.length h
  exact List.length_eq_one_iff.1 this
theorem AtrOwn.one {w : World} {base : Nat} {v : Value} {b : Atr} (h : AtrOwn w base v [b]) : ∃ g c, v = .slice (some ⟨g, 0, none⟩) 1 c ∧ w.cell? ⟨g, 0, none⟩ = some (.string b.name) ∧ w.cell? ⟨g, 0 + 1, none⟩ = some (.int .i64 b.kind) ∧ w.cell? ⟨g, 0 + 2, none⟩ = some (.int .i64 b.num) ∧ w.cell? ⟨g, 0 + 3, none⟩ = some (.string b.text) ∧ w.cell? ⟨g, 0 + 4, none⟩ = some (.slice b.ia b.ints.length b.ic) ∧ w.cell? ⟨g, 0 + 5, none⟩ = some (.slice b.ta b.texts.length b.tc) := by
  obtain ⟨g, c, cur, rfl, -⟩ := h.form (by simp)
  obtain ⟨g', off, he, -, hrow⟩ := h.sl.row (j := 0) (by simp)
  cases he
  have := hrow 0 (by simp)
  exact ⟨g, c, rfl, this.c0, this.c1, this.c2, this.c3, this.c4, this.c5⟩
set_option maxRecDepth 100000 in
set_option maxHeartbeats 8000000 in
theorem get_yes (p : Option Addr) (c : Nat) (l : List Atr) (s : ByteArray) (w : World) (hs : AtrSl w p l) (hc : l.length ≤ c) (hr : rightL l = true) (hf : foundB l s = true) :
    Calls Tryz.prog 34 #[.slice p l.length c, .string s] w (GetPost l s w) := by
  have hl := right_len hr
  have hb0 : Below w.heap.size w (w.alloc (.cells #[.string ⟨#[]⟩, .int .i64 0, .int .i64 0, .string ⟨#[]⟩, .slice none 0 0, .slice none 0 0] 27)) := by (repeat (first | (with_reducible refine below_set ?_ (by first | exact Nat.le_refl _ | omega) _ _) | with_reducible exact Below.refl _ _ | with_reducible refine belowA ?_ _ | with_reducible refine belowD ?_ | with_reducible refine belowN ?_ _))
  have HC := Lib.hid (check_any' p c l _ (hs.below hb0) (by omega))
  have HS := Lib.hid hs
  have HR := Lib.hid hr
  have HF := Lib.hid hf
  have HRI := Lib.hid (rises_of_right hr)
  obtain ⟨hlt, hnm⟩ := found_at hf
  obtain ⟨g, off, rfl, hzg, hrow⟩ := hs.row hlt
  obtain ⟨k, hk⟩ : ∃ k, k = lowerB l s := ⟨_, rfl⟩
  have HK := Lib.hid hk
  rw [← hk] at hlt
  have hk0 : (0 : Int) ≤ (k : Int) := by omega
  have hk1 : (k : Int) < (l.length : Int) := by omega
  have hkc : (k : Int) < (c : Int) := by omega
  have hkc2 : (k : Int) + 1 ≤ (c : Int) := by omega
  have hkcn : ¬ c = k := by omega
  have hkt : ((k : Int) + 1).toNat = k + 1 := by omega
  clear hb0 hs hr hf hk hnm hrow
  go_enter Tryz.func34, Tryz.ntmps34
  go_wp2_with (first
    | (go_at_call 39; refine Calls.mono (attrs_any (some ⟨g, off + k * 6, none⟩) 1 [l[k]] _ (atrSl_sub (HS.out.below ?_) hlt) (by simp)) ?_; (focus ((repeat (first | (with_reducible refine below_set ?_ (by first | exact Nat.le_refl _ | omega) _ _) | with_reducible exact Below.refl _ _ | with_reducible refine belowA ?_ _ | with_reducible refine below_own' ?_ HB2.out | with_reducible refine below_own' ?_ HB1.out | with_reducible refine belowD ?_ | with_reducible refine belowN ?_ _)); done)); rintro e w3 ⟨v3, l3, rfl, ho3, hd3, hfr3, hb3⟩; obtain ⟨b, rfl⟩ := one_of hd3; obtain ⟨g3, c3, rfl, q0, q1, q2, q3, q4, q5⟩ := ho3.one; have c0 := fun j => (rdCell hb3 w.heap.size hzw2 j).trans ((rdCell HB2.out w.heap.size hzw1 j).trans (rdCell HB1.out w.heap.size (by simp) j)); have f0 := fun j => (rdFree hb3 w.heap.size hzw2 j).trans ((rdFree HB2.out w.heap.size hzw1 j).trans (rdFree HB1.out w.heap.size (by simp) j)); have hzw3 : w.heap.size < w3.heap.size := Nat.lt_of_lt_of_le hzw2 hb3.size; have HB3 := Lib.hid hb3; have HO3 := Lib.hid ho3; have HD3 := Lib.hid hd3; have HFR3 := Lib.hid hfr3; clear hb3 ho3 hd3 hfr3)
    | (go_at_call 63; refine Calls.mono (position_any _ c l s _ (HS.out.below ?_) (by omega) HRI.out) ?_; (focus ((repeat (first | (with_reducible refine below_set ?_ (by first | exact Nat.le_refl _ | omega) _ _) | with_reducible exact Below.refl _ _ | with_reducible refine belowA ?_ _ | with_reducible refine below_own' ?_ HB1.out | with_reducible refine belowD ?_ | with_reducible refine belowN ?_ _)); done)); rintro e w2 ⟨rfl, hb2⟩; rw [HF.out, ← HK.out]; have hzw2 : w.heap.size < w2.heap.size := Nat.lt_of_lt_of_le hzw1 hb2.size; have HB2 := Lib.hid hb2; clear hb2)
    | (go_at_call 19; refine HC.out.mono ?_; rintro e w1 ⟨rfl, hb1⟩; rw [HR.out]; simp only [if_true]; have hzw1 : w.heap.size < w1.heap.size := (by have := Below.size hb1; simp at this; omega); have HB1 := Lib.hid hb1; clear hb1))
  refine bodyPost_ret (v := .tuple #[b.val, .int .i64 0]) (by simp [results, Tryz.results34, go_sem, c0, hzw3]) rfl ?_
  have hbw : Below w.heap.size w w3 := by (repeat (first | (with_reducible refine below_set ?_ (by first | exact Nat.le_refl _ | omega) _ _) | with_reducible exact Below.refl _ _ | with_reducible refine belowA ?_ _ | with_reducible refine below_own' ?_ HB3.out | with_reducible refine below_own' ?_ HB2.out | with_reducible refine below_own' ?_ HB1.out | with_reducible refine belowD ?_ | with_reducible refine belowN ?_ _))
  have hgr := six_grown w3 w.heap.size 0 b
  have hbf : Below w.heap.size w (six w3 w.heap.size 0 b) := hbw.grown hgr hbw.size (fun t e => by cases e; exact Nat.le_refl _)
  refine ⟨hbf, ?_⟩
  rw [HR.out, HF.out]
  simp only [if_true]
  refine ⟨b, rfl, (HO3.out.lies b (by simp)).grown hgr (fun x hx e => ?_), HO3.out.fits b (by simp), ?_⟩
  · have h1 := HFR3.out b (by simp) x hx
    have h2 := Option.some.inj e
    omega
  · have h3 := HD3.out
    rw [← HK.out, List.getElem?_map, List.getElem?_eq_getElem hlt]
    simp at h3
    rw [h3]; rfl
theorem get_any (p : Option Addr) (c : Nat) (l : List Atr) (s : ByteArray) (w : World) (hs : AtrSl w p l) (hc : l.length ≤ c) (hl : l.length ≤ 100000000000000) :
    Calls Tryz.prog 34 #[.slice p l.length c, .string s] w (GetPost l s w) := by
  cases hr : rightL l with
  | false => exact get_no p c l s w hs hl (.inl hr)
  | true =>
    cases hf : foundB l s with
    | false => exact get_no p c l s w hs hl (.inr ⟨hr, hf⟩)
    | true => exact get_yes p c l s w hs hc hr hf
end Go.Proofs.YtmepjbjmjbpchaaGreatDoor
end
section
/- Strings between quotation marks: plain law. -/
namespace Go.Proofs.YtmepjbjmjbpchaaGreatDoor
open Go Go.RowKit

/-- The digit of a number below 16. -/
def hexOf (n : Nat) : UInt8 := if n < 10 then UInt8.ofNat (48 + n) else UInt8.ofNat (87 + n)
def escOf (c : UInt8) : List UInt8 :=
  if c = 34 then [92, 34] else if c = 92 then [92, 92] else if c = 10 then [92, 110] else
  if c.toNat < 32 ∨ 126 < c.toNat then [92, 120, hexOf (c.toNat / 16), hexOf (c.toNat % 16)] else [c]
def escL : List UInt8 → List UInt8
  | [] => []
  | c :: r => escOf c ++ escL r
theorem escL_append (l m : List UInt8) : escL (l ++ m) = escL l ++ escL m := by
  induction l with
  | nil => rfl
  | cons c r ih => simp [escL, ih]
theorem escL_snoc {l : List UInt8} {i : Nat} (h : i < l.length) : escL (l.take (i + 1)) = escL (l.take i) ++ escOf l[i] := by
  rw [List.take_add_one, List.getElem?_eq_getElem h, Option.toList_some, escL_append]; simp [escL]
theorem escOf_len (c : UInt8) : (escOf c).length ≤ 4 := by
  unfold escOf; repeat (first | (split) | simp)
theorem escL_len (l : List UInt8) : (escL l).length ≤ 4 * l.length := by
  induction l with
  | nil => simp [escL]
  | cons c r ih => have := escOf_len c; simp [escL]; omega
def quoteL (l : List UInt8) : List UInt8 := 34 :: (escL l ++ [34])
theorem quoteL_len (l : List UInt8) : (quoteL l).length ≤ 4 * l.length + 2 := by
  have := escL_len l
  simp [quoteL]; omega
end Go.Proofs.YtmepjbjmjbpchaaGreatDoor
end
section
/- The writing methods of strings.Builder at this program (turned from the library's own proofs). -/
namespace Go.Proofs.YtmepjbjmjbpchaaGreatDoor
open Go Go.RowKit
set_option linter.unusedVariables false
set_option linter.unusedSimpArgs false

theorem bldExtra : (Tryz.prog.info? 136).map (·.size) = some 2 ∧ liesAt Tryz.prog Tryz.prog.depth 136 (2 / Tryz.prog.cellsOf 136) 0 136 1 = true ∧ (Tryz.prog.info? 5).map (fun i => (i.zero, i.size, i.bytes)) = some (some (.int .u8 0), 1, 1) :=
  ⟨by kernel_rfl, by kernel_rfl, by kernel_rfl⟩

set_option maxHeartbeats 1000000 in
set_option maxRecDepth 100000 in
theorem bld_check_used (b : Nat) (w : World) (h0 : w.cell? ⟨b, 0, none⟩ = some (.pointer (some ⟨b, 0, none⟩))) :
    Calls Tryz.prog 125 #[.pointer (some ⟨b, 0, none⟩)] w fun e w' => e = .returned (.tuple #[]) ∧ w' = w := by
  obtain ⟨j, hj, _⟩ := Option.map_eq_some_iff.1 bldExtra.1
  go_enter Tryz.func125, Tryz.ntmps125
  go_wp2
  rw [Lib.run_neq_ptr_same w _ Tryz.underlying134 hj]
  go_wp2
  go_end0
  exact ⟨rfl, rfl⟩

set_option maxHeartbeats 1000000 in
set_option maxRecDepth 100000 in
theorem bld_check_fresh (b : Nat) (w : World) (h0 : w.cell? ⟨b, 0, none⟩ = some (.pointer none)) (hsh : w.shape? b = some (136, 2)) (hfz : w.frozen? ⟨b, 0, none⟩ = false) :
    Calls Tryz.prog 125 #[.pointer (some ⟨b, 0, none⟩)] w fun e w' => e = .returned (.tuple #[]) ∧ w' = w.setCell ⟨b, 0, none⟩ (.pointer (some ⟨b, 0, none⟩)) := by
  obtain ⟨j, hj, hjs⟩ := Option.map_eq_some_iff.1 bldExtra.1
  go_enter Tryz.func125, Tryz.ntmps125
  go_wp2
  rw [Lib.run_to_unsafe w ⟨b, 0, none⟩ Tryz.underlying134 Tryz.underlying172 hj (by rw [hjs]; decide) hsh (Nat.zero_lt_succ 1)]
  simp only [Result.andThen]
  rw [Oper.upon_value]
  go_wp2
  rw [run_callFunc_extern Tryz.func149 (by kernel_rfl) (by kernel_rfl) (by kernel_rfl) (e := Extern.AbiNoEscape.same) (by kernel_rfl)]
  rw [Lib.run_noEscape]
  simp only [Result.andThen]
  rw [Oper.upon_value]
  go_wp2
  rw [Lib.run_from_unsafe w ⟨b, 0, none⟩ Tryz.underlying172 Tryz.underlying134 hj hsh bldExtra.2.1]
  simp only [Result.andThen]
  rw [Oper.upon_value]
  go_wp2
  go_end0
  exact ⟨rfl, rfl⟩

abbrev IsB (B b : Nat) (bs : List Value) (w : World) : Prop := Lib.IsBuilder 136 5 B b bs w
theorem bld_check (B b : Nat) (bs : List Value) (w : World) (h : IsB B b bs w) :
    Calls Tryz.prog 125 #[.pointer (some ⟨b, 0, none⟩)] w fun e w' => e = .returned (.tuple #[]) ∧ (Lib.BuilderAt 136 5 B b (.pointer (some ⟨b, 0, none⟩)) bs w' ∧ Below B w w') := by
  rcases h with h | h
  · refine (bld_check_fresh b w h.cell0 h.shape h.frozen0).mono ?_
    rintro e w' ⟨rfl, rfl⟩
    exact ⟨rfl, h.used _, (Below.refl B w).setCell (p := ⟨b, 0, none⟩) h.1 _⟩
  · refine (bld_check_used b w h.cell0).mono ?_
    rintro e w' ⟨rfl, rfl⟩
    exact ⟨rfl, h, Below.refl B _⟩

set_option maxHeartbeats 2000000 in
set_option maxRecDepth 100000 in
theorem bld_write (B b : Nat) (bs : List Value) (s : ByteArray) (w : World) (h : IsB B b bs w) (hlen : bs.length + s.size ≤ 140737488355328) (hBw : B ≤ w.heap.size) :
    Calls Tryz.prog 118 #[.pointer (some ⟨b, 0, none⟩), .string s] w fun e w' => e = .returned (.tuple #[.int .i64 s.size, .nilIface]) ∧ (IsB B b (bs ++ Lib.strCells s) w' ∧ Below B w w') := by
  obtain ⟨i0, hi, hz0, hz1, hz2⟩ := info_parts bldExtra.2.2
  go_enter Tryz.func118, Tryz.ntmps118
  go_wp2_with (go_at_call 125; refine (bld_check B b bs _ h).mono ?_)
  rintro e w1 ⟨rfl, h1, hb1⟩
  obtain ⟨hB, v, hbk, hown, hne⟩ := h1
  have c0 : w1.cell? ⟨b, 0, none⟩ = some (.pointer (some ⟨b, 0, none⟩)) := by rw [Lib.cell_of_heap hbk]; rfl
  have c1 : w1.cell? ⟨b, 1, none⟩ = some v := by rw [Lib.cell_of_heap hbk]; rfl
  go_wp2_with (at_builtin; refine Lib.wpList_append_own_string _ rfl _ _ 60 9 rfl B 5 i0 Tryz.underlying60 Tryz.underlying9 hi hz0 hz1 hz2 _ _ _ rfl hown s rfl ?c3 ?c4 ?c5 ?_)
  case c3 => unfold maxLen; omega
  case c4 => omega
  case c5 => have := hb1.size; omega
  intro v' w2 hown' hgrow _
  have hlt : b < w1.heap.size := by
    rcases Nat.lt_or_ge b w1.heap.size with h' | h'
    · exact h'
    · simp [Array.getElem?_eq_none h'] at hbk
  have hb2 : w2.heap[b]? = some (.cells #[.pointer (some ⟨b, 0, none⟩), v] 136 (0, 0)) := by
    rw [hgrow.block b hlt (fun e => hne e.symm)]
    exact hbk
  have d0 : w2.cell? ⟨b, 0, none⟩ = some (.pointer (some ⟨b, 0, none⟩)) := by rw [Lib.cell_of_heap hb2]; rfl
  have d1 : w2.cell? ⟨b, 1, none⟩ = some v := by rw [Lib.cell_of_heap hb2]; rfl
  have f1 : w2.frozen? ⟨b, 1, none⟩ = false := Lib.frozen_of_heap hb2 1
  obtain ⟨ao, n', cap, rfl⟩ : ∃ ao n' cap, v' = .slice ao n' cap := by
    rcases hown'.2 with ⟨hv, _⟩ | ⟨g, cap, cur, hv, _⟩
    · exact ⟨_, _, _, hv⟩
    · exact ⟨_, _, _, hv⟩
  go_wp2
  go_ret2
  refine ⟨rfl, .inr ?_, ?_⟩
  · exact Lib.BuilderAt.put (T := 136) (e := 5) hB hb2 (bs' := bs ++ Lib.strCells s) (by simpa [Lib.strCells_length] using hown') (by decide)
  · exact (hb1.grown hgrow (by have := hb1.size; omega) (fun k hk => (hown.lt k hk).1)).setCell (p := ⟨b, 1, none⟩) hB _
end Go.Proofs.YtmepjbjmjbpchaaGreatDoor
end
section
/- WriteByte of strings.Builder at this program (turned from the library's own proof). -/
namespace Go.Proofs.YtmepjbjmjbpchaaGreatDoor
open Go Go.RowKit
set_option linter.unusedVariables false
set_option linter.unusedSimpArgs false

set_option maxHeartbeats 2000000 in
set_option maxRecDepth 100000 in
theorem bld_byte (B b : Nat) (bs : List Value) (c : Int) (w : World) (h : IsB B b bs w) (hlen : bs.length + 1 ≤ 140737488355328) (hBw : B ≤ w.heap.size) :
    Calls Tryz.prog 92 #[.pointer (some ⟨b, 0, none⟩), .int .u8 c] w fun e w' => e = .returned .nilIface ∧ (IsB B b (bs ++ [.int .u8 c]) w' ∧ Below B w w') := by
  obtain ⟨i0, hi, hz0, hz1, hz2⟩ := info_parts bldExtra.2.2
  go_enter Tryz.func92, Tryz.ntmps92
  go_wp2_with (go_at_call 125; refine (bld_check B b bs _ h).mono ?_)
  rintro e w1 ⟨rfl, h1, hb1⟩
  obtain ⟨hB, v, hbk, hown, hne⟩ := h1
  have c0 : w1.cell? ⟨b, 0, none⟩ = some (.pointer (some ⟨b, 0, none⟩)) := by rw [Lib.cell_of_heap hbk]; rfl
  have c1 : w1.cell? ⟨b, 1, none⟩ = some v := by rw [Lib.cell_of_heap hbk]; rfl
  go_wp2_with (at_builtin; refine wpList_append_own _ rfl _ _ 60 rfl B 5 i0 (.int .u8 0) 1 1 Tryz.underlying60 hi hz0 hz1 hz2 rfl (by decide) _ _ _ rfl (hown.alloc _) ⟨w1.heap.size, 0, none⟩ 1 1 [.int .u8 c] rfl rfl ?c1 ?c2 ?c3 ?c4 ?c5 ?_)
  case c1 =>
    intro j u hj
    match j, hj with
    | 0, hj => simp at hj; subst hj; simp [Addr.add]
  case c2 => intro u hu; simp at hu; subst hu; rfl
  case c3 => unfold maxLen; omega
  case c4 => omega
  case c5 => have := hb1.size; simp; omega
  intro v' w2 hown' hgrow _
  have hlt : b < w1.heap.size := by
    rcases Nat.lt_or_ge b w1.heap.size with h' | h'
    · exact h'
    · simp [Array.getElem?_eq_none h'] at hbk
  have hb2 : w2.heap[b]? = some (.cells #[.pointer (some ⟨b, 0, none⟩), v] 136 (0, 0)) := by
    rw [hgrow.block b (by simp; omega) (fun e => hne e.symm), Lib.alloc_old w1 _ b hlt]
    exact hbk
  have d0 : w2.cell? ⟨b, 0, none⟩ = some (.pointer (some ⟨b, 0, none⟩)) := by rw [Lib.cell_of_heap hb2]; rfl
  have d1 : w2.cell? ⟨b, 1, none⟩ = some v := by rw [Lib.cell_of_heap hb2]; rfl
  have f1 : w2.frozen? ⟨b, 1, none⟩ = false := Lib.frozen_of_heap hb2 1
  obtain ⟨g, cap, rfl⟩ : ∃ g cap, v' = .slice (some ⟨g, 0, none⟩) (bs.length + 1) cap := by
    rcases hown'.2 with ⟨_, h0⟩ | ⟨g, cap, cur, hv, _⟩
    · omega
    · exact ⟨g, cap, hv⟩
  go_wp2
  go_ret
  refine ⟨rfl, .inr ?_, ?_⟩
  · exact Lib.BuilderAt.put (T := 136) (e := 5) hB hb2 (bs' := bs ++ [.int .u8 c]) (by simpa using hown') (by decide)
  · exact ((hb1.alloc (by have := hb1.size; omega) _).grown hgrow (by have := hb1.size; simp; omega) (fun k hk => (hown.lt k hk).1)).setCell (p := ⟨b, 1, none⟩) hB _
end Go.Proofs.YtmepjbjmjbpchaaGreatDoor
end
section
/- types.text. -/
namespace Go.Proofs.YtmepjbjmjbpchaaGreatDoor
open Go Go.RowKit Go.Sort
set_option linter.unusedVariables false
set_option linter.unusedSimpArgs false

/-- strconv's table of powers of ten lies in the heap. -/
abbrev Pow (w : World) : Prop := Lib.TabIs Tryz.prog w "internal/strconv.uint64pow10" .u64 Lib.pow10Tab
theorem pow_below {w w' : World} (h : Pow w) (hb : Below w.heap.size w w') : Pow w' := Lib.tabBelow_of_tabIs h w' hb
theorem below_grow (w : World) (k : Nat) (os : Array Obj) : Below w.heap.size w (grow (w.drewN k) os) :=
  ⟨rfl, rfl, rfl, Lib.size_grow w k os, fun j hj => by
    show (w.heap ++ os)[j]? = _
    rw [Array.getElem?_append_left hj]⟩

theorem isB_below {B b : Nat} {bs : List Value} {W W' : World} (h : IsB B b bs W) (hb : Below W.heap.size W W') : IsB B b bs W' := by
  have key : ∀ p, Lib.BuilderAt 136 5 B b p bs W → Lib.BuilderAt 136 5 B b p bs W' := by
    rintro p ⟨hB, v, hbk, hown, hne⟩
    refine ⟨hB, v, blkBelow hbk hb, ⟨hown.1, ?_⟩, hne⟩
    rcases hown.2 with h1 | ⟨g, cap, cur, e1, e2, e3, e4⟩
    · exact .inl h1
    · exact .inr ⟨g, cap, cur, e1, e2, blkBelow e3 hb, e4⟩
  rcases h with h | h
  · exact .inl (key _ h)
  · exact .inr (key _ h)

end Go.Proofs.YtmepjbjmjbpchaaGreatDoor
end
section
/- The reference: Place, Equal, EqualLists. -/
namespace Go.Proofs.YtmepjbjmjbpchaaGreatDoor
open Go Go.RowKit
set_option linter.unusedVariables false
set_option linter.unusedSimpArgs false

/-- Whether two attributes are the same. -/
def sameA (a b : Atr) : Bool := decide (a.name = b.name ∧ a.kind = b.kind ∧ a.num = b.num ∧ a.text = b.text ∧ a.ints = b.ints ∧ a.texts = b.texts)
set_option maxRecDepth 100000 in
set_option maxHeartbeats 8000000 in
theorem requal_head (a b : Atr) (w : World) (h : ¬ (a.name = b.name ∧ a.kind = b.kind ∧ a.num = b.num ∧ a.text = b.text ∧ a.ints.length = b.ints.length ∧ a.texts.length = b.texts.length)) :
    Calls Tryz.prog 24 #[a.val, b.val] w fun e w' => e = .returned (.bool false) ∧ Below w.heap.size w w' := by
  have h' : (a.name.toList != b.name.toList) = true ∨ ((a.name.toList != b.name.toList) = false ∧ ((a.kind != b.kind) = true ∨ ((a.kind != b.kind) = false ∧ ((a.num != b.num) = true ∨ ((a.num != b.num) = false ∧ ((a.text.toList != b.text.toList) = true ∨ ((a.text.toList != b.text.toList) = false ∧
      ((((a.ints.length : Nat) : Int) != ((b.ints.length : Nat) : Int)) = true ∨ ((((a.ints.length : Nat) : Int) != ((b.ints.length : Nat) : Int)) = false ∧ (((a.texts.length : Nat) : Int) != ((b.texts.length : Nat) : Int)) = true))))))))) := by
    simp only [bne_iff_ne, bne_eq_false_iff_eq, ne_eq, toList_inj, Int.natCast_inj] at *
    grind
  clear h
  obtain ⟨nm, k, n, tx, ia, il, ic, ta, tl, tc⟩ := a
  obtain ⟨nm2, k2, n2, tx2, ia2, il2, ic2, ta2, tl2, tc2⟩ := b
  simp only at h'
  rcases h' with h | ⟨h1, h | ⟨h2, h | ⟨h3, h | ⟨h4, h | ⟨h5, h⟩⟩⟩⟩⟩
  all_goals
    go_enter Tryz.func24, Tryz.ntmps24
    go_wp2_with fail
    all_goals first
      | (go_ret; exact ⟨rfl, by (repeat (first | (with_reducible refine below_set ?_ (by first | exact Nat.le_refl _ | omega) _ _) | with_reducible exact Below.refl _ _ | with_reducible refine belowA ?_ _ | with_reducible refine belowD ?_ | with_reducible refine belowN ?_ _))⟩)
      | (exfalso; simp_all; done)
      | (exfalso; simp_all; omega)
end Go.Proofs.YtmepjbjmjbpchaaGreatDoor
end
