/- Texts of this claim, laid together: Ar3, Ar4, Ar5, Ax1, TyK, Sp0, Sp1, Ax2, Az0, Ax3, Ax4. -/
import Derived.Lib.ItoaLen
import Derived.Laws.RangeAny
import Derived.Lib.OthersKept
import Derived.WalkSmall
import Derived.Test.YtmepjbjmjbpchaaGreatDoorMg1
import Derived.Test.YtmepjbjmjbpchaaGreatDoorMg2
import Derived.Test.YtmepjbjmjbpchaaGreatDoorMg3
section
/- The reference: Place, Equal, EqualLists. -/
namespace Go.Proofs.YtmepjbjmjbpchaaGreatDoor
open Go Go.RowKit
set_option linter.unusedVariables false
set_option linter.unusedSimpArgs false

/-- Where the attribute with a name stands. -/
def placeOf (l : List Atr) (s : ByteArray) : Option Nat := l.findIdx? fun a => decide (a.name = s)
def placeInt (l : List Atr) (s : ByteArray) : Int := match placeOf l s with | some i => i | none => -1

set_option maxRecDepth 100000 in
set_option maxHeartbeats 4000000 in
theorem place_any (p : Option Addr) (c : Nat) (l : List Atr) (s : ByteArray) (w : World) (hs : AtrSl w p l) (hl : l.length ≤ 100000000000000) :
    Calls Tryz.prog 36 #[.slice p l.length c, .string s] w fun e w' => e = .returned (.int .i64 (placeInt l s)) ∧ w = w' := by
  have HS := Lib.hid hs
  clear hs
  go_enter Tryz.func36, Tryz.ntmps36
  go_wp2_with fail
  go_loop [5] (fun i => ∃ j : Nat, i = .int .i64 j ∧ j ≤ l.length ∧ ∀ t (ht : t < j) (h : t < l.length), l[t].name ≠ s) (fun i => l.length - (intOf i).toNat)
  case atStart => exact ⟨0, rfl, Nat.zero_le _, fun t ht => by omega⟩
  case round =>
    obtain ⟨j, rfl, hj, ht⟩ := hrel
    have HT := Lib.hid ht
    clear ht
    rcases Nat.lt_or_ge j l.length with hlt | hge
    · obtain ⟨g, off, rfl, hzg, hrow⟩ := HS.out.row hlt
      obtain ⟨a0, ha0⟩ : ∃ a0, a0 = l[j] := ⟨_, rfl⟩
      have k0 := (hrow j hlt).c0
      rw [← ha0] at k0
      have HA0 := Lib.hid ha0
      clear ha0 hrow
      have hjl : (j : Int) < (l.length : Int) := by omega
      have hj0 : (0 : Int) ≤ (j : Int) := by omega
      by_cases hn : a0.name = s
      · have hb : (a0.name.toList == s.toList) = true := by rw [toList_beq]; simpa using hn
        have HN := Lib.hid hn
        clear hn
        go_wp2_with fail
        go_ret
        have : placeOf l s = some j := by
          unfold placeOf
          rw [List.findIdx?_eq_some_iff_getElem]
          exact ⟨hlt, by rw [← HA0.out]; simpa using HN.out, fun t ht => by simpa using HT.out t ht (by omega)⟩
        exact ⟨by unfold placeInt; rw [this]; rfl, rfl⟩
      · have hb : (a0.name.toList == s.toList) = false := by rw [toList_beq]; simpa using hn
        have HN := Lib.hid hn
        clear hn
        go_wp2_with fail
        go_round
        case rel => exact ⟨j + 1, by go_num, by omega, fun t ht h => by
          rcases Nat.lt_or_ge t j with h2 | h2
          · exact HT.out t h2 h
          · obtain rfl : t = j := by omega
            rw [← HA0.out]; exact HN.out⟩
        case measure => simp [intOf]; omega
    · obtain rfl : j = l.length := by omega
      go_wp2_with fail
      go_ret
      have : placeOf l s = none := by
        unfold placeOf
        rw [List.findIdx?_eq_none_iff]
        intro a ha
        obtain ⟨t, h1, rfl⟩ := List.mem_iff_getElem.1 ha
        simpa using HT.out t h1 h1
      exact ⟨by unfold placeInt; rw [this]; rfl, rfl⟩

/-- Whether two attributes are the same. -/
def sameA (a b : Atr) : Bool := decide (a.name = b.name ∧ a.kind = b.kind ∧ a.num = b.num ∧ a.text = b.text ∧ a.ints = b.ints ∧ a.texts = b.texts)
abbrev atrO (a : Atr) : Obj := .cells #[.string a.name, .int .i64 a.kind, .int .i64 a.num, .string a.text, .slice a.ia a.ints.length a.ic, .slice a.ta a.texts.length a.tc] 27

set_option maxRecDepth 100000 in
set_option maxHeartbeats 8000000 in
theorem requal_head (a b : Atr) (w : World) (h : ¬ (a.name = b.name ∧ a.kind = b.kind ∧ a.num = b.num ∧ a.text = b.text ∧ a.ints.length = b.ints.length ∧ a.texts.length = b.texts.length)) :
    Calls Tryz.prog 24 #[a.val, b.val] w fun e w' => e = .returned (.bool false) ∧ Below w.heap.size w w' := by
  have h' : (a.name.toList != b.name.toList) = true ∨ ((a.name.toList != b.name.toList) = false ∧ ((a.kind != b.kind) = true ∨ ((a.kind != b.kind) = false ∧ ((a.num != b.num) = true ∨ ((a.num != b.num) = false ∧ ((a.text.toList != b.text.toList) = true ∨ ((a.text.toList != b.text.toList) = false ∧
      ((((a.ints.length : Nat) : Int) != ((b.ints.length : Nat) : Int)) = true ∨ ((((a.ints.length : Nat) : Int) != ((b.ints.length : Nat) : Int)) = false ∧ (((a.texts.length : Nat) : Int) != ((b.texts.length : Nat) : Int)) = true))))))))) := by
    simp only [bne_iff_ne, bne_eq_false_iff_eq, ne_eq, toList_inj, Int.natCast_inj] at *
    grind
  clear h
  obtain ⟨nm, k, n, tx, ia, il, ic, ta, tl, tc⟩ := a
  obtain ⟨nm2, k2, n2, tx2, ia2, il2, ic2, ta2, tl2, tc2⟩ := b
  simp only at h'
  rcases h' with h | ⟨h1, h | ⟨h2, h | ⟨h3, h | ⟨h4, h | ⟨h5, h⟩⟩⟩⟩⟩
  all_goals
    go_enter Tryz.func24, Tryz.ntmps24
    go_wp2_with fail
    all_goals first
      | (go_ret; exact ⟨rfl, by (repeat (first | (with_reducible refine below_set ?_ (by first | exact Nat.le_refl _ | omega) _ _) | with_reducible exact Below.refl _ _ | with_reducible refine belowA ?_ _ | with_reducible refine belowD ?_ | with_reducible refine belowN ?_ _))⟩)
      | (exfalso; simp_all; done)
      | (exfalso; simp_all; omega)
end Go.Proofs.YtmepjbjmjbpchaaGreatDoor
end
section
/- The reference: Equal. -/
namespace Go.Proofs.YtmepjbjmjbpchaaGreatDoor
open Go Go.RowKit
set_option linter.unusedVariables false
set_option linter.unusedSimpArgs false

theorem getD_at {α : Type} (d : α) {x : List α} {j : Nat} (h : j < x.length) : x.getD j d = x[j] := by
  rw [List.getD_eq_getElem?_getD, List.getElem?_eq_getElem h, Option.getD_some]
theorem list_ext_getD {α : Type} {d : α} {x y : List α} (h : x.length = y.length) (he : ∀ j, j < x.length → x.getD j d = y.getD j d) : x = y := by
  apply List.ext_getElem h
  intro j h1 h2
  have := he j h1
  rwa [getD_at d h1, getD_at d h2] at this
theorem StrSl.getD {w : World} {a : Option Addr} {ls : List ByteArray} (h : StrSl w a ls) {j : Nat} (hj : j < ls.length) : ∃ g off, a = some ⟨g, off, none⟩ ∧ g < w.heap.size ∧ w.cell? ⟨g, off + j, none⟩ = some (.string (ls.getD j ByteArray.empty)) := by
  rcases h with rfl | ⟨g, off, h1, h2, h3⟩
  · simp at hj
  · exact ⟨g, off, h1, h2, by rw [h3 j hj, getD_at _ hj]⟩
theorem below_two {w w' : World} {o o2 : Obj} (h : Below (w.heap.size + 2) ((w.alloc o).alloc o2) w') : Below w.heap.size w w' :=
  (((Below.refl w.heap.size w).alloc (Nat.le_refl _) o).alloc (by simp) o2).trans (h.mono (by simp))

set_option maxRecDepth 100000 in
set_option maxHeartbeats 8000000 in
theorem requal_body (nm : ByteArray) (k n : Int) (tx : ByteArray) (ia : Option Addr) (ic : Nat) (ta : Option Addr) (tc : Nat) (ia2 : Option Addr) (ic2 : Nat) (ta2 : Option Addr) (tc2 : Nat) (zs zs2 : List Int) (ls ls2 : List ByteArray) (L M : Nat)
    (h1 : zs.length = L) (h2 : zs2.length = L) (h3 : ls.length = M) (h4 : ls2.length = M) (w : World) (hz : IntSl w ia zs) (hz2 : IntSl w ia2 zs2) (hs : StrSl w ta ls) (hs2 : StrSl w ta2 ls2) (hL : L ≤ 100000000000000) (hM : M ≤ 100000000000000) :
    Calls Tryz.prog 24 #[av nm k n tx ia L ic ta M tc, av nm k n tx ia2 L ic2 ta2 M tc2] w fun e w' => e = .returned (.bool (decide (zs = zs2) && decide (ls = ls2))) ∧ Below w.heap.size w w' := by
  have H1 := Lib.hid h1; have H2 := Lib.hid h2; have H3 := Lib.hid h3; have H4 := Lib.hid h4
  have HZ := Lib.hid hz; have HZ2 := Lib.hid hz2; have HS := Lib.hid hs; have HS2 := Lib.hid hs2
  clear h1 h2 h3 h4 hz hz2 hs hs2
  go_enter Tryz.func24, Tryz.ntmps24
  go_wp2_with fail
  go_loopw [5] (fun i wr => ∃ j : Nat, i = .int .i64 j ∧ j ≤ L ∧ Below (w.heap.size + 2) ((w.alloc (.cells (avCells nm k n tx ia L ic ta M tc) 27)).alloc (.cells (avCells nm k n tx ia2 L ic2 ta2 M tc2) 27)) wr ∧ ∀ t, t < j → zs.getD t 0 = zs2.getD t 0) (fun i _ => L - (intOf i).toNat)
  case atStart => exact ⟨0, rfl, Nat.zero_le _, Below.refl _ _, fun t ht => by omega⟩
  case round =>
    obtain ⟨j, rfl, hj, hb, ht⟩ := hrel
    have c0 := rdCell (hb.mono (by simp)) w.heap.size (by simp <;> omega)
    have c1 := rdCell (hb.mono (by simp)) (w.heap.size + 1) (by simp)
    have HT := Lib.hid ht
    have HB := Lib.hid hb
    clear ht hb
    rcases Nat.lt_or_ge j L with hlt | hge
    · have hw0 := below_two HB.out
      obtain ⟨g, off, hia, hg, hc⟩ := (HZ.out.below hw0).at (j := j) (by rw [H1.out]; exact hlt)
      obtain ⟨g2, off2, hia2, hg2, hc2⟩ := (HZ2.out.below hw0).at (j := j) (by rw [H2.out]; exact hlt)
      subst hia hia2
      obtain ⟨x, hx⟩ : ∃ x, x = zs.getD j 0 := ⟨_, rfl⟩
      obtain ⟨y, hy⟩ : ∃ y, y = zs2.getD j 0 := ⟨_, rfl⟩
      rw [← hx] at hc
      rw [← hy] at hc2
      have HX := Lib.hid hx; have HY := Lib.hid hy; have HW0 := Lib.hid hw0
      clear hx hy hw0
      have hj0 : (0 : Int) ≤ (j : Int) := by omega
      have hjl : (j : Int) < (L : Int) := by omega
      by_cases hxy : x = y
      · have hb : (x != y) = false := by simpa using hxy
        have HXY := Lib.hid hxy
        clear hxy
        go_wp2_with fail
        go_quiet (fail)
        go_wp2_with fail
        go_roundw
        case rel => exact ⟨j + 1, by go_num, by omega, by have := HB.out; (first | exact this.drew | exact belowN this _), fun t ht => by
          rcases Nat.lt_or_ge t j with h2 | h2
          · exact HT.out t h2
          · obtain rfl : t = j := by omega
            rw [← HX.out, ← HY.out]; exact HXY.out⟩
        case measure => simp [intOf]; omega
      · have hb : (x != y) = true := by simpa using hxy
        have HXY := Lib.hid hxy
        clear hxy
        go_wp2_with fail
        go_quiet (fail)
        go_wp2_with fail
        go_ret
        have hne : ¬ zs = zs2 := fun e => HXY.out (by rw [HX.out, HY.out, e])
        exact ⟨by simp [hne], by have := HW0.out; (first | exact this.drew | exact belowN this _)⟩
    · obtain rfl : L = j := by omega
      have hzz : Hid (zs = zs2) := Lib.hid (list_ext_getD (by rw [H1.out, H2.out]) (fun t h => HT.out t (by rw [← H1.out]; exact h)))
      go_wp2_with fail
      obtain ⟨wo, hwo⟩ : ∃ wo : World, wo = wr := ⟨_, rfl⟩
      subst hwo
      go_loopw [6] (fun i wr => ∃ j : Nat, i = .int .i64 j ∧ j ≤ M ∧ Below (w.heap.size + 2) ((w.alloc (.cells (avCells nm k n tx ia L ic ta M tc) 27)).alloc (.cells (avCells nm k n tx ia2 L ic2 ta2 M tc2) 27)) wr ∧ ∀ t, t < j → ls.getD t ByteArray.empty = ls2.getD t ByteArray.empty) (fun i _ => M - (intOf i).toNat)
      case atStart => exact ⟨0, rfl, Nat.zero_le _, HB.out, fun t ht => by omega⟩
      case round =>
        obtain ⟨j, rfl, hj, hb, ht⟩ := hrel
        clear c0 c1
        have c0 := rdCell (hb.mono (by simp)) w.heap.size (by simp <;> omega)
        have c1 := rdCell (hb.mono (by simp)) (w.heap.size + 1) (by simp)
        have HT := Lib.hid ht
        have HB := Lib.hid hb
        clear ht hb
        rcases Nat.lt_or_ge j M with hlt | hge
        · have hw0 := below_two HB.out
          obtain ⟨g, off, hia, hg, hc⟩ := (HS.out.below hw0).getD (j := j) (by rw [H3.out]; exact hlt)
          obtain ⟨g2, off2, hia2, hg2, hc2⟩ := (HS2.out.below hw0).getD (j := j) (by rw [H4.out]; exact hlt)
          subst hia hia2
          obtain ⟨x, hx⟩ : ∃ x, x = ls.getD j ByteArray.empty := ⟨_, rfl⟩
          obtain ⟨y, hy⟩ : ∃ y, y = ls2.getD j ByteArray.empty := ⟨_, rfl⟩
          rw [← hx] at hc
          rw [← hy] at hc2
          have HX := Lib.hid hx; have HY := Lib.hid hy; have HW0 := Lib.hid hw0
          clear hx hy hw0
          have hj0 : (0 : Int) ≤ (j : Int) := by omega
          have hjl : (j : Int) < (M : Int) := by omega
          by_cases hxy : x = y
          · have hb : (x.toList == y.toList) = true := by rw [toList_beq]; simpa using hxy
            have HXY := Lib.hid hxy
            clear hxy
            go_wp2_with fail
            go_quiet (fail)
            go_wp2_with fail
            go_roundw
            case rel => exact ⟨j + 1, by go_num, by omega, by have := HB.out; (first | exact this.drew | exact belowN this _), fun t ht => by
              rcases Nat.lt_or_ge t j with h2 | h2
              · exact HT.out t h2
              · obtain rfl : t = j := by omega
                rw [← HX.out, ← HY.out]; exact HXY.out⟩
            case measure => simp [intOf]; omega
          · have hb : (x.toList == y.toList) = false := by rw [toList_beq]; simpa using hxy
            have HXY := Lib.hid hxy
            clear hxy
            go_wp2_with fail
            go_quiet (fail)
            go_wp2_with fail
            go_ret
            have hne : ¬ ls = ls2 := fun e => HXY.out (by rw [HX.out, HY.out, e])
            exact ⟨by simp [hne], by have := HW0.out; (first | exact this.drew | exact belowN this _)⟩
        · obtain rfl : j = M := by omega
          have hll : Hid (ls = ls2) := Lib.hid (list_ext_getD (by rw [H3.out, H4.out]) (fun t h => HT.out t (by rw [← H3.out]; exact h)))
          go_wp2_with fail
          go_ret
          exact ⟨by simp [hzz.out, hll.out], below_two HB.out⟩
end Go.Proofs.YtmepjbjmjbpchaaGreatDoor
end
section
/- The reference: Equal at two attributes, EqualLists. -/
namespace Go.Proofs.YtmepjbjmjbpchaaGreatDoor
open Go Go.RowKit
set_option linter.unusedVariables false
set_option linter.unusedSimpArgs false
attribute [local go_sem] Oper.semAt_some

theorem Atr.Fits.lens {a : Atr} (h : a.Fits) : a.ints.length ≤ 100000000000000 ∧ a.texts.length ≤ 100000000000000 := by
  have := h.il; have := h.tl
  omega
theorem requal_any (a b : Atr) (w : World) (ha : a.Lies w) (hb : b.Lies w) (fa : a.Fits) (fb : b.Fits) :
    Calls Tryz.prog 24 #[a.val, b.val] w fun e w' => e = .returned (.bool (sameA a b)) ∧ Below w.heap.size w w' := by
  by_cases h : a.name = b.name ∧ a.kind = b.kind ∧ a.num = b.num ∧ a.text = b.text ∧ a.ints.length = b.ints.length ∧ a.texts.length = b.texts.length
  · obtain ⟨h1, h2, h3, h4, h5, h6⟩ := h
    have e : sameA a b = (decide (a.ints = b.ints) && decide (a.texts = b.texts)) := by
      unfold sameA; rw [Bool.eq_iff_iff]; simp [h1, h2, h3, h4]
    rw [e]
    have := requal_body a.name a.kind a.num a.text a.ia a.ic a.ta a.tc b.ia b.ic b.ta b.tc a.ints b.ints a.texts b.texts a.ints.length a.texts.length rfl h5.symm rfl h6.symm w ha.ints hb.ints ha.texts hb.texts fa.lens.1 fa.lens.2
    have hv : b.val = av a.name a.kind a.num a.text b.ia a.ints.length b.ic b.ta a.texts.length b.tc := by
      show av b.name b.kind b.num b.text b.ia b.ints.length b.ic b.ta b.texts.length b.tc = _
      rw [← h1, ← h2, ← h3, ← h4, ← h5, ← h6]
    rw [hv]; exact this
  · have e : sameA a b = false := by
      unfold sameA; rw [decide_eq_false_iff_not]
      rintro ⟨h1, h2, h3, h4, h5, h6⟩
      exact h ⟨h1, h2, h3, h4, by rw [h5], by rw [h6]⟩
    rw [e]; exact requal_head a b w h

/-- Whether two lists are the same. -/
def sameL (l m : List Atr) : Bool := decide (l.length = m.length) && (List.range l.length).all fun j => match l[j]?, m[j]? with | some a, some b => sameA a b | _, _ => true
def sameAt (l m : List Atr) (j : Nat) : Bool := match l[j]?, m[j]? with | some a, some b => sameA a b | _, _ => true
theorem sameL_eq (l m : List Atr) (h : l.length = m.length) : sameL l m = (List.range l.length).all (sameAt l m) := by
  unfold sameL; simp [h]; rfl

set_option maxRecDepth 100000 in
set_option maxHeartbeats 8000000 in
theorem requalL_any (p q : Option Addr) (c d : Nat) (l m : List Atr) (w : World) (hs : AtrSl w p l) (hs2 : AtrSl w q m) (hl : l.length ≤ 100000000000000) (hm : m.length ≤ 100000000000000) :
    Calls Tryz.prog 17 #[.slice p l.length c, .slice q m.length d] w fun e w' => e = .returned (.bool (sameL l m)) ∧ Below w.heap.size w w' := by
  by_cases hlm : l.length = m.length
  · have HLM := Lib.hid hlm
    have HS := Lib.hid hs
    have HS2 := Lib.hid hs2
    clear hs hs2 hlm
    obtain ⟨M, hM⟩ : ∃ M, M = m.length := ⟨_, rfl⟩
    have hLM : Hid (l.length = M) := Lib.hid (by rw [hM]; exact HLM.out)
    rw [← hM] at hm ⊢
    obtain ⟨L, hL⟩ : ∃ L, L = l.length := ⟨_, rfl⟩
    have hll : L = M := by rw [hL]; exact hLM.out
    rw [← hL] at hl ⊢
    have HL := Lib.hid hL
    have HM := Lib.hid hM
    subst hll
    clear hL hM
    refine (callsIn_wide (n := 6)).1 ?_
    refine callsIn_of_wp Tryz.func17 rfl trivial ?_ rfl
    simp only [Tryz.ntmps17, List.size_toArray, List.length_cons, List.length_nil, Nat.reduceAdd, Nat.reduceSub, Array.replicate_succ, Array.replicate_zero, List.push_toArray, List.append_toArray, List.nil_append, List.cons_append]
    gi_wp2_with fail
    gi_loopw [5] (fun i wr => ∃ j : Nat, i = .int .i64 j ∧ j ≤ L ∧ Below w.heap.size w wr ∧ (List.range j).all (sameAt l m) = true) (fun i _ => L - (intOf i).toNat)
    case atStart => exact ⟨0, rfl, Nat.zero_le _, Below.refl _ _, rfl⟩
    case round =>
      obtain ⟨j, rfl, hj, hb, ht⟩ := hrel
      have HB := Lib.hid hb
      have HT := Lib.hid ht
      clear hb ht
      rcases Nat.lt_or_ge j L with hlt | hge
      · have hl1 : j < l.length := by rw [← HL.out]; exact hlt
        have hl2 : j < m.length := by rw [← HM.out]; exact hlt
        have hsw := HS.out.below HB.out
        have hsw2 := HS2.out.below HB.out
        obtain ⟨g, off, rfl, hzg, hrow⟩ := hsw.row hl1
        obtain ⟨g2, off2, rfl, hzg2, hrow2⟩ := hsw2.row hl2
        obtain ⟨a0, ha0⟩ : ∃ a0, a0 = l[j] := ⟨_, rfl⟩
        obtain ⟨b0, hb0⟩ : ∃ b0, b0 = m[j] := ⟨_, rfl⟩
        have hcj := hrow j hl1
        have hcj2 := hrow2 j hl2
        rw [← ha0] at hcj
        rw [← hb0] at hcj2
        have HLI := Lib.hid (fun (W : World) (hb : Below wr.heap.size wr W) => (hsw.lies a0 (by rw [ha0]; exact List.getElem_mem _)).below hb)
        have HFI := Lib.hid (hsw.fits a0 (by rw [ha0]; exact List.getElem_mem _))
        have HLI2 := Lib.hid (fun (W : World) (hb : Below wr.heap.size wr W) => (hsw2.lies b0 (by rw [hb0]; exact List.getElem_mem _)).below hb)
        have HFI2 := Lib.hid (hsw2.fits b0 (by rw [hb0]; exact List.getElem_mem _))
        have hj0 : (0 : Int) ≤ (j : Int) := by omega
        have hjl : (j : Int) < (L : Int) := by omega
        have HE : Hid (sameAt l m j = sameA a0 b0) := Lib.hid (by unfold sameAt; rw [List.getElem?_eq_getElem hl1, List.getElem?_eq_getElem hl2, ha0, hb0])
        clear ha0 hb0 hrow hrow2 hsw hsw2
        obtain ⟨k0, k1, k2, k3, k4, k5⟩ := hcj
        obtain ⟨q0, q1, q2, q3, q4, q5⟩ := hcj2
        gi_wp2_with fail
        generalize hops : (#[_, _, _, _, _, _, _, _, _, _] : Array Oper) = ops
        refine wpIn_region_inv_tail 8 (fun i => match i with | 0 => .slice (some ⟨g, off, none⟩) L c | 1 => .int .i64 (j : Int) | 2 => .pointer (some ⟨g, off + j * 6, none⟩) | 3 => a0.val | 4 => .slice (some ⟨g2, off2, none⟩) L d | 5 => .int .i64 (j : Int) | 6 => .pointer (some ⟨g2, off2 + j * 6, none⟩) | 7 => b0.val | _ => undef)
          (fun _ Wy => Below wr.heap.size wr Wy) (by kernel_rfl) (by rw [← hops]; kernel_rfl) (by rw [← hops]; kernel_rfl) (by rw [← hops]; kernel_rfl) (by rw [← hops]; decide) (by rw [← hops]; kernel_rfl) ((Below.refl _ _).drew) ?step ?tail
        case step =>
          intro i o listed a Wy ho hs hu hall ha hi hy hlt
          have old0 : a.eval (.tmp 0) = .slice (some ⟨g, off, none⟩) L c := by rw [ha.eval_old (noDst_spec (by rw [← hops]; kernel_rfl))]; rfl
          have old1 : a.eval (.tmp 1) = .slice (some ⟨g2, off2, none⟩) L d := by rw [ha.eval_old (noDst_spec (by rw [← hops]; kernel_rfl))]; rfl
          have old5 : a.eval (.tmp 5) = .int .i64 (j : Int) := by rw [ha.eval_old (noDst_spec (by rw [← hops]; kernel_rfl))]; rfl
          have hcase : i = 0 ∨ i = 1 ∨ i = 2 ∨ i = 3 ∨ i = 4 ∨ i = 5 ∨ i = 6 ∨ i = 7 := by omega
          rcases hcase with rfl | rfl | rfl | rfl | rfl | rfl | rfl | rfl
          all_goals (have ho' := ho; rw [← hops] at ho'; simp only [List.getElem?_toArray, List.getElem?_cons_zero, List.getElem?_cons_succ, Option.some.injEq] at ho'; subst ho')
          · refine step_none rfl ?_
            refine opIn_value wideAt_plain (fun c h => by cases h) (v := .slice (some ⟨g, off, none⟩) L c) (W' := Wy) ?_ ⟨rfl, hi⟩
            simp only [execOp, old0]
            simp only [Sem.run_pure]
          · refine step_none rfl ?_
            refine opIn_value wideAt_plain (fun c h => by cases h) (v := .int .i64 (j : Int)) (W' := Wy) ?_ ⟨rfl, hi⟩
            simp only [execOp, old5]
            simp only [Sem.run_pure]
          · refine step_none rfl ?_
            have h17 : a.eval (.tmp 17) = .slice (some ⟨g, off, none⟩) L c := ha.eval_got (j := 0) (by rw [← hops]; rfl) rfl (hall ⟨0, .data⟩ (by simp) rfl)
            have h18 : a.eval (.tmp 18) = .int .i64 (j : Int) := ha.eval_got (j := 1) (by rw [← hops]; rfl) rfl (hall ⟨1, .data⟩ (by simp) rfl)
            refine opIn_value wideAt_plain (fun c h => by cases h) (v := .pointer (some ⟨g, off + j * 6, none⟩)) (W' := Wy) ?_ ⟨rfl, hi⟩
            simp only [execOp, h17, h18]
            simp [go_sem, hjl, hj0] <;> (intro h; exfalso; first | omega | (have := h (by omega); omega))
          · refine step_none rfl ?_
            have h19 : a.eval (.tmp 19) = .pointer (some ⟨g, off + j * 6, none⟩) := ha.eval_got (j := 2) (by rw [← hops]; rfl) rfl (hall ⟨2, .data⟩ (by simp) rfl)
            refine opIn_value wideAt_plain (fun c h => by cases h) (v := a0.val) (W' := Wy) ?_ ⟨rfl, hi⟩
            simp only [execOp, h19]
            simp [go_sem, rdCell hi g hzg, k0, k1, k2, k3, k4, k5]
          · refine step_none rfl ?_
            refine opIn_value wideAt_plain (fun c h => by cases h) (v := .slice (some ⟨g2, off2, none⟩) L d) (W' := Wy) ?_ ⟨rfl, hi⟩
            simp only [execOp, old1]
            simp only [Sem.run_pure]
          · refine step_none rfl ?_
            refine opIn_value wideAt_plain (fun c h => by cases h) (v := .int .i64 (j : Int)) (W' := Wy) ?_ ⟨rfl, hi⟩
            simp only [execOp, old5]
            simp only [Sem.run_pure]
          · refine step_none rfl ?_
            have h21 : a.eval (.tmp 21) = .slice (some ⟨g2, off2, none⟩) L d := ha.eval_got (j := 4) (by rw [← hops]; rfl) rfl (hall ⟨4, .data⟩ (by simp) rfl)
            have h22 : a.eval (.tmp 22) = .int .i64 (j : Int) := ha.eval_got (j := 5) (by rw [← hops]; rfl) rfl (hall ⟨5, .data⟩ (by simp) rfl)
            refine opIn_value wideAt_plain (fun c h => by cases h) (v := .pointer (some ⟨g2, off2 + j * 6, none⟩)) (W' := Wy) ?_ ⟨rfl, hi⟩
            simp only [execOp, h21, h22]
            simp [go_sem, hjl, hj0] <;> (intro h; exfalso; first | omega | (have := h (by omega); omega))
          · refine step_none rfl ?_
            have h23 : a.eval (.tmp 23) = .pointer (some ⟨g2, off2 + j * 6, none⟩) := ha.eval_got (j := 6) (by rw [← hops]; rfl) rfl (hall ⟨6, .data⟩ (by simp) rfl)
            refine opIn_value wideAt_plain (fun c h => by cases h) (v := b0.val) (W' := Wy) ?_ ⟨rfl, hi⟩
            simp only [execOp, h23]
            simp [go_sem, rdCell hi g2 hzg2, q0, q1, q2, q3, q4, q5]
        case tail =>
          intro Wz hz
          subst hops
          simp only [frameOf, Act.put, Option.bind_some, List.getElem?_toArray, List.getElem?_cons_zero, List.getElem?_cons_succ, List.setIfInBounds_toArray, List.set_cons_zero, List.set_cons_succ, List.drop_succ_cons, List.drop_zero]
          have HZ := Lib.hid hz
          clear hz
          gi_wp2_with (refine ⟨trivial, ?_⟩; gi_at_call 24; refine (callsIn_wide.2 (requal_any a0 b0 _ (HLI.out _ HZ.out) (HLI2.out _ HZ.out) HFI.out HFI2.out)).mono ?_; rintro e w2 ⟨rfl, hb2⟩)
          · go_ret
            have hq : sameA a0 b0 = false := by simpa using (by assumption : (!sameA a0 b0) = true)
            have hrl : sameL l m = false := by rw [sameL_eq _ _ HLM.out]; exact all_range_false hl1 (by rw [HE.out, hq])
            exact ⟨by rw [hrl]; rfl, below_own' (below_own' HB.out HZ.out) hb2⟩
          · have hq : sameA a0 b0 = true := by simpa using (by assumption : (!sameA a0 b0) = false)
            go_roundw
            case rel => exact ⟨j + 1, by go_num, by omega, below_own' (below_own' HB.out HZ.out) hb2, by rw [all_range_succ, HT.out, HE.out, hq]; rfl⟩
            case measure => simp [intOf]; omega
      · obtain rfl : L = j := by omega
        have hrl : Hid (sameL l m = true) := Lib.hid (by rw [sameL_eq _ _ HLM.out, ← HL.out]; exact HT.out)
        gi_wp2_with fail
        go_ret
        exact ⟨by rw [hrl.out]; rfl, HB.out⟩
  · have hd : (((l.length : Nat) : Int) != ((m.length : Nat) : Int)) = true := by simpa using fun h => hlm (Int.ofNat_inj.1 h)
    have hrl : Hid (sameL l m = false) := Lib.hid (by unfold sameL; simp [hlm])
    have hne : ¬ ((l.length : Int) = (m.length : Int)) := fun h => hlm (Int.ofNat_inj.1 h)
    clear hs hs2
    go_enter Tryz.func17, Tryz.ntmps17
    go_wp2_with fail
    go_ret
    exact ⟨by rw [hrl.out]; rfl, Below.refl _ _⟩
end Go.Proofs.YtmepjbjmjbpchaaGreatDoor
end
section
/- graph.Quote. -/
namespace Go.Proofs.YtmepjbjmjbpchaaGreatDoor
open Go Go.RowKit
set_option linter.unusedVariables false
set_option linter.unusedSimpArgs false
attribute [local go_sem] Oper.semAt_some

structure QtI (w : World) (pre : List UInt8) (W : World) : Prop where
  bld : IsB w.heap.size w.heap.size (Lib.byteCells pre) W
  below : Below w.heap.size w W
theorem QtI.on {w W W1 : World} {pre : List UInt8} (h : QtI w pre W) (hb : Below W.heap.size W W1) : QtI w pre W1 := ⟨isB_below h.bld hb, below_own' h.below hb⟩
theorem QtI.put {w W W1 : World} {pre m : List UInt8} (h : QtI w pre W) (h1 : IsB w.heap.size w.heap.size (Lib.byteCells pre ++ Lib.byteCells m) W1) (hb : Below w.heap.size W W1) : QtI w (pre ++ m) W1 :=
  ⟨by rw [Lib.byteCells_append]; exact h1, h.below.trans hb⟩
theorem qt_byte {w W : World} {pre : List UInt8} (h : QtI w pre W) (c : UInt8) (hl : pre.length + 1 ≤ 140737488355328) :
    Calls Tryz.prog 92 #[.pointer (some ⟨w.heap.size, 0, none⟩), .int .u8 (c.toNat : Int)] W fun e w' => e = .returned .nilIface ∧ QtI w (pre ++ [c]) w' :=
  (bld_byte w.heap.size w.heap.size _ (c.toNat : Int) W h.bld (by rw [Lib.byteCells_length]; exact hl) h.below.size).mono fun e w' ⟨he, h1, h2⟩ => ⟨he, h.put h1 h2⟩
theorem qt_str {w W : World} {pre : List UInt8} (h : QtI w pre W) (s : ByteArray) (m : List UInt8) (hs : s.data.toList = m) (hl : pre.length + m.length ≤ 140737488355328) :
    Calls Tryz.prog 118 #[.pointer (some ⟨w.heap.size, 0, none⟩), .string s] W fun e w' => e = .returned (.tuple #[.int .i64 s.size, .nilIface]) ∧ QtI w (pre ++ m) w' :=
  (bld_write w.heap.size w.heap.size _ s W h.bld (by rw [Lib.byteCells_length]; subst hs; simpa using hl) h.below.size).mono fun e w' ⟨he, h1, h2⟩ => ⟨he, h.put (by rw [← hs]; exact h1) h2⟩
theorem qt_out {w W : World} {pre : List UInt8} (h : QtI w pre W) :
    Calls Tryz.prog 93 #[.pointer (some ⟨w.heap.size, 0, none⟩)] W fun e w' => e = .returned (.string ⟨pre.toArray⟩) ∧ Below w.heap.size w w' :=
  (Tryz.Builder_String_any w.heap.size w.heap.size pre W h.bld h.below.size).mono fun e w' ⟨he, hb⟩ => ⟨he, h.below.trans hb⟩

theorem u8_keep (z : Int) (h0 : 0 ≤ z) (h1 : z < 256) : IntKind.u8.wrap z = z := by
  exact IntWalk.u8_in _ (by omega)
theorem hex_cut (n : Nat) (h : n < 16) : (ByteArray.mk #[48, 49, 50, 51, 52, 53, 54, 55, 56, 57, 97, 98, 99, 100, 101, 102]).extract n (n + 1) = ⟨#[hexOf n]⟩ := by
  have : n = 0 ∨ n = 1 ∨ n = 2 ∨ n = 3 ∨ n = 4 ∨ n = 5 ∨ n = 6 ∨ n = 7 ∨ n = 8 ∨ n = 9 ∨ n = 10 ∨ n = 11 ∨ n = 12 ∨ n = 13 ∨ n = 14 ∨ n = 15 := by omega
  rcases this with rfl | rfl | rfl | rfl | rfl | rfl | rfl | rfl | rfl | rfl | rfl | rfl | rfl | rfl | rfl | rfl <;> rfl

theorem hex_cutI (z : Int) (n : Nat) (hz : z = (n : Int)) (h : n < 16) : (ByteArray.mk #[48, 49, 50, 51, 52, 53, 54, 55, 56, 57, 97, 98, 99, 100, 101, 102]).extract z.toNat (z + 1).toNat = ⟨#[hexOf n]⟩ := by
  have e1 : z.toNat = n := by omega
  have e2 : (z + 1).toNat = n + 1 := by omega
  rw [e1, e2, hex_cut n h]

set_option maxRecDepth 100000 in
set_option maxHeartbeats 8000000 in
theorem quote_any (s : ByteArray) (w : World) (hs : 4 * s.size + 2 ≤ 140737488355328) :
    Calls Tryz.prog 137 #[.string s] w fun e w' => e = .returned (.string ⟨(quoteL s.data.toList).toArray⟩) ∧ Below w.heap.size w w' := by
  have h0 : QtI w [] (w.alloc (.cells #[.pointer none, .slice none 0 0] 136)) := ⟨Lib.fresh_isBuilder _ _ w, (Below.refl _ w).alloc (Nat.le_refl _) _⟩
  have hq : ∀ i, (escL (s.data.toList.take i)).length ≤ 4 * i := fun i => by
    have := escL_len (s.data.toList.take i)
    have h2 : (s.data.toList.take i).length ≤ i := by simp; omega
    omega
  have HQ := Lib.hid hq
  have H0 := Lib.hid h0
  clear h0 hq
  refine (callsIn_wide (n := 6)).1 ?_
  refine callsIn_of_wp Tryz.func137 rfl trivial ?_ rfl
  simp only [Tryz.ntmps137, List.size_toArray, List.length_cons, List.length_nil, Nat.reduceAdd, Nat.reduceSub, Array.replicate_succ, Array.replicate_zero, List.push_toArray, List.append_toArray, List.nil_append, List.cons_append]
  gi_wp2_with (refine ⟨trivial, ?_⟩; gi_at_call 92; refine (callsIn_wide.2 (qt_byte H0.out 34 (by simp))).mono ?_; rintro e w1 ⟨rfl, hq1⟩)
  have HI := Lib.hid hq1
  clear hq1
  gi_loopw [9] (fun i wr => ∃ j : Nat, i = .int .i64 j ∧ j ≤ s.size ∧ QtI w (34 :: escL (s.data.toList.take j)) wr) (fun i _ => s.size - (intOf i).toNat)
  case atStart => exact ⟨0, rfl, Nat.zero_le _, HI.out⟩
  case round =>
    clear HI H0
    obtain ⟨j, rfl, hj, hI⟩ := hrel
    have HI := Lib.hid hI
    clear hI
    have hq := HQ.out j
    obtain ⟨pre, hpre⟩ : ∃ pre, pre = 34 :: escL (s.data.toList.take j) := ⟨_, rfl⟩
    have hpl : pre.length ≤ 4 * j + 1 := by rw [hpre]; simp; omega
    rw [← hpre] at HI
    have HPRE := Lib.hid hpre
    clear hpre hq
    rcases Nat.lt_or_ge j s.size with hjs | hge
    · have hll : j < s.data.toList.length := by simpa using hjs
      have HS : Hid (34 :: escL (s.data.toList.take (j + 1)) = pre ++ escOf (s[j]'hjs)) := Lib.hid (by rw [HPRE.out, escL_snoc hll]; rfl)
      have go : ∀ (W : World) (m : List UInt8), escOf (s[j]'hjs) = m → QtI w (pre ++ m) W → QtI w (34 :: escL (s.data.toList.take (j + 1))) W := fun W m hm h => by rw [HS.out, hm]; exact h
      have GO := Lib.hid go
      clear go hll
      have hx := (s[j]'hjs).toNat_lt
      by_cases c34 : (s[j]'hjs).toNat = 34
      · have hc : s[j]'hjs = 34 := UInt8.toNat_inj.1 c34
        have he : Hid (escOf (s[j]'hjs) = [92, 34]) := Lib.hid (by rw [hc]; rfl)
        clear hc
        gi_wp2_with (refine ⟨trivial, ?_⟩; gi_at_call 118; refine (callsIn_wide.2 (qt_str HI.out _ [92, 34] (by rfl) (by simp; omega))).mono ?_; rintro e w2 ⟨rfl, hq2⟩)
        go_roundw
        case rel => exact ⟨j + 1, by go_num, by omega, GO.out _ _ he.out hq2⟩
        case measure => simp [intOf]; omega
      · by_cases c92 : (s[j]'hjs).toNat = 92
        · have hc : s[j]'hjs = 92 := UInt8.toNat_inj.1 c92
          have he : Hid (escOf (s[j]'hjs) = [92, 92]) := Lib.hid (by rw [hc]; rfl)
          clear hc
          gi_wp2_with (refine ⟨trivial, ?_⟩; gi_at_call 118; refine (callsIn_wide.2 (qt_str HI.out _ [92, 92] (by rfl) (by simp; omega))).mono ?_; rintro e w2 ⟨rfl, hq2⟩)
          go_roundw
          case rel => exact ⟨j + 1, by go_num, by omega, GO.out _ _ he.out hq2⟩
          case measure => simp [intOf]; omega
        · have b34 : (((s[j]'hjs).toNat : Int) == 34) = false := by simp; omega
          have b92 : (((s[j]'hjs).toNat : Int) == 92) = false := by simp; omega
          have n34 : ¬ s[j]'hjs = 34 := fun h => c34 (by rw [h]; rfl)
          have n92 : ¬ s[j]'hjs = 92 := fun h => c92 (by rw [h]; rfl)
          by_cases c10 : (s[j]'hjs).toNat = 10
          · have hc : s[j]'hjs = 10 := UInt8.toNat_inj.1 c10
            have he : Hid (escOf (s[j]'hjs) = [92, 110]) := Lib.hid (by rw [hc]; rfl)
            clear hc n34 n92
            gi_wp2_with (refine ⟨trivial, ?_⟩; gi_at_call 118; refine (callsIn_wide.2 (qt_str HI.out _ [92, 110] (by rfl) (by simp; omega))).mono ?_; rintro e w2 ⟨rfl, hq2⟩)
            go_roundw
            case rel => exact ⟨j + 1, by go_num, by omega, GO.out _ _ he.out hq2⟩
            case measure => simp [intOf]; omega
          · have b10 : (((s[j]'hjs).toNat : Int) == 10) = false := by simp; omega
            have n10 : ¬ s[j]'hjs = 10 := fun h => c10 (by rw [h]; rfl)
            by_cases cx : (s[j]'hjs).toNat < 32 ∨ 126 < (s[j]'hjs).toNat
            · have he : Hid (escOf (s[j]'hjs) = [92, 120, hexOf ((s[j]'hjs).toNat / 16), hexOf ((s[j]'hjs).toNat % 16)]) := Lib.hid (by unfold escOf; rw [if_neg n34, if_neg n92, if_neg n10, if_pos cx])
              clear n34 n92 n10
              have CX := Lib.hid cx
              clear cx
              rcases CX.out with c32 | c126
              all_goals
                gi_wp2_with fail
                have hd : (s[j]'hjs).toNat / 16 < 16 := by omega
                have hm : (s[j]'hjs).toNat % 16 < 16 := by omega
                generalize hops : (#[_, _, _, _, _, _, _, _, _, _, _, _, _, _, _] : Array Oper) = ops
                refine wpIn_region_inv_tail 14 (fun i => match i with | 0 => .int .u8 (((s[j]'hjs).toNat : Nat) : Int) | 1 => .int .u8 (((s[j]'hjs).toNat / 16 : Nat) : Int) | 2 => .int .u8 (((s[j]'hjs).toNat : Nat) : Int) | 3 => .int .u8 (((s[j]'hjs).toNat / 16 : Nat) : Int) | 4 => .int .u8 (((s[j]'hjs).toNat / 16 + 1 : Nat) : Int) | 5 => .string ⟨#[hexOf ((s[j]'hjs).toNat / 16)]⟩ | 6 => .string (⟨#[92, 120]⟩ ++ ⟨#[hexOf ((s[j]'hjs).toNat / 16)]⟩) | 7 => .int .u8 (((s[j]'hjs).toNat : Nat) : Int) | 8 => .int .u8 (((s[j]'hjs).toNat % 16 : Nat) : Int) | 9 => .int .u8 (((s[j]'hjs).toNat : Nat) : Int) | 10 => .int .u8 (((s[j]'hjs).toNat % 16 : Nat) : Int) | 11 => .int .u8 (((s[j]'hjs).toNat % 16 + 1 : Nat) : Int) | 12 => .string ⟨#[hexOf ((s[j]'hjs).toNat % 16)]⟩ | 13 => .string (⟨#[92, 120]⟩ ++ ⟨#[hexOf ((s[j]'hjs).toNat / 16)]⟩ ++ ⟨#[hexOf ((s[j]'hjs).toNat % 16)]⟩) | _ => undef)
                  (fun _ Wy => Below wr.heap.size wr Wy) (by kernel_rfl) (by rw [← hops]; kernel_rfl) (by rw [← hops]; kernel_rfl) (by rw [← hops]; kernel_rfl) (by rw [← hops]; decide) (by rw [← hops]; kernel_rfl) ((Below.refl _ _).drew) ?step ?tail
                case step =>
                  intro i o listed a Wy ho hs hu hall ha hi hy hlt
                  have old5 : a.eval (.tmp 5) = .int .u8 (((s[j]'hjs).toNat : Nat) : Int) := by rw [ha.eval_old (noDst_spec (by rw [← hops]; kernel_rfl))]; rfl
                  have hcase : i = 0 ∨ i = 1 ∨ i = 2 ∨ i = 3 ∨ i = 4 ∨ i = 5 ∨ i = 6 ∨ i = 7 ∨ i = 8 ∨ i = 9 ∨ i = 10 ∨ i = 11 ∨ i = 12 ∨ i = 13 := by omega
                  rcases hcase with rfl | rfl | rfl | rfl | rfl | rfl | rfl | rfl | rfl | rfl | rfl | rfl | rfl | rfl
                  all_goals (have ho' := ho; rw [← hops] at ho'; simp only [List.getElem?_toArray, List.getElem?_cons_zero, List.getElem?_cons_succ, Option.some.injEq] at ho'; subst ho')
                  · refine step_none rfl ?_
                    refine opIn_value wideAt_plain (fun c h => by cases h) (v := .int .u8 (((s[j]'hjs).toNat : Nat) : Int)) (W' := Wy) ?_ ⟨rfl, hi⟩
                    simp only [execOp, old5]
                    simp only [Sem.run_pure]
                  · refine step_none rfl ?_
                    have h40 : a.eval (.tmp 40) = .int .u8 (((s[j]'hjs).toNat : Nat) : Int) := ha.eval_got (j := 0) (by rw [← hops]; rfl) rfl (hall ⟨0, .data⟩ (by simp) rfl)
                    refine opIn_value wideAt_plain (fun c h => by cases h) (v := .int .u8 (((s[j]'hjs).toNat / 16 : Nat) : Int)) (W' := Wy) ?_ ⟨rfl, hi⟩
                    simp only [execOp, h40]
                    simp [go_sem]
                    exact u8_keep _ (by omega) (by omega)
                  · refine step_none rfl ?_
                    refine opIn_value wideAt_plain (fun c h => by cases h) (v := .int .u8 (((s[j]'hjs).toNat : Nat) : Int)) (W' := Wy) ?_ ⟨rfl, hi⟩
                    simp only [execOp, old5]
                    simp only [Sem.run_pure]
                  · refine step_none rfl ?_
                    have h42 : a.eval (.tmp 42) = .int .u8 (((s[j]'hjs).toNat : Nat) : Int) := ha.eval_got (j := 2) (by rw [← hops]; rfl) rfl (hall ⟨2, .data⟩ (by simp) rfl)
                    refine opIn_value wideAt_plain (fun c h => by cases h) (v := .int .u8 (((s[j]'hjs).toNat / 16 : Nat) : Int)) (W' := Wy) ?_ ⟨rfl, hi⟩
                    simp only [execOp, h42]
                    simp [go_sem]
                    exact u8_keep _ (by omega) (by omega)
                  · refine step_none rfl ?_
                    have h43 : a.eval (.tmp 43) = .int .u8 (((s[j]'hjs).toNat / 16 : Nat) : Int) := ha.eval_got (j := 3) (by rw [← hops]; rfl) rfl (hall ⟨3, .data⟩ (by simp) rfl)
                    refine opIn_value wideAt_plain (fun c h => by cases h) (v := .int .u8 (((s[j]'hjs).toNat / 16 + 1 : Nat) : Int)) (W' := Wy) ?_ ⟨rfl, hi⟩
                    simp only [execOp, h43]
                    simp [go_sem]
                    exact u8_keep _ (by omega) (by omega)
                  · refine step_none rfl ?_
                    have h41 : a.eval (.tmp 41) = .int .u8 (((s[j]'hjs).toNat / 16 : Nat) : Int) := ha.eval_got (j := 1) (by rw [← hops]; rfl) rfl (hall ⟨1, .data⟩ (by simp) rfl)
                    have h44 : a.eval (.tmp 44) = .int .u8 (((s[j]'hjs).toNat / 16 + 1 : Nat) : Int) := ha.eval_got (j := 4) (by rw [← hops]; rfl) rfl (hall ⟨4, .data⟩ (by simp) rfl)
                    have q_h41 := h41; simp only [Act.eval, Array.getD_eq_getD_getElem?] at q_h41
                    have q_h44 := h44; simp only [Act.eval, Array.getD_eq_getD_getElem?] at q_h44
                    refine opIn_value wideAt_plain (fun c h => by cases h) (v := .string ⟨#[hexOf ((s[j]'hjs).toNat / 16)]⟩) (W' := Wy) ?_ ⟨rfl, hi⟩
                    simp only [execOp, h41, h44]
                    simp [go_sem, q_h41, q_h44, ]
                    rw [if_pos (by omega), if_pos (by omega), hex_cutI _ ((s[j]'hjs).toNat / 16) (by omega) (by omega)]
                  · refine step_none rfl ?_
                    have h45 : a.eval (.tmp 45) = .string ⟨#[hexOf ((s[j]'hjs).toNat / 16)]⟩ := ha.eval_got (j := 5) (by rw [← hops]; rfl) rfl (hall ⟨5, .data⟩ (by simp) rfl)
                    refine opIn_value wideAt_plain (fun c h => by cases h) (v := .string (⟨#[92, 120]⟩ ++ ⟨#[hexOf ((s[j]'hjs).toNat / 16)]⟩)) (W' := Wy) ?_ ⟨rfl, hi⟩
                    simp only [execOp, h45]
                    simp [go_sem]
                  · refine step_none rfl ?_
                    refine opIn_value wideAt_plain (fun c h => by cases h) (v := .int .u8 (((s[j]'hjs).toNat : Nat) : Int)) (W' := Wy) ?_ ⟨rfl, hi⟩
                    simp only [execOp, old5]
                    simp only [Sem.run_pure]
                  · refine step_none rfl ?_
                    have h47 : a.eval (.tmp 47) = .int .u8 (((s[j]'hjs).toNat : Nat) : Int) := ha.eval_got (j := 7) (by rw [← hops]; rfl) rfl (hall ⟨7, .data⟩ (by simp) rfl)
                    refine opIn_value wideAt_plain (fun c h => by cases h) (v := .int .u8 (((s[j]'hjs).toNat % 16 : Nat) : Int)) (W' := Wy) ?_ ⟨rfl, hi⟩
                    simp only [execOp, h47]
                    simp [go_sem]
                    exact Int.tmod_eq_emod_of_nonneg (by omega)
                  · refine step_none rfl ?_
                    refine opIn_value wideAt_plain (fun c h => by cases h) (v := .int .u8 (((s[j]'hjs).toNat : Nat) : Int)) (W' := Wy) ?_ ⟨rfl, hi⟩
                    simp only [execOp, old5]
                    simp only [Sem.run_pure]
                  · refine step_none rfl ?_
                    have h49 : a.eval (.tmp 49) = .int .u8 (((s[j]'hjs).toNat : Nat) : Int) := ha.eval_got (j := 9) (by rw [← hops]; rfl) rfl (hall ⟨9, .data⟩ (by simp) rfl)
                    refine opIn_value wideAt_plain (fun c h => by cases h) (v := .int .u8 (((s[j]'hjs).toNat % 16 : Nat) : Int)) (W' := Wy) ?_ ⟨rfl, hi⟩
                    simp only [execOp, h49]
                    simp [go_sem]
                    exact Int.tmod_eq_emod_of_nonneg (by omega)
                  · refine step_none rfl ?_
                    have h50 : a.eval (.tmp 50) = .int .u8 (((s[j]'hjs).toNat % 16 : Nat) : Int) := ha.eval_got (j := 10) (by rw [← hops]; rfl) rfl (hall ⟨10, .data⟩ (by simp) rfl)
                    refine opIn_value wideAt_plain (fun c h => by cases h) (v := .int .u8 (((s[j]'hjs).toNat % 16 + 1 : Nat) : Int)) (W' := Wy) ?_ ⟨rfl, hi⟩
                    simp only [execOp, h50]
                    simp [go_sem]
                    exact u8_keep _ (by omega) (by omega)
                  · refine step_none rfl ?_
                    have h48 : a.eval (.tmp 48) = .int .u8 (((s[j]'hjs).toNat % 16 : Nat) : Int) := ha.eval_got (j := 8) (by rw [← hops]; rfl) rfl (hall ⟨8, .data⟩ (by simp) rfl)
                    have h51 : a.eval (.tmp 51) = .int .u8 (((s[j]'hjs).toNat % 16 + 1 : Nat) : Int) := ha.eval_got (j := 11) (by rw [← hops]; rfl) rfl (hall ⟨11, .data⟩ (by simp) rfl)
                    have q_h48 := h48; simp only [Act.eval, Array.getD_eq_getD_getElem?] at q_h48
                    have q_h51 := h51; simp only [Act.eval, Array.getD_eq_getD_getElem?] at q_h51
                    refine opIn_value wideAt_plain (fun c h => by cases h) (v := .string ⟨#[hexOf ((s[j]'hjs).toNat % 16)]⟩) (W' := Wy) ?_ ⟨rfl, hi⟩
                    simp only [execOp, h48, h51]
                    simp [go_sem, q_h48, q_h51, ]
                    rw [if_pos (by omega), if_pos (by omega), hex_cutI _ ((s[j]'hjs).toNat % 16) (by omega) (by omega)]
                  · refine step_none rfl ?_
                    have h46 : a.eval (.tmp 46) = .string (⟨#[92, 120]⟩ ++ ⟨#[hexOf ((s[j]'hjs).toNat / 16)]⟩) := ha.eval_got (j := 6) (by rw [← hops]; rfl) rfl (hall ⟨6, .data⟩ (by simp) rfl)
                    have h52 : a.eval (.tmp 52) = .string ⟨#[hexOf ((s[j]'hjs).toNat % 16)]⟩ := ha.eval_got (j := 12) (by rw [← hops]; rfl) rfl (hall ⟨12, .data⟩ (by simp) rfl)
                    refine opIn_value wideAt_plain (fun c h => by cases h) (v := .string (⟨#[92, 120]⟩ ++ ⟨#[hexOf ((s[j]'hjs).toNat / 16)]⟩ ++ ⟨#[hexOf ((s[j]'hjs).toNat % 16)]⟩)) (W' := Wy) ?_ ⟨rfl, hi⟩
                    simp only [execOp, h46, h52]
                    simp [go_sem]
                case tail =>
                  intro Wz hz
                  subst hops
                  simp only [frameOf, Act.put, Option.bind_some, List.getElem?_toArray, List.getElem?_cons_zero, List.getElem?_cons_succ, List.setIfInBounds_toArray, List.set_cons_zero, List.set_cons_succ, List.drop_succ_cons, List.drop_zero]
                  have HZ := Lib.hid hz
                  clear hz
                  gi_wp2_with (refine ⟨trivial, ?_⟩; gi_at_call 118; refine (callsIn_wide.2 (qt_str (HI.out.on HZ.out) _ [92, 120, hexOf ((s[j]'hjs).toNat / 16), hexOf ((s[j]'hjs).toNat % 16)] (by simp) (by simp; omega))).mono ?_; rintro e w2 ⟨rfl, hq2⟩)
                  go_roundw
                  case rel => exact ⟨j + 1, by go_num, by omega, GO.out _ _ he.out hq2⟩
                  case measure => simp [intOf]; omega
            · have he : Hid (escOf (s[j]'hjs) = [s[j]'hjs]) := Lib.hid (by unfold escOf; rw [if_neg n34, if_neg n92, if_neg n10, if_neg cx])
              clear n34 n92 n10
              have b32 : ¬ ((s[j]'hjs).toNat : Int) < 32 := by omega
              have b126 : ¬ (126 : Int) < ((s[j]'hjs).toNat : Int) := by omega
              clear cx
              gi_wp2_with (refine ⟨trivial, ?_⟩; gi_at_call 92; refine (callsIn_wide.2 (qt_byte HI.out _ (by omega))).mono ?_; rintro e w2 ⟨rfl, hq2⟩)
              go_roundw
              case rel => exact ⟨j + 1, by go_num, by omega, GO.out _ _ he.out hq2⟩
              case measure => simp [intOf]; omega
    · have hl : j = s.size := by omega
      gi_wp2_with (first
        | (refine ⟨trivial, ?_⟩; gi_at_call 92; refine (callsIn_wide.2 (qt_byte HI.out 34 (by omega))).mono ?_; rintro e w2 ⟨rfl, hq2⟩; (have HI2 := Lib.hid hq2); clear hq2)
        | (refine ⟨trivial, ?_⟩; gi_at_call 93; refine (callsIn_wide.2 (qt_out HI2.out)).mono ?_; rintro e w2 ⟨rfl, hb2⟩))
      go_ret
      refine ⟨?_, hb2⟩
      have e1 : pre ++ [34] = quoteL s.data.toList := by rw [HPRE.out, hl, quoteL, List.take_of_length_le (by simp)]; rfl
      rw [e1]; rfl
end Go.Proofs.YtmepjbjmjbpchaaGreatDoor
end
section
/- Package types: Split. -/
namespace Go.Proofs.YtmepjbjmjbpchaaGreatDoor
open Go Go.RowKit Go.Sort
set_option linter.unusedVariables false
set_option linter.unusedSimpArgs false

/-- The pieces between commas and blanks. -/
def piecesOf (b : ByteArray) : List ByteArray := Lib.splitB ⟨#[44, 32]⟩ 0 (Lib.countB b ⟨#[44, 32]⟩) b
theorem splitB_size (sep : ByteArray) : ∀ (k : Nat) (s : ByteArray), ∀ t ∈ Lib.splitB sep 0 k s, t.size ≤ s.size
  | 0, s, t, h => by simp [Lib.splitB] at h; rw [h]; omega
  | k + 1, s, t, h => by
    simp only [Lib.splitB] at h
    split at h
    · simp at h; rw [h]; omega
    · rw [List.mem_cons] at h
      rcases h with rfl | h
      · simp [ByteArray.size_extract]; omega
      · have := splitB_size sep k _ t h
        simp [ByteArray.size_extract] at this; omega
/-- The body of a list of types in brackets. -/
def bodyOf (l : List UInt8) : Option (List UInt8) := if Lib.hasPrefix l [40] && Lib.hasSuffix l.tail [41] then some (l.tail.take (l.tail.length - 1)) else none
def okPieces (b : ByteArray) : Bool := decide ((piecesOf b).length ≤ 100) && !(piecesOf b).any badTy
theorem suffix_len {l : List UInt8} {c : UInt8} (h : Lib.hasSuffix l [c] = true) : 1 ≤ l.length := by
  cases l with
  | nil => simp [Lib.hasSuffix, List.isSuffixOf, List.isPrefixOf] at h
  | cons a l => simp

/-- What `types.Split` gives: nothing; the empty list; the types. -/
def SplitPost (s : ByteArray) (w : World) (e : Ending) (w' : World) : Prop :=
  Below w.heap.size w w' ∧ match bodyOf s.data.toList with
  | none => e = .returned (.tuple #[.slice none 0 0, .int .i64 10])
  | some l =>
    if l = [] then e = .returned (.tuple #[.slice none 0 0, .int .i64 0])
    else if okPieces ⟨l.toArray⟩ then ∃ g c, e = .returned (.tuple #[.slice (some ⟨g, 0, none⟩) (piecesOf ⟨l.toArray⟩).length c, .int .i64 0]) ∧ StrSl w' (some ⟨g, 0, none⟩) (piecesOf ⟨l.toArray⟩)
    else e = .returned (.tuple #[.slice none 0 0, .int .i64 10])
theorem split_bad {s b : ByteArray} {w w' : World} {e : Ending} (hb : bodyOf s.data.toList = some b.data.toList) (hne : b.data.toList ≠ []) (hk : okPieces b = false) (he : e = .returned (.tuple #[.slice none 0 0, .int .i64 10])) (hw : Below w.heap.size w w') : SplitPost s w e w' := by
  refine ⟨hw, ?_⟩
  rw [hb]
  dsimp only
  rw [if_neg hne, if_neg (by rw [show (⟨b.data.toList.toArray⟩ : ByteArray) = b from rfl, hk]; simp)]
  exact he
theorem split_good {s b : ByteArray} {w w' : World} {e : Ending} (hb : bodyOf s.data.toList = some b.data.toList) (hne : b.data.toList ≠ []) (hk : okPieces b = true) {g c : Nat} (he : e = .returned (.tuple #[.slice (some ⟨g, 0, none⟩) (piecesOf b).length c, .int .i64 0])) (hs : StrSl w' (some ⟨g, 0, none⟩) (piecesOf b)) (hw : Below w.heap.size w w') : SplitPost s w e w' := by
  refine ⟨hw, ?_⟩
  rw [hb]
  dsimp only
  rw [if_neg hne, if_pos (by rw [show (⟨b.data.toList.toArray⟩ : ByteArray) = b from rfl, hk])]
  exact ⟨g, c, he, hs⟩
set_option maxRecDepth 100000 in
set_option maxHeartbeats 2000000 in
theorem splitT_no (s : ByteArray) (w : World) (hs : s.size ≤ 140737488355328) (hb : bodyOf s.data.toList = none) : Calls Tryz.prog 74 #[.string s] w (SplitPost s w) := by
  have HB := Lib.hid hb
  have hl : s.data.toList.length = s.size := by simp
  have HL := Lib.hid hl
  clear hb hl
  have hs1 : s.size ≤ 9223372036854775807 := by omega
  cases hp : Lib.hasPrefix s.data.toList [40] with
  | false =>
    have HP := Lib.hid hp; clear hp
    go_enter Tryz.func74, Tryz.ntmps74
    go_wp2_with (first
      | (go_at_call 95; refine (cutPrefix_no _ _ _ HP.out).mono ?_; rintro e w' ⟨rfl, rfl⟩)
      | (go_at_call 96; refine (cutSuffix_or _ _ _ hs1).mono ?_; rintro e w' (⟨t2, rfl, ht2, hp2, rfl⟩ | ⟨rfl, hp2, rfl⟩)))
    all_goals
      go_ret2
      exact ⟨Below.refl _ _, by rw [HB.out]; rfl⟩
  | true =>
    have hsu : Lib.hasSuffix (s.data.toList.drop 1) [41] = false := by
      have := HB.out
      unfold bodyOf at this
      rw [hp] at this
      rw [List.drop_one]
      cases h : Lib.hasSuffix s.data.toList.tail [41]
      · rfl
      · rw [h] at this; simp at this
    have HP := Lib.hid hp
    have HU := Lib.hid hsu
    clear hp hsu
    go_enter Tryz.func74, Tryz.ntmps74
    go_wp2_with (first
      | (go_at_call 95; refine (cutPrefix_yes _ _ _ HP.out).mono ?_; rintro e w' ⟨t, rfl, ht, rfl⟩)
      | (go_at_call 96; refine (cutSuffix_no _ _ _ ?_ ?_).mono ?_; (have := congrArg List.length ht.out; simp at this; omega); (rw [ht.out]; exact HU.out); rintro e w' ⟨rfl, rfl⟩))
    go_ret2
    exact ⟨Below.refl _ _, by rw [HB.out]; rfl⟩
theorem bodyOf_some {l b : List UInt8} (h : bodyOf l = some b) : Lib.hasPrefix l [40] = true ∧ Lib.hasSuffix (l.drop 1) [41] = true ∧ b = (l.drop 1).take ((l.drop 1).length - 1) ∧ 2 ≤ l.length := by
  unfold bodyOf at h
  split at h
  · rename_i hc
    rw [Bool.and_eq_true] at hc
    have h2 := suffix_len hc.2
    refine ⟨hc.1, by rw [List.drop_one]; exact hc.2, by rw [List.drop_one]; exact (Option.some.inj h).symm, ?_⟩
    simp at h2; omega
  · cases h
set_option maxRecDepth 100000 in
set_option maxHeartbeats 2000000 in
theorem splitT_empty (s : ByteArray) (w : World) (hs : s.size ≤ 140737488355328) (hb : bodyOf s.data.toList = some []) : Calls Tryz.prog 74 #[.string s] w (SplitPost s w) := by
  have HB := Lib.hid hb
  obtain ⟨hp, hu, he, h2⟩ := bodyOf_some hb
  have hl : s.data.toList.length = s.size := by simp
  rw [hl] at h2
  have h2' : 2 ≤ (s.size : Int) := by omega
  have HP := Lib.hid hp
  have HU := Lib.hid hu
  have HE := Lib.hid he
  clear hb hl hp hu he
  have hs1 : s.size ≤ 9223372036854775807 := by omega
  go_enter Tryz.func74, Tryz.ntmps74
  go_wp2_with (first
    | (go_at_call 95; refine (cutPrefix_yes _ _ _ HP.out).mono ?_; rintro e w' ⟨t, rfl, ht, rfl⟩)
    | (go_at_call 96; refine (cutSuffix_yes _ _ _ ?_ ?_).mono ?_; (have := congrArg List.length ht.out; simp at this; omega); (rw [ht.out]; exact HU.out); rintro e w' ⟨t2, rfl, ht2, rfl⟩; (have hnil : t2 = ⟨#[]⟩ := ByteArray.ext (by rw [← Array.toList_inj, ht2.out, ht.out]; exact HE.out.symm)); subst hnil))
  go_ret2
  exact ⟨Below.refl _ _, by rw [HB.out]; dsimp only; rw [if_pos rfl]; rfl⟩
set_option maxRecDepth 100000 in
set_option maxHeartbeats 2000000 in
theorem splitT_some (s : ByteArray) (w : World) (hs : s.size < 4294967281) (m : Int) (hm : w.cell? ⟨0, 0, none⟩ = some (.int .i64 m)) (h0 : 0 < w.heap.size) (b : ByteArray) (hb : bodyOf s.data.toList = some b.data.toList) (hne : b.data.toList ≠ []) : Calls Tryz.prog 74 #[.string s] w (SplitPost s w) := by
  have HB := Lib.hid hb
  obtain ⟨hp, hu, he, h2⟩ := bodyOf_some hb
  have hl : s.data.toList.length = s.size := by simp
  rw [hl] at h2
  have h2' : 2 ≤ (s.size : Int) := by omega
  have HP := Lib.hid hp
  have HU := Lib.hid hu
  have HE := Lib.hid he
  have hbs : b.size < 4294967281 := by
    have := congrArg List.length he
    simp at this; omega
  have hemp : b.toList.isEmpty = false := by
    rw [List.isEmpty_eq_false_iff]; intro h; exact hne ((toList_nil_iff b).1 h)
  have HN := Lib.hid hne
  have hcb : Lib.countB b ⟨#[44, 32]⟩ ≤ b.size := Lib.countB_le ⟨#[44, 32]⟩ (by decide) b.size b (Nat.le_refl _)
  have hpl : (piecesOf b).length = Lib.countB b ⟨#[44, 32]⟩ + 1 := Lib.splitB_all ⟨#[44, 32]⟩ (by decide) 0 _ b rfl
  have hps : ∀ t ∈ piecesOf b, t.size ≤ 140737488355328 := fun t ht => by have := splitB_size _ _ _ t ht; omega
  obtain ⟨N, hN⟩ : ∃ N, N = Lib.countB b ⟨#[44, 32]⟩ := ⟨_, rfl⟩
  rw [← hN] at hpl hcb
  have HPL := Lib.hid hpl
  have HPS := Lib.hid hps
  have HCN := Lib.hid hN
  have hpc : piecesOf b = Lib.splitB ⟨#[44, 32]⟩ 0 N b := by rw [hN]; rfl
  have hsl : StrSl (w.alloc (.cells ((Lib.splitB ⟨#[44, 32]⟩ 0 N b).map Value.string).toArray 9)) (some ⟨w.heap.size, 0, none⟩) (piecesOf b) := .inr ⟨w.heap.size, 0, rfl, by simp, fun j hj => by
    rw [blkCell (heap_alloc_new w _), ← hpc]; simp [hj]⟩
  clear hpc
  have HSL := Lib.hid hsl
  clear hb hl hp hu he hne hps hN hsl
  have hs1 : s.size ≤ 9223372036854775807 := by omega
  by_cases hn : 100 < N + 1
  · have hn' : (100 : Int) < (N : Int) + 1 := by omega
    go_enter Tryz.func74, Tryz.ntmps74
    go_wp2_with (first
      | (go_at_call 95; refine (cutPrefix_yes _ _ _ HP.out).mono ?_; rintro e w' ⟨t, rfl, ht, rfl⟩)
      | (go_at_call 96; refine (cutSuffix_yes _ _ _ ?_ ?_).mono ?_; (have := congrArg List.length ht.out; simp at this; omega); (rw [ht.out]; exact HU.out); rintro e w' ⟨t2, rfl, ht2, rfl⟩; (have hnil : t2 = b := ByteArray.ext (by rw [← Array.toList_inj, ht2.out, ht.out]; exact HE.out.symm)); subst hnil)
      | (go_at_call 73; refine (Tryz.strings_Split _ _ m _ hbs hm (by decide)).mono ?_; rw [← HCN.out]; rintro e w' ⟨rfl, rfl⟩))
    all_goals
      go_ret2
      exact split_bad HB.out HN.out (by rw [okPieces, HPL.out]; simp; intro h; omega) rfl ((Below.refl _ w).alloc (Nat.le_refl _) _)
  · have hn' : (N : Int) + 1 ≤ 100 := by omega
    have HCF := Lib.hid (contains_split (some ⟨w.heap.size, 0, none⟩) (N + 1) (piecesOf b) _ HSL.out (by omega) HPS.out)
    rw [hpl] at HCF
    cases hbad : (piecesOf b).any badTy with
    | true =>
      have HBAD := Lib.hid hbad; clear hbad hpl
      go_enter Tryz.func74, Tryz.ntmps74
      go_wp2_with (first
        | (go_at_call 95; refine (cutPrefix_yes _ _ _ HP.out).mono ?_; rintro e w' ⟨t, rfl, ht, rfl⟩)
        | (go_at_call 96; refine (cutSuffix_yes _ _ _ ?_ ?_).mono ?_; (have := congrArg List.length ht.out; simp at this; omega); (rw [ht.out]; exact HU.out); rintro e w' ⟨t2, rfl, ht2, rfl⟩; (have hnil : t2 = b := ByteArray.ext (by rw [← Array.toList_inj, ht2.out, ht.out]; exact HE.out.symm)); subst hnil)
        | (go_at_call 73; refine (Tryz.strings_Split _ _ m _ hbs hm (by decide)).mono ?_; rw [← HCN.out]; rintro e w' ⟨rfl, rfl⟩)
        | (go_at_call 97; refine HCF.out.mono ?_; rintro e w2 ⟨rfl, hb2⟩; rw [HBAD.out]))
      all_goals
        go_ret2
        exact split_bad HB.out HN.out (by rw [okPieces, HBAD.out]; simp) rfl (((Below.refl _ w).alloc (Nat.le_refl _) _).trans (hb2.mono (by simp)))
    | false =>
      have HBAD := Lib.hid hbad; clear hbad hpl
      go_enter Tryz.func74, Tryz.ntmps74
      go_wp2_with (first
        | (go_at_call 95; refine (cutPrefix_yes _ _ _ HP.out).mono ?_; rintro e w' ⟨t, rfl, ht, rfl⟩)
        | (go_at_call 96; refine (cutSuffix_yes _ _ _ ?_ ?_).mono ?_; (have := congrArg List.length ht.out; simp at this; omega); (rw [ht.out]; exact HU.out); rintro e w' ⟨t2, rfl, ht2, rfl⟩; (have hnil : t2 = b := ByteArray.ext (by rw [← Array.toList_inj, ht2.out, ht.out]; exact HE.out.symm)); subst hnil)
        | (go_at_call 73; refine (Tryz.strings_Split _ _ m _ hbs hm (by decide)).mono ?_; rw [← HCN.out]; rintro e w' ⟨rfl, rfl⟩)
        | (go_at_call 97; refine HCF.out.mono ?_; rintro e w2 ⟨rfl, hb2⟩; rw [HBAD.out]))
      all_goals
        go_ret2
        exact split_good HB.out HN.out (by rw [okPieces, HBAD.out, HPL.out]; simp; omega) (by rw [HPL.out]; rfl) (HSL.out.below hb2) (((Below.refl _ w).alloc (Nat.le_refl _) _).trans (hb2.mono (by simp)))
end Go.Proofs.YtmepjbjmjbpchaaGreatDoor
end
section
/- Plain laws of lists of types: the reference's cutting at commas is the cutting at a comma and a blank. -/
namespace Go.Proofs.YtmepjbjmjbpchaaGreatDoor
open Go
set_option linter.unusedVariables false
set_option linter.unusedSimpArgs false

def isTy (l : List UInt8) : Bool := (readOf l).isSome
theorem elStr_no {b : Nat} (c : UInt8) (h1 : c ∉ [105, 110, 100, 101, 120]) (h2 : ∀ n, n < 10 → c ≠ UInt8.ofNat (48 + n)) : c ∉ elStr b := by
  unfold elStr
  split
  · exact h1
  · intro h
    rcases List.mem_cons.1 h with h | h
    · subst h; exact h1 (by simp)
    · rw [Lib.decDigits_eq] at h
      obtain ⟨t, -, ht⟩ := List.mem_map.1 h
      exact h2 _ (Nat.mod_lt _ (by decide)) ht.symm
theorem elemOf_no44 {l : List UInt8} {q : Pd} (h : elemOf l = some q) : (44 : UInt8) ∉ l := by
  rw [elemOf_str h]
  refine elStr_no 44 (by decide) ?_
  intro n hn h
  have := congrArg UInt8.toNat h
  rw [UInt8.toNat_ofNat'] at this
  simp at this; omega
theorem numOf_no44 {l : List UInt8} {n : Nat} (h : numOf l = some n) : (44 : UInt8) ∉ l := by
  intro hm
  have := numOf_all h 44 hm
  exact absurd this.1 (by decide)
theorem rest_no44 : ∀ (m : Nat) (l : List UInt8) (ext : List Nat) (r : List Nat × Nat), l.length ≤ m → shapeP ext (partsOf l) = some r → (44 : UInt8) ∉ l
  | m, l, ext, r, hm, h => by
    by_cases h0 : l = [105, 110, 100, 101, 120] ∨ cutOf 120 l = none
    · rw [partsOf_last h0] at h
      simp only [shapeP] at h
      split at h
      · rename_i e he; exact elemOf_no44 he
      · cases h
    · cases hc : cutOf 120 l with
      | none => exact absurd (.inr hc) h0
      | some p =>
        obtain ⟨x, y⟩ := p
        have hlen := cutOf_len hc
        obtain ⟨-, hxy, -⟩ := cutOf_some _ _ _ _ hc
        obtain ⟨m', rfl⟩ : ∃ m', m = m' + 1 := ⟨m - 1, by omega⟩
        rw [partsOf_more (fun h => h0 (.inl h)) hc] at h
        simp only [shapeP] at h
        split at h
        · rename_i n hn
          split at h
          · have ih := rest_no44 m' y _ r (by omega) h
            rw [hxy]
            intro hm
            rw [List.mem_append, List.mem_cons] at hm
            rcases hm with hm | hm | hm
            · exact numOf_no44 hn hm
            · exact absurd hm (by decide)
            · exact ih hm
          · cases h
        · cases h
theorem nameOf_no44 {l : List UInt8} (h : nameOf l = true) : (44 : UInt8) ∉ l := by
  intro hm
  simp only [nameOf, Bool.and_eq_true, List.all_eq_true] at h
  have := h.2 44 hm
  exact absurd this (by decide)
theorem foreignOf_no44 {l : List UInt8} {q : Pd} (h : foreignOf l = some q) : (44 : UInt8) ∉ l := by
  unfold foreignOf at h
  split at h
  · rename_i hp
    split at h
    · cases h
    · rename_i x y hc
      obtain ⟨-, hxy, -⟩ := cutOf_some _ _ _ _ hc
      split at h
      · rename_i hn
        rw [Bool.and_eq_true] at hn
        have hp1 := hp.1
        match l, hp1, hxy with
        | [], hp1, hxy => simp [Lib.hasPrefix, List.isPrefixOf] at hp1
        | c :: l, hp1, hxy =>
          simp [Lib.hasPrefix, List.isPrefixOf] at hp1
          subst hp1
          simp only [List.tail_cons] at hxy
          rw [hxy]
          intro hm
          rcases List.mem_cons.1 hm with hm | hm
          · exact absurd hm (by decide)
          · rw [List.mem_append, List.mem_cons] at hm
            rcases hm with hm | hm | hm
            · exact nameOf_no44 hn.1 hm
            · exact absurd hm (by decide)
            · exact nameOf_no44 hn.2 hm
      · cases h
  · cases h
theorem cells_no44 {l p : List UInt8} {k : Nat} {q : Pd} (hp : Lib.hasPrefix (l.take (l.length - 1)) p = true) (hp4 : p.length = 4) (hpn : (44 : UInt8) ∉ p) (hs : Lib.hasSuffix l [62] = true) (h : shapeOf k ((l.take (l.length - 1)).drop 4) = some q) : (44 : UInt8) ∉ l := by
  unfold shapeOf at h
  rw [Option.map_eq_some_iff] at h
  obtain ⟨r, hr, -⟩ := h
  have h1 := rest_no44 _ _ _ _ (Nat.le_refl _) hr
  have hne : l ≠ [] := by intro e; subst e; simp [Lib.hasSuffix, List.isSuffixOf, List.isPrefixOf] at hs
  rw [suffix_iff hne] at hs
  have hlast := eq_of_beq hs
  have hpre : (l.take (l.length - 1)).take 4 = p := by
    rw [prefix_take, hp4] at hp; exact eq_of_beq hp
  intro hm
  have hl : l = p ++ (l.take (l.length - 1)).drop 4 ++ [62] := by
    rw [← hpre, List.take_append_drop, ← List.dropLast_eq_take, ← hlast, List.dropLast_concat_getLast]
  rw [hl, List.mem_append, List.mem_append, List.mem_singleton] at hm
  rcases hm with (hm | hm) | hm
  · exact hpn hm
  · exact h1 hm
  · exact absurd hm (by decide)
theorem isTy_no44 {l : List UInt8} (h : isTy l = true) : (44 : UInt8) ∉ l := by
  unfold isTy at h
  obtain ⟨q, hq⟩ := Option.isSome_iff_exists.1 h
  clear h
  unfold readOf at hq
  split at hq
  · rename_i p hp; exact elemOf_no44 hp
  · split at hq
    · rename_i hs
      split at hq
      · rename_i hp; exact cells_no44 hp rfl (by decide) hs hq
      · split at hq
        · rename_i hp; exact cells_no44 hp rfl (by decide) hs hq
        · exact foreignOf_no44 hq
    · exact foreignOf_no44 hq

/-- The reference's `Split`, between the brackets. -/
def rsplit (l : List UInt8) : Option (List (List UInt8)) :=
  match h : cutOf 44 l with
  | none => if isTy l then some [l] else none
  | some (x, y) =>
    if isTy x then
      if y.head? = some 32 then (rsplit y.tail).map (x :: ·) else none
    else none
termination_by l.length
decreasing_by have := cutOf_len h; simp; omega
theorem rsplit_last {l : List UInt8} (h : cutOf 44 l = none) : rsplit l = if isTy l then some [l] else none := by
  unfold rsplit
  split
  · rfl
  · rename_i h'; rw [h] at h'; cases h'
theorem rsplit_more {l x y : List UInt8} (h : cutOf 44 l = some (x, y)) : rsplit l = if isTy x then if y.head? = some 32 then (rsplit y.tail).map (x :: ·) else none else none := by
  rw [rsplit]
  split
  · rename_i h'; rw [h] at h'; cases h'
  · rename_i h'; rw [h] at h'; cases h'; rfl
def piecesL (l : List UInt8) : List (List UInt8) := Lib.split l [44, 32]
theorem pieces_data (b : ByteArray) : (piecesOf b).map (·.data.toList) = piecesL b.data.toList := by
  unfold piecesOf piecesL Lib.split
  rw [Lib.splitB_data]
theorem piecesL_miss {l : List UInt8} (h : Lib.index l [44, 32] = -1) : piecesL l = [l] := by
  unfold piecesL Lib.split
  rw [Lib.count_miss h, Lib.splitK]
theorem piecesL_hit {l : List UInt8} {i : Nat} (h : Lib.index l [44, 32] = i) : piecesL l = l.take i :: piecesL (l.drop (i + 2)) := by
  unfold piecesL Lib.split
  rw [Lib.count_hit (by simp) h, Nat.add_comm 1]
  rw [Lib.splitK, if_neg (by rw [h, beq_iff_eq]; omega), h]
  rfl
theorem occ_at {l : List UInt8} {j : Nat} (h : Lib.occAt l [44, 32] j = true) : l[j]? = some 44 ∧ l[j + 1]? = some 32 := by
  unfold Lib.occAt at h
  match hd : l.drop j, h with
  | [], h => simp [List.isPrefixOf] at h
  | [a], h => simp [List.isPrefixOf] at h
  | a :: b :: r, h =>
    simp [List.isPrefixOf] at h
    obtain ⟨rfl, rfl⟩ := h
    have h0 : l[j]? = (l.drop j)[0]? := by simp
    have h1 : l[j + 1]? = (l.drop j)[1]? := by simp
    rw [h0, h1, hd]; simp
theorem index_cut {x z : List UInt8} (h : (44 : UInt8) ∉ x) : Lib.index (x ++ 44 :: 32 :: z) [44, 32] = x.length := by
  refine Lib.index_first (by simp) ?_ ?_
  · simp [Lib.occAt, List.isPrefixOf]
  · intro j hj
    rw [Bool.eq_false_iff]
    intro ho
    have := (occ_at ho).1
    rw [List.getElem?_append_left hj] at this
    exact h (List.mem_of_getElem? this)
theorem rsplit_eq : ∀ (m : Nat) (l : List UInt8), l.length ≤ m → rsplit l = if (piecesL l).all isTy then some (piecesL l) else none
  | m, l, hm => by
    cases hc : cutOf 44 l with
    | none =>
      have hn : Lib.index l [44, 32] = -1 := by
        refine Lib.index_none fun j hj => ?_
        rw [Bool.eq_false_iff]
        intro ho
        have h44 := List.mem_of_getElem? (occ_at ho).1
        have := cutOf_take l 44 l.length (by
          intro x hx he
          subst he
          have hi := cutOf_none _ _ hc
          exact absurd hi (by
            have : ∀ (l : List UInt8), (44 : UInt8) ∈ l → cutOf 44 l ≠ none := by
              intro l
              induction l with
              | nil => simp
              | cons a l ih =>
                intro hm
                simp only [cutOf]
                split
                · simp
                · rename_i hne
                  rcases List.mem_cons.1 hm with h | h
                  · exact absurd h.symm hne
                  · simpa using ih h
            exact absurd hc (this l h44))) (by simp)
        have : ∀ (l : List UInt8), (44 : UInt8) ∈ l → cutOf 44 l ≠ none := by
          intro l
          induction l with
          | nil => simp
          | cons a l ih =>
            intro hm
            simp only [cutOf]
            split
            · simp
            · rename_i hne
              rcases List.mem_cons.1 hm with h | h
              · exact absurd h.symm hne
              · simpa using ih h
        exact this l h44 hc
      rw [rsplit_last hc, piecesL_miss hn]
      simp
    | some p =>
      obtain ⟨x, y⟩ := p
      have hlen := cutOf_len hc
      obtain ⟨-, hxy, hnx⟩ := cutOf_some _ _ _ _ hc
      obtain ⟨m', rfl⟩ : ∃ m', m = m' + 1 := ⟨m - 1, by omega⟩
      rw [rsplit_more hc]
      by_cases h32 : y.head? = some 32
      · obtain ⟨z, rfl⟩ : ∃ z, y = 32 :: z := by
          match y, h32 with
          | c :: z, h32 => simp at h32; subst h32; exact ⟨z, rfl⟩
        have hi : Lib.index l [44, 32] = x.length := by rw [hxy]; exact index_cut hnx
        have hd : l.drop (x.length + 2) = z := by rw [hxy]; simp [List.drop_append]
        have ht : l.take x.length = x := by rw [hxy]; simp
        rw [piecesL_hit hi, hd, ht, if_pos h32, List.tail_cons, rsplit_eq m' z (by simp at hlen; omega), List.all_cons]
        cases isTy x <;> cases (piecesL z).all isTy <;> simp
      · have hfirst : ∃ p r, piecesL l = p :: r ∧ (44 : UInt8) ∈ p := by
          by_cases hi : Lib.index l [44, 32] = -1
          · exact ⟨l, [], piecesL_miss hi, by rw [hxy]; simp⟩
          · have hge := Lib.index_ge l [44, 32]
            obtain ⟨i, hii⟩ : ∃ i : Nat, Lib.index l [44, 32] = i := ⟨(Lib.index l [44, 32]).toNat, by omega⟩
            refine ⟨_, _, piecesL_hit hii, ?_⟩
            have hocc : Lib.occAt l [44, 32] i = true := by
              rcases Lib.index_spec l [44, 32] with ⟨h, -⟩ | ⟨j, h, -, ho, -⟩
              · exact absurd h hi
              · obtain rfl : i = j := by omega
                exact ho
            obtain ⟨h1, h2⟩ := occ_at hocc
            have hgt : x.length < i := by
              rcases Nat.lt_trichotomy i x.length with h | h | h
              · rw [hxy, List.getElem?_append_left h] at h1
                exact absurd (List.mem_of_getElem? h1) hnx
              · subst h
                rw [hxy, List.getElem?_append_right (by omega)] at h2
                simp at h2
                exfalso; apply h32
                rw [List.head?_eq_getElem?]; exact h2
              · exact h
            have : l[x.length]? = some 44 := by rw [hxy]; simp
            rw [← List.getElem?_take_of_lt hgt] at this
            exact List.mem_of_getElem? this
        obtain ⟨p, r, hp, h44⟩ := hfirst
        have hnt : isTy p = false := by
          rw [Bool.eq_false_iff]; intro h; exact isTy_no44 h h44
        rw [if_neg h32, hp, List.all_cons, hnt]
        simp
end Go.Proofs.YtmepjbjmjbpchaaGreatDoor
end
section
/- The reference's Split and Join of lists of types; lists of strings that are the same. -/
namespace Go.Proofs.YtmepjbjmjbpchaaGreatDoor
open Go Go.RowKit Go.Sort
set_option linter.unusedVariables false
set_option linter.unusedSimpArgs false

theorem own_below {W W1 : World} {base : Nat} {e : TypeId} {v : Value} {n : Nat} {xs : List Value} (h : W.ownsRow base e 1 v n xs) (hb : Below W.heap.size W W1) : W1.ownsRow base e 1 v n xs :=
  ⟨h.1, by
    rcases h.2 with h | ⟨g, c, cur, h1, h2, h3, h4⟩
    · exact .inl h
    · exact .inr ⟨g, c, cur, h1, h2, blkBelow h3 hb, h4⟩⟩
theorem strSl_own {W : World} {base : Nat} {sa : Option Addr} {sc n : Nat} {ls : List ByteArray} (h : W.ownsRow base 9 1 (.slice sa n sc) n (ls.map .string)) : StrSl W sa ls ∧ ls.length = n := by
  have hln : ls.length = n := by have := h.1; simpa using this
  refine ⟨?_, hln⟩
  rcases h.2 with ⟨h1, h2⟩ | ⟨g, cap, cur, h1, h2, h3, h4, h5, h6, h7⟩
  · cases h1
    exact .inl (List.length_eq_zero_iff.1 (by omega))
  · cases h1
    refine .inr ⟨g, 0, rfl, blkLt h3, fun j hj => ?_⟩
    rw [Nat.zero_add, blkCell h3]
    have h8 : (cur.toList.take (n * 1))[j]? = some (.string ls[j]) := by rw [h7]; simp [hj]
    rw [List.getElem?_take_of_lt (by omega)] at h8
    simpa using h8
def RSplitPost (s : ByteArray) (w : World) (e : Ending) (w' : World) : Prop :=
  Below w.heap.size w w' ∧ match bodyOf s.data.toList with
  | none => e = .returned (.tuple #[.slice none 0 0, .bool false])
  | some l =>
    if l = [] then e = .returned (.tuple #[.slice none 0 0, .bool true])
    else match rsplit l with
    | none => e = .returned (.tuple #[.slice none 0 0, .bool false])
    | some ps => ∃ sa sc ls, e = .returned (.tuple #[.slice sa ps.length sc, .bool (decide (ps.length ≤ 100))]) ∧ StrSl w' sa ls ∧ ls.map (·.data.toList) = ps
theorem rsp_no {s : ByteArray} {w w' : World} {e : Ending} (h : bodyOf s.data.toList = none ∨ ∃ l, bodyOf s.data.toList = some l ∧ l ≠ [] ∧ rsplit l = none) (he : e = .returned (.tuple #[.slice none 0 0, .bool false])) (hb : Below w.heap.size w w') : RSplitPost s w e w' := by
  refine ⟨hb, ?_⟩
  rcases h with h | ⟨l, h, hl, hr⟩
  · rw [h]; exact he
  · rw [h]; dsimp only; rw [if_neg hl, hr]; exact he
theorem rsp_yes {s : ByteArray} {w w' : World} {e : Ending} {l : List UInt8} {ps : List (List UInt8)} (h : bodyOf s.data.toList = some l) (hl : l ≠ []) (hr : rsplit l = some ps) {sa : Option Addr} {sc : Nat} {ls : List ByteArray}
    (hs : StrSl w' sa ls) (hm : ls.map (·.data.toList) = ps) (he : e = .returned (.tuple #[.slice sa ps.length sc, .bool (decide (ps.length ≤ 100))])) (hb : Below w.heap.size w w') : RSplitPost s w e w' := by
  refine ⟨hb, ?_⟩
  rw [h]; dsimp only; rw [if_neg hl, hr]
  exact ⟨sa, sc, ls, he, hs, hm⟩
/-- The world at the head of the loop over the types of a list. -/
structure SpI (w : World) (b0 : List UInt8) (ps : List ByteArray) (sa : Option Addr) (sc : Nat) (rs : ByteArray) (wr : World) : Prop where
  go : rsplit b0 = (rsplit rs.data.toList).map fun r => ps.map (·.data.toList) ++ r
  sz : ps.length + rs.size ≤ 4294967296
  own : wr.ownsRow w.heap.size 9 1 (.slice sa ps.length sc) ps.length (ps.map .string)
  below : Below w.heap.size w wr

set_option maxRecDepth 100000 in
set_option maxHeartbeats 4000000 in
theorem rsplit_loop (s : ByteArray) (w : World) (hs : s.size ≤ 4294967280) (b : ByteArray) (hb : bodyOf s.data.toList = some b.data.toList) (hne : b.data.toList ≠ []) : Calls Tryz.prog 48 #[.string s] w (RSplitPost s w) := by
  have HB := Lib.hid hb
  obtain ⟨hp, hu, he, h2⟩ := bodyOf_some hb
  have hl : s.data.toList.length = s.size := by simp
  rw [hl] at h2
  have hp0 : 0 < s.size := by omega
  have hpl : s.size - 1 < s.size := by omega
  have hq2 : (2 : Int) ≤ (s.size : Int) := by omega
  have hex : s.extract 1 (s.size - 1) = b := by
    apply ByteArray.ext
    apply Array.ext'
    rw [he]
    simp [ByteArray.data_extract, List.drop_take, hl]
  have h40 : (((s[0]'hp0).toNat : Int) != 40) = false := by
    have hd := data_get s 0 hp0
    rw [List.drop_zero] at hd
    rw [hd] at hp
    simp [Lib.hasPrefix, List.isPrefixOf] at hp
    rw [← hp]; rfl
  have h41 : (((s[s.size - 1]'hpl).toNat : Int) != 41) = false := by
    have hne1 : s.data.toList.drop 1 ≠ [] := by intro e; have := congrArg List.length e; simp at this; omega
    rw [suffix_iff hne1, List.getLast_drop, List.getLast_eq_getElem] at hu
    have := eq_of_beq hu
    rw [show s[s.size - 1]'hpl = 41 from by rw [← this]; simp [ByteArray.getElem_eq_getElem_data]]
    rfl
  have hbs : b.size ≤ 4294967280 := by rw [← hex, ByteArray.size_extract]; omega
  have hbne : b.toList.isEmpty = false := by rw [List.isEmpty_eq_false_iff]; intro h; rw [toList_nil_iff] at h; exact hne h
  have HEX := Lib.hid hex
  have HNE := Lib.hid hne
  have HBNE := Lib.hid hbne
  clear hb hp hu he h2 hl hex hne hbne
  go_enter Tryz.func48, Tryz.ntmps48
  go_wp2_with fail
  go_loopw [0, 4] (fun rv ov wr => ∃ (ps : List ByteArray) (sa : Option Addr) (sc : Nat) (rs : ByteArray), rv = .string rs ∧ ov = .slice sa ps.length sc ∧ (rs.toList.isEmpty = false ∨ 0 < ps.length) ∧ SpI w b.data.toList ps sa sc rs wr) (fun rv _ _ => strLen rv)
  case atStart =>
    refine ⟨[], none, 0, s.extract 1 (s.size - 1), rfl, rfl, .inl (by rw [HEX.out]; exact HBNE.out), ?_, ?_, World.ownsRow_nil _ _ _ _, Below.refl _ _⟩
    · rw [HEX.out]; simp
    · rw [HEX.out]; simp; omega
  case round =>
    clear h40 h41 hq2
    obtain ⟨ps, sa, sc, rs, rfl, rfl, hcont, hi⟩ := hrel
    have hsz := hi.sz
    have HI := Lib.hid hi
    clear hi
    have hrs : rs.size ≤ 4294967296 := by omega
    have hcont2 : rs.toList.isEmpty = false ∨ (rs.toList.isEmpty = true ∧ (0 : Int) < (ps.length : Int)) := by
      rcases hcont with h | h
      · exact .inl h
      · cases hrs : rs.toList.isEmpty
        · exact .inl rfl
        · exact .inr ⟨rfl, by omega⟩
    clear hcont
    obtain ⟨i0, hin, hz0, hz1, hz2⟩ := info_parts (show (Tryz.prog.info? 9).map (fun i => (i.zero, i.size, i.bytes)) = some (some (.string ⟨#[]⟩), 1, 16) by kernel_rfl)
    rcases hcont2 with hcont2 | ⟨hcont2, hcont3⟩
    · go_wp2_with fail
      go_loop [5] (fun i => ∃ j : Nat, j ≤ rs.size ∧ i = .int .i64 j ∧ ∀ x ∈ rs.data.toList.take j, x ≠ 44) (fun i => rs.size - (intOf i).toNat)
      case atStart => exact ⟨0, Nat.zero_le _, rfl, by simp⟩
      case round =>
        obtain ⟨j, hj, rfl, hx⟩ := hrel
        have HX := Lib.hid hx
        clear hx
        rcases Nat.lt_or_ge j rs.size with hlt | hge
        · have hget := Lib.hid (bytes_get rs j hlt)
          by_cases hc : ((rs[j]'hlt).toNat : Int) = 44
          · have hb : (((rs[j]'hlt).toNat : Int) != 44) = false := by rw [hc]; rfl
            have hcut : cutOf 44 rs.data.toList = some (rs.data.toList.take j, rs.data.toList.drop (j + 1)) := by
              rw [cutOf_take _ 44 j HX.out (fun x hx => by rw [hget.out] at hx; cases hx; exact byte_eq 44 (by omega) hc), if_pos (by simpa using hlt)]
            have hex : (rs.extract 0 j).data.toList = rs.data.toList.take j := by simp [ByteArray.data_extract]
            have hgo := HI.out.go
            rw [rsplit_more hcut] at hgo
            have hj1 : (j : Int) + 1 ≤ (rs.size : Int) := by omega
            have hjn : ((j : Int) == (rs.size : Int)) = false := by rw [beq_eq_false_iff_ne]; omega
            have hxs : (rs.extract 0 j).size ≤ 4294967296 := by rw [ByteArray.size_extract]; omega
            have HEX := Lib.hid hex
            clear hc hex hcut
            cases hty : isTy (rs.data.toList.take j) with
            | false =>
              rw [hty] at hgo
              have HGO := Lib.hid hgo
              have HTY := Lib.hid hty
              clear hgo hty
              go_wp2_with (go_at_call 38; refine (ris_any _ _ (by omega)).mono ?_; rintro e w1 ⟨rfl, hb1⟩; rw [HEX.out, show (readOf (rs.data.toList.take j)).isSome = false from HTY.out])
              go_ret2
              exact rsp_no (.inr ⟨_, HB.out, HNE.out, by rw [HGO.out]; rfl⟩) rfl (below_own' HI.out.below hb1)
            | true =>
              rw [hty] at hgo
              have HTY := Lib.hid hty
              clear hty
              go_wp2_with fail
              refine (ris_any _ _ (by omega)).mono ?_
              rintro e w1 ⟨rfl, hb1⟩
              rw [HEX.out, show (readOf (rs.data.toList.take j)).isSome = true from HTY.out]
              have HOWN := Lib.hid (own_below HI.out.own hb1)
              have hsz1 := hb1.size
              have hszw := HI.out.below.size
              have HB1 := Lib.hid (below_own' HI.out.below hb1)
              clear hb1
              have hcs : ((rs.size : Int) ≤ (j : Int) + 1 ∧ (rs.data.toList.drop (j + 1)).head? ≠ some 32) ∨ (∃ hk : j + 1 < rs.size, (((rs[j + 1]'hk).toNat : Int) != 32) = true ∧ (rs.data.toList.drop (j + 1)).head? ≠ some 32) ∨ (∃ hk : j + 1 < rs.size, (((rs[j + 1]'hk).toNat : Int) != 32) = false ∧ (rs.data.toList.drop (j + 1)).head? = some 32) := by
                rcases Nat.lt_or_ge (j + 1) rs.size with hk | hk
                · have hd : (rs.data.toList.drop (j + 1)).head? = some (rs[j + 1]'hk) := by rw [List.head?_drop]; exact bytes_get rs (j + 1) hk
                  by_cases h32 : ((rs[j + 1]'hk).toNat : Int) = 32
                  · refine .inr (.inr ⟨hk, by rw [h32]; rfl, by rw [hd, byte_eq 32 (by omega) h32]; rfl⟩)
                  · refine .inr (.inl ⟨hk, by rw [bne_iff_ne]; exact h32, by rw [hd]; intro he; exact byte_ne 32 (by omega) h32 (Option.some.inj he)⟩)
                · refine .inl ⟨by omega, ?_⟩
                  rw [List.drop_of_length_le (by simp; omega)]
                  simp
              go_wp2_with (at_builtin; refine wpList_append_own _ rfl _ _ 25 rfl w.heap.size 9 i0 (.string ⟨#[]⟩) 1 16 Tryz.underlying25 hin hz0 hz1 hz2 rfl (by decide) _ _ _ rfl (HOWN.out.alloc _) ⟨w1.heap.size, 0, none⟩ 1 1 [.string (rs.extract 0 j)] rfl rfl ?c1 ?c2 ?c3 ?c4 ?c5 ?_)
              case c1 =>
                intro t u hj
                match t, hj with
                | 0, hj => simp at hj; subst hj; simp [Addr.add]
              case c2 => intro u hu; simp at hu; subst hu; rfl
              case c3 => unfold maxLen; omega
              case c4 => omega
              case c5 => simp; omega
              intro v' w3 hown' hgrow _
              obtain ⟨sa', sc', rfl⟩ := own_slice hown'
              have HOWN3 := Lib.hid (show w3.ownsRow w.heap.size 9 1 (.slice sa' (ps.length + 1) sc') (ps.length + 1) ((ps ++ [rs.extract 0 j]).map .string) by simpa using hown')
              have HB3 := Lib.hid ((belowA HB1.out (.cells #[.string (rs.extract 0 j)] 9)).grown hgrow (by simp; omega) (fun k hk => (HOWN.out.lt k hk).1))
              clear hown'
              rcases hcs with ⟨hk, h32⟩ | ⟨hk, hk2, h32⟩ | ⟨hk, hk2, h32⟩
              · rw [if_neg h32] at hgo
                have HGO := Lib.hid hgo
                clear hgo h32
                go_wp2_with fail
                go_ret2
                exact rsp_no (.inr ⟨_, HB.out, HNE.out, by rw [HGO.out]; rfl⟩) rfl HB3.out
              · rw [if_neg h32] at hgo
                have HGO := Lib.hid hgo
                have hk3 : (j : Int) + 1 < (rs.size : Int) := by omega
                clear hgo h32
                go_wp2_with fail
                go_ret2
                exact rsp_no (.inr ⟨_, HB.out, HNE.out, by rw [HGO.out]; rfl⟩) rfl HB3.out
              · rw [if_pos h32] at hgo
                have HGO := Lib.hid hgo
                have hk3 : (j : Int) + 1 < (rs.size : Int) := by omega
                have hk4 : (j : Int) + 2 ≤ (rs.size : Int) := by omega
                clear hgo h32
                go_wp2_with fail
                go_roundw
                · refine ⟨ps ++ [rs.extract 0 j], sa', sc', rs.extract (j + 2) rs.size, rfl, by simp, .inr (by simp), ?_, by simp [ByteArray.size_extract]; omega, by simpa using HOWN3.out, HB3.out⟩
                  rw [HGO.out]
                  have hxe : (rs.extract (j + 2) rs.size).data.toList = (rs.data.toList.drop (j + 1)).tail := by
                    simp [ByteArray.data_extract]
                    exact List.take_of_length_le (by simp)
                  rw [hxe]
                  cases rsplit (rs.data.toList.drop (j + 1)).tail with
                  | none => rfl
                  | some r => simp
                · simp [strLen]; omega
          · have hb : (((rs[j]'hlt).toNat : Int) != 44) = true := by rw [bne_iff_ne]; exact hc
            have hne := Lib.hid (byte_ne (c := rs[j]'hlt) 44 (by omega) hc)
            clear hc
            go_wp2_with fail
            go_round
            case rel => exact ⟨j + 1, by omega, by go_num, take_ne HX.out hget.out hne.out⟩
            case measure => simp [intOf]; omega
        · have hje : j = rs.size := by omega
          subst hje
          have hcut : cutOf 44 rs.data.toList = none := by
            rw [cutOf_take _ 44 rs.size HX.out (by simp), if_neg (by simp)]
          have hgo := HI.out.go
          rw [rsplit_last hcut] at hgo
          cases hty : isTy rs.data.toList with
          | false =>
            rw [hty] at hgo
            have HGO := Lib.hid hgo
            have HTY := Lib.hid hty
            clear hgo hty hcut
            go_wp2_with (go_at_call 38; refine (ris_any _ _ (by omega)).mono ?_; rintro e w1 ⟨rfl, hb1⟩; rw [show (readOf rs.data.toList).isSome = false from HTY.out])
            go_ret2
            exact rsp_no (.inr ⟨_, HB.out, HNE.out, by rw [HGO.out]; rfl⟩) rfl (below_own' HI.out.below hb1)
          | true =>
            rw [hty] at hgo
            have HGO := Lib.hid hgo
            have HTY := Lib.hid hty
            clear hgo hty hcut
            go_wp2_with fail
            refine (ris_any _ _ (by omega)).mono ?_
            rintro e w1 ⟨rfl, hb1⟩
            rw [show (readOf rs.data.toList).isSome = true from HTY.out]
            have HOWN := Lib.hid (own_below HI.out.own hb1)
            have hsz1 := hb1.size
            have hszw := HI.out.below.size
            have HB1 := Lib.hid (below_own' HI.out.below hb1)
            clear hb1
            go_wp2_with (at_builtin; refine wpList_append_own _ rfl _ _ 25 rfl w.heap.size 9 i0 (.string ⟨#[]⟩) 1 16 Tryz.underlying25 hin hz0 hz1 hz2 rfl (by decide) _ _ _ rfl (HOWN.out.alloc _) ⟨w1.heap.size, 0, none⟩ 1 1 [.string rs] rfl rfl ?c1 ?c2 ?c3 ?c4 ?c5 ?_)
            case c1 =>
              intro t u hj
              match t, hj with
              | 0, hj => simp at hj; subst hj; simp [Addr.add]
            case c2 => intro u hu; simp at hu; subst hu; rfl
            case c3 => unfold maxLen; omega
            case c4 => omega
            case c5 => simp; omega
            intro v' w3 hown' hgrow _
            obtain ⟨sa', sc', rfl⟩ := own_slice hown'
            have HOWN3 := Lib.hid (show w3.ownsRow w.heap.size 9 1 (.slice sa' (ps.length + 1) sc') (ps.length + 1) ((ps ++ [rs]).map .string) by simpa using hown')
            have HB3 := Lib.hid ((belowA HB1.out (.cells #[.string rs] 9)).grown hgrow (by simp; omega) (fun k hk => (HOWN.out.lt k hk).1))
            have hlen : ((ps.length : Int) + 1 ≤ 100) = (ps.length + 1 ≤ 100) := by rw [eq_iff_iff]; omega
            have HLEN := Lib.hid hlen
            clear hown' hlen
            go_wp2_with fail
            go_ret2
            obtain ⟨hsl, -⟩ := strSl_own HOWN3.out
            refine rsp_yes (sa := sa') (sc := sc') (ls := ps ++ [rs]) HB.out HNE.out HGO.out hsl (by simp) ?_ HB3.out
            have hd : decide ((ps.length : Int) + 1 ≤ 100) = decide (ps.length + 1 ≤ 100) := by rw [Bool.eq_iff_iff]; simp; omega
            simp [hd]
    · have hr0 : rs = ⟨#[]⟩ := by
        apply ByteArray.ext
        apply Array.ext'
        have := List.isEmpty_iff.1 hcont2
        rw [toList_nil_iff] at this
        exact this
      subst hr0
      have hgo := HI.out.go
      rw [rsplit_last (l := (⟨#[]⟩ : ByteArray).data.toList) rfl] at hgo
      have hty : isTy (⟨#[]⟩ : ByteArray).data.toList = false := by rfl
      rw [hty] at hgo
      have HGO := Lib.hid hgo
      clear hgo hty hcont2 hrs hsz
      go_wp2_with fail
      go_loop [5] (fun i => i = .int .i64 0) (fun i => 0)
      case atStart => rfl
      case round =>
        subst hrel
        go_wp2_with fail
        refine (ris_any ByteArray.empty _ (by decide)).mono ?_
        rintro e w1 ⟨rfl, hb1⟩
        rw [show (readOf ByteArray.empty.data.toList).isSome = false from rfl]
        go_wp2_with fail
        go_ret2
        exact rsp_no (.inr ⟨_, HB.out, HNE.out, by rw [HGO.out]; rfl⟩) rfl (below_own' HI.out.below hb1)

theorem bodyOf_none {l : List UInt8} (h : bodyOf l = none) : l.length < 2 ∨ (2 ≤ l.length ∧ l.head? ≠ some 40) ∨ (2 ≤ l.length ∧ l.head? = some 40 ∧ l.getLast? ≠ some 41) := by
  rcases Nat.lt_or_ge l.length 2 with h2 | h2
  · exact .inl h2
  · by_cases h40 : l.head? = some 40
    · refine .inr (.inr ⟨h2, h40, ?_⟩)
      intro hl
      match l, h2, h40, hl with
      | c :: r, h2, h40, hl =>
        simp at h40
        subst h40
        have hr : r ≠ [] := by intro e; subst e; simp at h2
        rw [List.getLast?_cons_of_ne_nil hr, List.getLast?_eq_some_getLast hr] at hl
        unfold bodyOf at h
        have h1 : Lib.hasPrefix ((40 : UInt8) :: r) [40] = true := by simp [Lib.hasPrefix, List.isPrefixOf]
        have h3 : Lib.hasSuffix ((40 : UInt8) :: r).tail [41] = true := by
          rw [List.tail_cons, suffix_iff hr]
          simpa using hl
        rw [h1, h3] at h
        simp at h
    · exact .inr (.inl ⟨h2, h40⟩)
set_option maxRecDepth 100000 in
set_option maxHeartbeats 2000000 in
theorem rsplit_no (s : ByteArray) (w : World) (hs : s.size ≤ 4294967280) (hb : bodyOf s.data.toList = none) : Calls Tryz.prog 48 #[.string s] w (RSplitPost s w) := by
  have hl : s.data.toList.length = s.size := by simp
  have hc := bodyOf_none hb
  rw [hl] at hc
  have HB := Lib.hid hb
  have hcs : s.size < 2 ∨ (∃ hp0 : 0 < s.size, 2 ≤ s.size ∧ (((s[0]'hp0).toNat : Int) != 40) = true) ∨ (∃ (hp0 : 0 < s.size) (hpl : s.size - 1 < s.size), 2 ≤ s.size ∧ (((s[0]'hp0).toNat : Int) != 40) = false ∧ (((s[s.size - 1]'hpl).toNat : Int) != 41) = true) := by
    rcases hc with h | ⟨h2, h⟩ | ⟨h2, h, h'⟩
    · exact .inl h
    · have hp0 : 0 < s.size := by omega
      refine .inr (.inl ⟨hp0, h2, ?_⟩)
      have hd := data_get s 0 hp0
      rw [List.drop_zero] at hd
      rw [hd] at h
      rw [bne_iff_ne]
      intro he
      exact h (by rw [byte_eq 40 (by omega) he]; rfl)
    · have hp0 : 0 < s.size := by omega
      have hpl : s.size - 1 < s.size := by omega
      refine .inr (.inr ⟨hp0, hpl, h2, ?_, ?_⟩)
      · have hd := data_get s 0 hp0
        rw [List.drop_zero] at hd
        rw [hd] at h
        simp at h
        rw [h]; rfl
      · rw [bne_iff_ne]
        intro he
        apply h'
        have := byte_eq (c := s[s.size - 1]'hpl) 41 (by omega) he
        rw [List.getLast?_eq_getElem?, hl, bytes_get s (s.size - 1) hpl, this]
        rfl
  clear hb hc hl
  rcases hcs with h | ⟨hp0, h2, h⟩ | ⟨hp0, hpl, h2, h, h'⟩
  · have hq : decide ((s.size : Int) < 2) = true := by simp; omega
    have hq2 : (s.size : Int) < 2 := by omega
    go_enter Tryz.func48, Tryz.ntmps48
    go_wp2_with fail
    go_ret2
    exact rsp_no (.inl HB.out) rfl (Below.refl _ _)
  all_goals
    have hq : decide ((s.size : Int) < 2) = false := by simp; omega
    have hq2 : (2 : Int) ≤ (s.size : Int) := by omega
    go_enter Tryz.func48, Tryz.ntmps48
    go_wp2_with fail
    go_ret2
    exact rsp_no (.inl HB.out) rfl (Below.refl _ _)
set_option maxRecDepth 100000 in
set_option maxHeartbeats 2000000 in
theorem rsplit_empty (s : ByteArray) (w : World) (hb : bodyOf s.data.toList = some []) : Calls Tryz.prog 48 #[.string s] w (RSplitPost s w) := by
  obtain ⟨hp, hu, he, h2⟩ := bodyOf_some hb
  have hl : s.data.toList.length = s.size := by simp
  have hsz : s.size = 2 := by
    have := congrArg List.length he
    simp at this
    omega
  have hs : s = ⟨#[40, 41]⟩ := by
    apply ByteArray.ext
    apply Array.ext'
    match hd : s.data.toList, hl with
    | [a, b], hl =>
      rw [hd] at hp hu
      simp [Lib.hasPrefix, Lib.hasSuffix, List.isPrefixOf, List.isSuffixOf] at hp hu
      rw [← hp, ← hu]
    | [], hl => simp at hl; omega
    | [a], hl => simp at hl; omega
    | a :: b :: c :: r, hl => simp at hl; omega
  subst hs
  clear hb hp hu he h2 hl hsz
  go_enter Tryz.func48, Tryz.ntmps48
  go_wp2_with fail
  go_loop [0, 4] (fun sv ov => sv = .string ⟨#[]⟩ ∧ ov = .slice none 0 0) (fun _ _ => 0)
  case atStart => exact ⟨rfl, rfl⟩
  case round =>
    obtain ⟨rfl, rfl⟩ := hrel
    go_wp2_with fail
    go_ret2
    refine ⟨Below.refl _ _, ?_⟩
    rw [show bodyOf (⟨#[40, 41]⟩ : ByteArray).data.toList = some [] from rfl]
    rfl
theorem rsplit_any (s : ByteArray) (w : World) (hs : s.size ≤ 4294967280) : Calls Tryz.prog 48 #[.string s] w (RSplitPost s w) := by
  cases hb : bodyOf s.data.toList with
  | none => exact rsplit_no s w hs hb
  | some l =>
    by_cases hl : l = []
    · subst hl; exact rsplit_empty s w hb
    · exact rsplit_loop s w hs ⟨l.toArray⟩ hb hl

end Go.Proofs.YtmepjbjmjbpchaaGreatDoor
end
section
/- Package attrs: the strings of values, kind by kind. -/
namespace Go.Proofs.YtmepjbjmjbpchaaGreatDoor
open Go Go.RowKit
set_option linter.unusedVariables false
set_option linter.unusedSimpArgs false

/-- A number's digits as a string. -/
def itoaB (z : Int) : ByteArray := ⟨(Lib.itoa z).toArray⟩
theorem itoaB_size (z : Int) (h0 : -9223372036854775808 ≤ z) (h1 : z ≤ 9223372036854775807) : (itoaB z).size ≤ 21 := by
  simpa [itoaB, ByteArray.size] using Lib.itoa_length_le z h0 h1
theorem fmt_any (n : Int) (h0 : -9223372036854775808 ≤ n) (h1 : n ≤ 9223372036854775807) (w : World) (hp : Pow w) :
    Calls Tryz.prog 136 #[.int .i64 n, .int .i64 10] w fun e w' => ∃ t : ByteArray, e = .returned (.string t) ∧ Hid (t = itoaB n) ∧ Below w.heap.size w w' := by
  have hc := (Tryz.internal_strconv_FormatInt_10 n h0 h1 w hp).mono (R' := fun e w' => ∃ t : ByteArray, e = .returned (.string t) ∧ Hid (t = itoaB n) ∧ Below w.heap.size w w') fun e w' ⟨he, k, os, hw⟩ => ⟨_, he, rfl, by rw [hw]; exact below_grow w k os⟩
  have HC := Lib.hid hc
  clear hc
  go_enter Tryz.func136, Tryz.ntmps136
  go_wp2_with (go_at_call 155; refine HC.out.mono ?_; rintro e w1 ⟨t, rfl, ht, hb⟩)
  go_ret
  exact ⟨t, rfl, ht, hb⟩
theorem join_sl' {w : World} {a : Option Addr} {ls : List ByteArray} (h : StrSl w a ls) (c : Nat) (hc : ls.length ≤ c) (hN : ls.length ≤ 140737488355328) (hl : (Lib.join (ls.map (·.data.toList)) [44, 32]).length ≤ 140737488355328) :
    Calls Tryz.prog 79 #[.slice a ls.length c, .string ⟨#[44, 32]⟩] w fun e w' => ∃ t : ByteArray, e = .returned (.string t) ∧ Hid (t.data.toList = Lib.join (ls.map (·.data.toList)) [44, 32]) ∧ t.size ≤ 140737488355328 ∧ Below w.heap.size w w' := by
  rcases h with rfl | ⟨g, off, rfl, h2, h3⟩
  · exact (Tryz.strings_Join_none a c ⟨#[44, 32]⟩ w).mono fun e w' ⟨he, hw⟩ => ⟨_, he, rfl, by simp [ByteArray.size], by rw [hw]; exact Below.refl _ _⟩
  · refine (Tryz.strings_Join g off c ls ⟨#[44, 32]⟩ w (fun j x hx => ?_) h2 hN hc (by simpa using hl)).mono fun e w' ⟨he, hb⟩ => ⟨_, he, rfl, by simpa [ByteArray.size] using hl, hb⟩
    obtain ⟨hj, rfl⟩ := List.getElem?_eq_some_iff.1 hx
    exact h3 j hj
theorem join_len (b : Nat) (xs : List (List UInt8)) (h : ∀ x ∈ xs, x.length ≤ b) : (Lib.join xs [44, 32]).length ≤ (b + 2) * xs.length := by
  cases xs with
  | nil => simp [Lib.join_nil]
  | cons x r =>
    rw [Lib.join_length]
    have := lens_le b (x :: r) h
    simp [Nat.add_mul, Nat.mul_add] at this ⊢
    omega

/-- The string of a value. -/
def valD (d : Dat) : List UInt8 :=
  if d.kind = 0 then Lib.itoa d.num else if d.kind = 1 then quoteL d.text.data.toList else if d.kind = 2 then 64 :: d.text.data.toList
  else if d.kind = 3 then d.text.data.toList else if d.kind = 4 then 91 :: (Lib.join ((d.ints.map itoaB).map (·.data.toList)) [44, 32] ++ [93])
  else (joinOf d.texts).1

section
variable (nm : ByteArray) (k n : Int) (tx : ByteArray) (ia : Option Addr) (il ic : Nat) (ta : Option Addr) (tl tc : Nat) (w : World)
theorem vnumber_any (h0 : -9223372036854775808 ≤ n) (h1 : n ≤ 9223372036854775807) (hp : Pow w) :
    Calls Tryz.prog 102 #[av nm k n tx ia il ic ta tl tc] w fun e w' => e = .returned (.string (itoaB n)) ∧ Below w.heap.size w w' := by
  have HP := Lib.hid hp
  clear hp
  go_enter Tryz.func102, Tryz.ntmps102
  go_wp2_with (go_at_call 136; refine (fmt_any n h0 h1 _ (pow_below HP.out ((Below.refl _ w).alloc (Nat.le_refl _) _))).mono ?_; rintro e w1 ⟨t, rfl, ht, hb1⟩)
  go_ret
  exact ⟨by rw [ht.out]; rfl, below_own hb1⟩
theorem symbol_any (hx : tx.size ≤ 140737488351232) : Calls Tryz.prog 107 #[av nm k n tx ia il ic ta tl tc] w fun e w' => e = .returned (.string (⟨#[64]⟩ ++ tx)) ∧ Below w.heap.size w w' := by
  go_enter Tryz.func107, Tryz.ntmps107
  go_wp2_with fail
  go_ret
  exact ⟨rfl, (Below.refl _ w).alloc (Nat.le_refl _) _⟩
theorem same_any : Calls Tryz.prog 109 #[av nm k n tx ia il ic ta tl tc] w fun e w' => e = .returned (.string tx) ∧ Below w.heap.size w w' := by
  go_enter Tryz.func109, Tryz.ntmps109
  go_wp2_with fail
  go_ret
  exact ⟨rfl, (Below.refl _ w).alloc (Nat.le_refl _) _⟩
theorem quoted_any (hs : tx.size ≤ 1000) : Calls Tryz.prog 105 #[av nm k n tx ia il ic ta tl tc] w fun e w' => e = .returned (.string ⟨(quoteL tx.data.toList).toArray⟩) ∧ Below w.heap.size w w' := by
  go_enter Tryz.func105, Tryz.ntmps105
  go_wp2_with (go_at_call 137; refine (quote_any tx _ (by omega)).mono ?_; rintro e w1 ⟨rfl, hb1⟩)
  go_ret
  exact ⟨rfl, below_own hb1⟩
theorem types_any (ls : List ByteArray) (hs : StrSl w ta ls) (hlen : ls.length ≤ 9223372036854775807) (hc : ls.length ≤ tc) (hl : ∀ s ∈ ls, s.size ≤ 140737488355328) :
    Calls Tryz.prog 114 #[av nm k n tx ia il ic ta ls.length tc] w fun e w' => e = .returned (.string ⟨(joinOf ls).1.toArray⟩) ∧ Below w.heap.size w w' := by
  have hb0 := (Below.refl w.heap.size w).alloc (Nat.le_refl _) (.cells (avCells nm k n tx ia il ic ta ls.length tc) 120)
  have HJ := Lib.hid (joinT_any ta tc ls _ (hs.below hb0) hlen hc hl)
  clear hb0 hs hl
  go_enter Tryz.func114, Tryz.ntmps114
  go_wp2_with (go_at_call 138; refine HJ.out.mono ?_; rintro e w1 ⟨rfl, hb1⟩)
  go_ret
  exact ⟨by simp, below_own hb1⟩
set_option maxRecDepth 100000 in
set_option maxHeartbeats 2000000 in
theorem ints_any (zs : List Int) (hs : IntSl w ia zs) (hlen : zs.length ≤ 100) (hz : ∀ z ∈ zs, -9223372036854775808 ≤ z ∧ z ≤ 9223372036854775807) (hp : Pow w) :
    Calls Tryz.prog 112 #[av nm k n tx ia zs.length ic ta tl tc] w fun e w' => e = .returned (.string ⟨(91 :: (Lib.join ((zs.map itoaB).map (·.data.toList)) [44, 32] ++ [93])).toArray⟩) ∧ Below w.heap.size w w' := by
  obtain ⟨i0, hin, hz0, hz1, hz2⟩ := info_parts (show (Tryz.prog.info? 9).map (fun i => (i.zero, i.size, i.bytes)) = some (some (.string ⟨#[]⟩), 1, 16) by kernel_rfl)
  have HS := Lib.hid hs
  have HZ := Lib.hid hz
  have HP := Lib.hid hp
  obtain ⟨N, hN⟩ : ∃ N, N = zs.length := ⟨_, rfl⟩
  rw [← hN] at hlen ⊢
  have HN := Lib.hid hN
  have hjl : Hid ((Lib.join ((zs.map itoaB).map (·.data.toList)) [44, 32]).length ≤ 10000) := Lib.hid (by
    have := join_len 21 ((zs.map itoaB).map (·.data.toList)) (fun x hx => by
      simp only [List.mem_map] at hx
      obtain ⟨y, ⟨z, hzm, rfl⟩, rfl⟩ := hx
      simpa using itoaB_size z (HZ.out z hzm).1 (HZ.out z hzm).2)
    simp at this ⊢; omega)
  clear hs hz hp hN
  go_enter Tryz.func112, Tryz.ntmps112
  go_wp2_with fail
  go_loopw [3, 9] (fun v i wr => ∃ (j : Nat) (sa : Option Addr) (sc : Nat), v = .slice sa j sc ∧ i = .int .i64 j ∧ j ≤ N ∧ wr.ownsRow w.heap.size 9 1 (.slice sa j sc) j (((zs.map itoaB).take j).map .string) ∧ Below w.heap.size w wr) (fun _ i _ => N - (intOf i).toNat)
  case atStart => exact ⟨0, none, 0, rfl, rfl, Nat.zero_le _, World.ownsRow_nil _ _ _ _, (Below.refl _ w).alloc (Nat.le_refl _) _⟩
  case round =>
    obtain ⟨j, sa, sc, rfl, rfl, hj, ho, hb⟩ := hrel
    have HO := Lib.hid ho
    have HB := Lib.hid hb
    have hszw := hb.size
    clear ho hb
    rcases Nat.lt_or_ge j N with hlt | hge
    · have hl0 : j < zs.length := by rw [← HN.out]; exact hlt
      obtain ⟨g, off, rfl, hg, hcell⟩ := (HS.out.below HB.out).at hl0
      have hlt' : (j : Int) < (N : Int) := by omega
      obtain ⟨z, hze⟩ : ∃ z, z = zs.getD j 0 := ⟨_, rfl⟩
      rw [← hze] at hcell
      have hzm : z ∈ zs := by rw [hze, List.getD_eq_getElem?_getD, List.getElem?_eq_getElem hl0]; exact List.getElem_mem _
      obtain ⟨z0, z1⟩ := HZ.out z hzm
      have HTK : Hid ((zs.map itoaB).take (j + 1) = (zs.map itoaB).take j ++ [itoaB z]) := Lib.hid (by
        rw [List.take_add_one, List.getElem?_map, List.getElem?_eq_getElem hl0, hze, List.getD_eq_getElem?_getD, List.getElem?_eq_getElem hl0]; rfl)
      have hj9 : j < 100 := by omega
      clear hze hzm
      go_wp2_with (first
        | (go_at_call 136; refine (fmt_any z z0 z1 wr (pow_below HP.out HB.out)).mono ?_; rintro e w2 ⟨t, rfl, ht, hb2⟩)
        | (at_builtin; refine wpList_append_own _ rfl _ _ 25 rfl w.heap.size 9 i0 (.string ⟨#[]⟩) 1 16 Tryz.underlying25 hin hz0 hz1 hz2 rfl (by decide) _ _ _ rfl ((own_below HO.out hb2).alloc _) ⟨w2.heap.size, 0, none⟩ 1 1 [.string t] rfl rfl ?c1 ?c2 ?c3 ?c4 ?c5 ?_))
      case c1 =>
        intro t u hj
        match t, hj with
        | 0, hj => simp at hj; subst hj; simp [Addr.add]
      case c2 => intro u hu; simp at hu; subst hu; rfl
      case c3 => unfold maxLen; omega
      case c4 => omega
      case c5 => simp; have := hb2.size; omega
      intro v' w3 hown' hgrow _
      obtain ⟨sa', sc', rfl⟩ := own_slice hown'
      have HOWN3 := Lib.hid (show w3.ownsRow w.heap.size 9 1 (.slice sa' (j + 1) sc') (j + 1) (((zs.map itoaB).take (j + 1)).map .string) by rw [HTK.out, ← ht.out]; simpa using hown')
      have hszb := hb2.size
      have HB3 := Lib.hid ((belowA (below_own' HB.out hb2) (.cells #[.string t] 9)).grown hgrow (by simp; omega) (fun k hk => ((own_below HO.out hb2).lt k hk).1))
      clear hown'
      go_wp2_with fail
      go_roundw
      · exact ⟨j + 1, sa', sc', by go_num, by go_num, by omega, HOWN3.out, HB3.out⟩
      · simp [intOf]; omega
    · obtain rfl : N = j := by omega
      have htk : (zs.map itoaB).take N = zs.map itoaB := List.take_of_length_le (by simp [HN.out])
      have ho := HO.out
      rw [htk] at ho
      have hlm : (zs.map itoaB).length = N := by simp [HN.out]
      have hsl := own_strs (zs := zs.map itoaB) ho
      obtain ⟨sa', sc', he, hcap, -⟩ := own_form ho
      cases he
      have HJ := Lib.hid (join_sl' hsl sc (by rw [hlm]; exact hcap) (by rw [hlm]; omega) (Nat.le_trans hjl.out (by omega)))
      rw [hlm] at HJ
      clear hcap ho hsl hlm htk
      go_wp2_with (go_at_call 79; refine HJ.out.mono ?_; rintro e w2 ⟨t, rfl, ht, hts, hb2⟩)
      go_ret
      refine ⟨?_, below_own' HB.out hb2⟩
      have e1 : (⟨#[91]⟩ ++ t ++ ⟨#[93]⟩ : ByteArray) = ⟨(91 :: (Lib.join ((zs.map itoaB).map (·.data.toList)) [44, 32] ++ [93])).toArray⟩ := by
        apply ByteArray.ext
        apply Array.ext'
        rw [← ht.out]
        simp
      rw [← e1]; rfl
end
end Go.Proofs.YtmepjbjmjbpchaaGreatDoor
end
section
/- attrs.pieces: the parts of a list between commas that stand outside of strings and brackets. -/
namespace Go.Proofs.YtmepjbjmjbpchaaGreatDoor
open Go Go.RowKit
set_option linter.unusedVariables false
set_option linter.unusedSimpArgs false

/-- The parts from a place on: d the depth, q whether within a string, f where the part begins, k whether the next rune is passed over. -/
def pcs (s : ByteArray) : Nat → Nat → Int → Bool → Nat → Bool → List ByteArray
  | 0, _, _, _, f, _ => [s.extract f s.size]
  | n + 1, pos, d, q, f, k =>
    if pos < s.size then
      if k = true then pcs s n (pos + (Utf8.decode s pos).2) d q f false
      else if q = true ∧ (Utf8.decode s pos).1 = 92 then pcs s n (pos + (Utf8.decode s pos).2) d q f true
      else if (Utf8.decode s pos).1 = 34 then pcs s n (pos + (Utf8.decode s pos).2) d (!q) f false
      else if q = true then pcs s n (pos + (Utf8.decode s pos).2) d q f false
      else if (Utf8.decode s pos).1 = 40 ∨ (Utf8.decode s pos).1 = 91 ∨ (Utf8.decode s pos).1 = 60 then pcs s n (pos + (Utf8.decode s pos).2) (d + 1) q f false
      else if (Utf8.decode s pos).1 = 41 ∨ (Utf8.decode s pos).1 = 93 ∨ (Utf8.decode s pos).1 = 62 then pcs s n (pos + (Utf8.decode s pos).2) (d - 1) q f false
      else if (Utf8.decode s pos).1 = 44 ∧ d = 0 then s.extract f pos :: pcs s n (pos + (Utf8.decode s pos).2) d q (pos + 1) false
      else pcs s n (pos + (Utf8.decode s pos).2) d q f false
    else [s.extract f s.size]
def piecesB (s : ByteArray) : List ByteArray := pcs s s.size 0 0 false 0 false
theorem pcs_end (s : ByteArray) (n pos : Nat) (d : Int) (q : Bool) (f : Nat) (k : Bool) (h : ¬ pos < s.size) : pcs s n pos d q f k = [s.extract f s.size] := by
  cases n <;> simp [pcs, h]
theorem width_pos (s : ByteArray) (pos : Nat) (h : pos < s.size) : 1 ≤ (Utf8.decode s pos).2 := by
  by_cases ha : (s[pos]'h).toNat < 128
  · rw [decode_ascii s pos h ha]
    exact Nat.le_refl _
  · exact (decode_high s pos h (by omega)).2
/-- What the loop carries. -/
structure PcI (s : ByteArray) (w : World) (wr : World) (pos n f : Nat) (d : Int) (q k : Bool) (acc : List ByteArray) (v : Value) : Prop where
  own : wr.ownsRow (w.heap.size + 1) 9 1 v acc.length (acc.map .string)
  it : wr.heap[w.heap.size]? = some (.stringIter s pos)
  bel : Below w.heap.size w wr
  eq : acc ++ pcs s n pos d q f k = piecesB s
  fuel : s.size ≤ pos + n
  f1 : f ≤ pos
  f2 : f ≤ s.size
  d1 : -(pos : Int) ≤ d
  d2 : d ≤ pos
  al : acc.length ≤ f
theorem PcI.next {s : ByteArray} {w wr : World} {pos n f : Nat} {d : Int} {q k : Bool} {acc : List ByteArray} {v : Value} (h : PcI s w wr pos (n + 1) f d q k acc v) (hp : pos < s.size) {d' : Int} {q' k' : Bool}
    (he : pcs s (n + 1) pos d q f k = pcs s n (pos + (Utf8.decode s pos).2) d' q' f k') (hd1 : -((pos : Int) + 1) ≤ d') (hd2 : d' ≤ (pos : Int) + 1) :
    PcI s w (wr.iterAt w.heap.size s (pos + (Utf8.decode s pos).2)) (pos + (Utf8.decode s pos).2) n f d' q' k' acc v := by
  have hwd := width_pos s pos hp
  exact ⟨ownsRow_iterAt h.own (by omega) s _, Lib.iterAt_heap _ _ _ _ _ h.it, Lib.below_iterAt h.bel (Nat.le_refl _) s _, by rw [← he]; exact h.eq, by have := h.fuel; omega, by have := h.f1; omega, h.f2, by omega, by omega, h.al⟩

set_option maxRecDepth 100000 in
set_option maxHeartbeats 8000000 in
theorem pieces_any (s : ByteArray) (w : World) (hs : s.size ≤ 1099511627776) :
    Calls Tryz.prog 50 #[.string s] w fun e w' => ∃ sa sc, e = .returned (.slice sa (piecesB s).length sc) ∧ w'.ownsRow w.heap.size 9 1 (.slice sa (piecesB s).length sc) (piecesB s).length ((piecesB s).map .string) ∧ Below w.heap.size w w' := by
  obtain ⟨i0, hin, hz0, hz1, hz2⟩ := info_parts (show (Tryz.prog.info? 9).map (fun i => (i.zero, i.size, i.bytes)) = some (some (.string ⟨#[]⟩), 1, 16) by kernel_rfl)
  go_enter Tryz.func50, Tryz.ntmps50
  go_wp2_with fail
  go_loopw [3, 4, 5, 6, 7] (fun v dv qv fv kv wr => ∃ (pos n f : Nat) (d : Int) (q k : Bool) (acc : List ByteArray) (sa : Option Addr) (sc : Nat), v = .slice sa acc.length sc ∧ dv = .int .i64 d ∧ qv = .bool q ∧ fv = .int .i64 f ∧ kv = .bool k ∧ PcI s w wr pos n f d q k acc (.slice sa acc.length sc)) (fun _ _ _ _ _ wr => s.size - wr.iterPos w.heap.size)
  case atStart => exact ⟨0, s.size, 0, 0, false, false, [], none, 0, rfl, rfl, rfl, rfl, rfl, ⟨World.ownsRow_nil _ _ _ _, World.iter_heap w s 0, (Below.refl _ w).alloc (Nat.le_refl _) _, rfl, by omega, by omega, by omega, by omega, by omega, by simp⟩⟩
  case round =>
    obtain ⟨pos, n, f, d, q, k, acc, sa, sc, rfl, rfl, rfl, rfl, rfl, hI⟩ := hrel
    have HI := Lib.hid hI
    have hszw := hI.bel.size
    have hf1 := hI.f1
    have hf2 := hI.f2
    have hd1 := hI.d1
    have hd2 := hI.d2
    have hal := hI.al
    by_cases hp : pos < s.size
    · obtain ⟨n, rfl⟩ : ∃ m, n = m + 1 := ⟨n - 1, by have := hI.fuel; omega⟩
      have hwd := Lib.hid (width_pos s pos hp)
      have hcle := decode_le s pos
      obtain ⟨W, hW⟩ : ∃ W, W = wr.iterAt w.heap.size s (pos + (Utf8.decode s pos).2) := ⟨_, rfl⟩
      obtain ⟨c, hc⟩ : ∃ c, c = (Utf8.decode s pos).1 := ⟨_, rfl⟩
      have hnx : ∀ ty, (Instr.next (.pointer (some ⟨w.heap.size, 0, none⟩)) true ty).run Tryz.prog wr = .ok (.tuple #[.bool true, .int .i64 pos, .int .i32 c]) W := fun ty => by rw [hc, hW]; exact Lib.run_next_any_at wr w.heap.size s pos ty hI.it hp
      rw [← hc] at hcle
      have HW := Lib.hid hW
      have HC := Lib.hid hc
      have hmes : Hid (s.size - (pos + (Utf8.decode s pos).2) < s.size - wr.iterPos w.heap.size) := Lib.hid (by rw [iterPos_of hI.it]; have := hwd.out; omega)
      have hWs : W.heap.size = wr.heap.size := by rw [hW, Lib.iterAt_size]
      clear hW hc hI
      have hcs : k = true ∨ (k = false ∧ q = true ∧ c = 92) ∨ (k = false ∧ q = true ∧ c = 34) ∨ (k = false ∧ q = false ∧ c = 34) ∨ (k = false ∧ q = true ∧ c ≠ 92 ∧ c ≠ 34)
          ∨ (k = false ∧ q = false ∧ (c = 40 ∨ c = 91 ∨ c = 60)) ∨ (k = false ∧ q = false ∧ (c = 41 ∨ c = 93 ∨ c = 62)) ∨ (k = false ∧ q = false ∧ c = 44 ∧ d = 0) ∨ (k = false ∧ q = false ∧ c = 44 ∧ d ≠ 0)
          ∨ (k = false ∧ q = false ∧ c ≠ 34 ∧ c ≠ 40 ∧ c ≠ 91 ∧ c ≠ 60 ∧ c ≠ 41 ∧ c ≠ 93 ∧ c ≠ 62 ∧ c ≠ 44) := by
        cases k <;> cases q <;> simp <;> omega
      rcases hcs with rfl | ⟨rfl, rfl, rfl⟩ | ⟨rfl, rfl, rfl⟩ | ⟨rfl, rfl, rfl⟩ | ⟨rfl, rfl, h92, h34⟩ | ⟨rfl, rfl, rfl | rfl | rfl⟩ | ⟨rfl, rfl, rfl | rfl | rfl⟩ | ⟨rfl, rfl, rfl, rfl⟩ | ⟨rfl, rfl, rfl, hd0⟩ | ⟨rfl, rfl, h34, h40, h91, h60, h41, h93, h62, h44⟩
      · go_wp2_with fail
        go_roundw
        · exact ⟨_, n, f, d, q, false, acc, sa, sc, rfl, by go_num, by first | rfl | (simp; done), rfl, rfl, by rw [HW.out]; exact HI.out.next hp (by simp [pcs, hp, ← HC.out]) (by omega) (by omega)⟩
        · rw [HW.out, iterPos_of (Lib.iterAt_heap _ _ _ _ _ HI.out.it)]; exact hmes.out
      · go_wp2_with fail
        go_roundw
        · exact ⟨_, n, f, d, true, true, acc, sa, sc, rfl, by go_num, by first | rfl | (simp; done), rfl, rfl, by rw [HW.out]; exact HI.out.next hp (by simp [pcs, hp, ← HC.out]) (by omega) (by omega)⟩
        · rw [HW.out, iterPos_of (Lib.iterAt_heap _ _ _ _ _ HI.out.it)]; exact hmes.out
      · go_wp2_with fail
        go_roundw
        · exact ⟨_, n, f, d, false, false, acc, sa, sc, rfl, by go_num, by first | rfl | (simp; done), rfl, rfl, by rw [HW.out]; exact HI.out.next hp (by simp [pcs, hp, ← HC.out]) (by omega) (by omega)⟩
        · rw [HW.out, iterPos_of (Lib.iterAt_heap _ _ _ _ _ HI.out.it)]; exact hmes.out
      · go_wp2_with fail
        go_roundw
        · exact ⟨_, n, f, d, true, false, acc, sa, sc, rfl, by go_num, by first | rfl | (simp; done), rfl, rfl, by rw [HW.out]; exact HI.out.next hp (by simp [pcs, hp, ← HC.out]) (by omega) (by omega)⟩
        · rw [HW.out, iterPos_of (Lib.iterAt_heap _ _ _ _ _ HI.out.it)]; exact hmes.out
      · have i92 : ¬ ((c : Int) = 92) := by omega
        have i34 : ¬ ((c : Int) = 34) := by omega
        go_wp2_with fail
        go_roundw
        · exact ⟨_, n, f, d, true, false, acc, sa, sc, rfl, by go_num, by first | rfl | (simp; done), rfl, rfl, by rw [HW.out]; exact HI.out.next hp (by simp [pcs, hp, ← HC.out, h92, h34]) (by omega) (by omega)⟩
        · rw [HW.out, iterPos_of (Lib.iterAt_heap _ _ _ _ _ HI.out.it)]; exact hmes.out
      · go_wp2_with fail
        go_roundw
        · exact ⟨_, n, f, d + 1, false, false, acc, sa, sc, rfl, by go_num, by first | rfl | (simp; done), rfl, rfl, by rw [HW.out]; exact HI.out.next hp (by simp [pcs, hp, ← HC.out]) (by omega) (by omega)⟩
        · rw [HW.out, iterPos_of (Lib.iterAt_heap _ _ _ _ _ HI.out.it)]; exact hmes.out
      · go_wp2_with fail
        go_roundw
        · exact ⟨_, n, f, d + 1, false, false, acc, sa, sc, rfl, by go_num, by first | rfl | (simp; done), rfl, rfl, by rw [HW.out]; exact HI.out.next hp (by simp [pcs, hp, ← HC.out]) (by omega) (by omega)⟩
        · rw [HW.out, iterPos_of (Lib.iterAt_heap _ _ _ _ _ HI.out.it)]; exact hmes.out
      · go_wp2_with fail
        go_roundw
        · exact ⟨_, n, f, d + 1, false, false, acc, sa, sc, rfl, by go_num, by first | rfl | (simp; done), rfl, rfl, by rw [HW.out]; exact HI.out.next hp (by simp [pcs, hp, ← HC.out]) (by omega) (by omega)⟩
        · rw [HW.out, iterPos_of (Lib.iterAt_heap _ _ _ _ _ HI.out.it)]; exact hmes.out
      · go_wp2_with fail
        go_roundw
        · exact ⟨_, n, f, d - 1, false, false, acc, sa, sc, rfl, by go_num, by first | rfl | (simp; done), rfl, rfl, by rw [HW.out]; exact HI.out.next hp (by simp [pcs, hp, ← HC.out]) (by omega) (by omega)⟩
        · rw [HW.out, iterPos_of (Lib.iterAt_heap _ _ _ _ _ HI.out.it)]; exact hmes.out
      · go_wp2_with fail
        go_roundw
        · exact ⟨_, n, f, d - 1, false, false, acc, sa, sc, rfl, by go_num, by first | rfl | (simp; done), rfl, rfl, by rw [HW.out]; exact HI.out.next hp (by simp [pcs, hp, ← HC.out]) (by omega) (by omega)⟩
        · rw [HW.out, iterPos_of (Lib.iterAt_heap _ _ _ _ _ HI.out.it)]; exact hmes.out
      · go_wp2_with fail
        go_roundw
        · exact ⟨_, n, f, d - 1, false, false, acc, sa, sc, rfl, by go_num, by first | rfl | (simp; done), rfl, rfl, by rw [HW.out]; exact HI.out.next hp (by simp [pcs, hp, ← HC.out]) (by omega) (by omega)⟩
        · rw [HW.out, iterPos_of (Lib.iterAt_heap _ _ _ _ _ HI.out.it)]; exact hmes.out
      · have hIw : PcI s w W (pos + (Utf8.decode s pos).2) n f 0 false false acc (.slice sa acc.length sc) ∨ True := .inr trivial
        have HOW : Hid (W.ownsRow (w.heap.size + 1) 9 1 (.slice sa acc.length sc) acc.length (acc.map .string)) := Lib.hid (by rw [HW.out]; exact ownsRow_iterAt HI.out.own (by omega) s _)
        have HIT : Hid (W.heap[w.heap.size]? = some (.stringIter s (pos + (Utf8.decode s pos).2))) := Lib.hid (by rw [HW.out]; exact Lib.iterAt_heap _ _ _ _ _ HI.out.it)
        have HBW : Hid (Below w.heap.size w W) := Lib.hid (by rw [HW.out]; exact Lib.below_iterAt HI.out.bel (Nat.le_refl _) s _)
        have hzit : w.heap.size < W.heap.size := blkLt HIT.out
        have hfp : (f : Int) ≤ (pos : Int) := by omega
        have hf0 : (0 : Int) ≤ (f : Int) := by omega
        have hps : (pos : Int) ≤ (s.size : Int) := by omega
        obtain ⟨na, hna⟩ : ∃ na, na = acc.length := ⟨_, rfl⟩
        rw [← hna] at HOW hal ⊢
        have HNA := Lib.hid hna
        clear hna hIw
        go_wp2_with (at_builtin; go_loud (refine wpList_append_own _ rfl _ _ 25 rfl (w.heap.size + 1) 9 i0 (.string ⟨#[]⟩) 1 16 Tryz.underlying25 hin hz0 hz1 hz2 rfl (by decide) (.slice sa na sc) na (acc.map .string) (by simp [Act.eval]) (HOW.out.alloc _) ⟨W.heap.size, 0, none⟩ 1 1 [.string (s.extract f pos)] (by simp [Act.eval]) rfl ?c1 ?c2 ?c3 ?c4 ?c5 ?_))
        case c1 =>
          intro t u hj
          match t, hj with
          | 0, hj => simp at hj; subst hj; simp [Addr.add]
        case c2 => intro u hu; simp at hu; subst hu; rfl
        case c3 => unfold maxLen; omega
        case c4 => omega
        case c5 => simp; omega
        intro v' w3 hown' hgrow _
        obtain ⟨sa', sc', rfl⟩ := own_slice hown'
        have HI3 : Hid (PcI s w w3 (pos + (Utf8.decode s pos).2) n (pos + 1) 0 false false (acc ++ [s.extract f pos]) (.slice sa' (acc ++ [s.extract f pos]).length sc')) := Lib.hid (by
          have hwd := hwd.out
          have hlt := HOW.out.lt
          have hgb := hgrow.block w.heap.size (by simp; omega) (fun e => by have := (hlt _ e.symm).1; omega)
          refine ⟨?_, ?_, ?_, ?_, by have := HI.out.fuel; omega, by omega, by omega, by omega, by omega, by have := HNA.out; simp; omega⟩
          · rw [List.length_append, List.map_append, ← HNA.out]; exact hown'
          · rw [hgb]; exact heap_alloc_old HIT.out _
          · exact (belowA HBW.out _).grown hgrow (by simp; omega) (fun k hk => by have := (hlt k hk).1; omega)
          · rw [← HI.out.eq]; simp [pcs, hp, ← HC.out])
        clear hown' hgrow
        go_wp2_with fail
        go_roundw
        · exact ⟨_, n, pos + 1, 0, false, false, acc ++ [s.extract f pos], sa', sc', by rw [List.length_append, ← HNA.out]; rfl, rfl, rfl, by go_num, rfl, HI3.out⟩
        · rw [iterPos_of HI3.out.it]; exact hmes.out
      · have i0 : ¬ (d = 0) := hd0
        go_wp2_with fail
        go_roundw
        · exact ⟨_, n, f, d, false, false, acc, sa, sc, rfl, by go_num, by first | rfl | (simp; done), rfl, rfl, by rw [HW.out]; exact HI.out.next hp (by simp [pcs, hp, ← HC.out, hd0]) (by omega) (by omega)⟩
        · rw [HW.out, iterPos_of (Lib.iterAt_heap _ _ _ _ _ HI.out.it)]; exact hmes.out
      · have i34 : ¬ ((c : Int) = 34) := by omega
        have i40 : ¬ ((c : Int) = 40) := by omega
        have i91 : ¬ ((c : Int) = 91) := by omega
        have i60 : ¬ ((c : Int) = 60) := by omega
        have i41 : ¬ ((c : Int) = 41) := by omega
        have i93 : ¬ ((c : Int) = 93) := by omega
        have i62 : ¬ ((c : Int) = 62) := by omega
        have i44 : ¬ ((c : Int) = 44) := by omega
        go_wp2_with fail
        all_goals try (exfalso; simp only [beq_iff_eq] at *; omega)
        go_roundw
        · exact ⟨_, n, f, d, false, false, acc, sa, sc, rfl, by go_num, by first | rfl | (simp; done), rfl, rfl, by rw [HW.out]; exact HI.out.next hp (by simp [pcs, hp, ← HC.out, h34, h40, h91, h60, h41, h93, h62, h44]) (by omega) (by omega)⟩
        · rw [HW.out, iterPos_of (Lib.iterAt_heap _ _ _ _ _ HI.out.it)]; exact hmes.out
    · have hnx : ∀ ty, (Instr.next (.pointer (some ⟨w.heap.size, 0, none⟩)) true ty).run Tryz.prog wr = .ok (.tuple #[.bool false]) wr := fun ty => Lib.run_next_end_at wr w.heap.size s pos ty hI.it hp
      have hfs : (f : Int) ≤ (s.size : Int) := by omega
      have hf0 : (0 : Int) ≤ (f : Int) := by omega
      have HOW := Lib.hid hI.own
      have hzit : w.heap.size < wr.heap.size := blkLt hI.it
      have heq : Hid (piecesB s = acc ++ [s.extract f s.size]) := Lib.hid (by rw [← hI.eq, pcs_end _ _ _ _ _ _ _ hp])
      obtain ⟨na, hna⟩ : ∃ na, na = acc.length := ⟨_, rfl⟩
      rw [← hna] at HOW hal ⊢
      have HNA := Lib.hid hna
      have hnas : na ≤ 1099511627776 := by
        omega
      clear hna hI
      go_wp2_with (at_builtin; refine wpList_append_own _ rfl _ _ 25 rfl (w.heap.size + 1) 9 i0 (.string ⟨#[]⟩) 1 16 Tryz.underlying25 hin hz0 hz1 hz2 rfl (by decide) (.slice sa na sc) na (acc.map .string) (by simp [Act.eval]) (HOW.out.alloc _) ⟨wr.heap.size, 0, none⟩ 1 1 [.string (s.extract f s.size)] (by simp [Act.eval]) rfl ?c1 ?c2 ?c3 ?c4 ?c5 ?_)
      case c1 =>
        intro t u hj
        match t, hj with
        | 0, hj => simp at hj; subst hj; simp [Addr.add]
      case c2 => intro u hu; simp at hu; subst hu; rfl
      case c3 => unfold maxLen; omega
      case c4 => omega
      case c5 => simp; omega
      intro v' w3 hown' hgrow _
      obtain ⟨sa', sc', rfl⟩ := own_slice hown'
      go_wp2_with fail
      go_ret
      have hlt := HOW.out.lt
      have hln : (piecesB s).length = na + 1 := by rw [heq.out, List.length_append, ← HNA.out]; rfl
      refine ⟨sa', sc', by rw [hln]; rfl, ?_, (belowA HI.out.bel _).grown hgrow (by simp; omega) (fun k hk => by have := (hlt k hk).1; omega)⟩
      rw [hln, heq.out, List.map_append]
      exact ⟨hown'.1, hown'.2.imp id fun ⟨g, cap, cur, a1, a2, r⟩ => ⟨g, cap, cur, a1, by omega, r⟩⟩
end Go.Proofs.YtmepjbjmjbpchaaGreatDoor
end
section
/- attrs.text. -/
namespace Go.Proofs.YtmepjbjmjbpchaaGreatDoor
open Go Go.RowKit
set_option linter.unusedVariables false
set_option linter.unusedSimpArgs false
attribute [local go_sem ↓] Go.wp_at_zero Go.wp_at_succ

section
variable (nm : ByteArray) (k n : Int) (tx : ByteArray) (ia : Option Addr) (il ic : Nat) (ta : Option Addr) (tl tc : Nat) (w : World)
set_option maxRecDepth 100000 in
set_option maxHeartbeats 4000000 in
theorem textA_row (f g t : Nat) (r : ByteArray) (h : kindRow k = some (f, g, t)) (hint : ∀ args w, (callFunc t args).run Tryz.prog w = .ok (.enter t args) w)
    (ht : ∀ W, Below w.heap.size w W → Calls Tryz.prog t #[av nm k n tx ia il ic ta tl tc] W fun e w' => e = .returned (.string r) ∧ Below W.heap.size W w') :
    Calls Tryz.prog 45 #[av nm k n tx ia il ic ta tl tc] w fun e w' => e = .returned (.string r) ∧ Below w.heap.size w w' := by
  have hl : ∀ (W : World) (m : Nat), W.heap[m]? = some (kindO 6) → (Instr.lookup 118 (.map (some m)) (.int .i64 k) false).run Tryz.prog W = .ok (.agg #[.func (.func f) #[] #[], .func (.func g) #[] #[], .func (.func t) #[] #[]]) W := fun W m hm => look_yes hm h false
  have hfd : ∀ W : World, (Instr.field 116 (.agg #[.func (.func f) #[] #[], .func (.func g) #[] #[], .func (.func t) #[] #[]]) 2).run Tryz.prog W = .ok (.func (.func t) #[] #[]) W := fun _ => by kernel_rfl
  have HL := Lib.hid hl
  have HT := Lib.hid ht
  clear hl h ht
  go_enter Tryz.func45, Tryz.ntmps45
  go_wp2_with fail
  go_region_held3 (fun w' => w'.cell? ⟨w.heap.size, 0, none⟩ = some (.string nm) ∧ w'.cell? ⟨w.heap.size, 1, none⟩ = some (.int .i64 k) ∧ w'.cell? ⟨w.heap.size, 2, none⟩ = some (.int .i64 n) ∧ w'.cell? ⟨w.heap.size, 3, none⟩ = some (.string tx) ∧ w'.cell? ⟨w.heap.size, 4, none⟩ = some (.slice ia il ic) ∧ w'.cell? ⟨w.heap.size, 5, none⟩ = some (.slice ta tl tc)) (go_keep)
    (first
      | (go_at_call 75; refine (kinds_m _).mono ?_; rintro e w1 ⟨m, rfl, hm, hb1⟩; have hl1 := HL.out w1 m hm; have c0 := rdCell hb1 w.heap.size (by first | (simp; done) | (simp; omega)); have hz1 : w.heap.size < w1.heap.size := (by have := Below.size hb1; simp at this; omega))
      | ((with_reducible refine Calls.mono (HT.out _ ?_) ?_); (focus ((repeat (first | (with_reducible refine below_set ?_ (by first | exact Nat.le_refl _ | omega) _ _) | with_reducible exact Below.refl _ _ | with_reducible refine belowA ?_ _ | with_reducible refine below_own' ?_ hb1 | with_reducible refine belowD ?_ | with_reducible refine belowN ?_ _)); done)); rintro e w2 ⟨rfl, hb2⟩; have c2 := rdCell hb2 w.heap.size (by omega)))
  all_goals go_wp2_with fail
  all_goals go_ret
  all_goals refine ⟨rfl, ?_⟩
  all_goals ((repeat (first | (with_reducible refine below_set ?_ (by first | exact Nat.le_refl _ | omega) _ _) | with_reducible exact Below.refl _ _ | with_reducible refine belowA ?_ _ | with_reducible refine below_own' ?_ hb2 | with_reducible refine below_own' ?_ hb1 | with_reducible refine belowD ?_ | with_reducible refine belowN ?_ _)))
end
theorem av_kind_row {a : Atr} (h : rightA a = true) : 0 ≤ a.kind ∧ a.kind ≤ 5 := by
  unfold rightA at h
  simp only [Bool.and_eq_true, decide_eq_true_eq] at h
  exact h.1.1.1
theorem textA_any (a : Atr) (w : World) (hl : a.Lies w) (hf : a.Fits) (hr : rightA a = true) (hp : Pow w) :
    Calls Tryz.prog 45 #[a.val] w fun e w' => e = .returned (.string ⟨(valD a.dat).toArray⟩) ∧ Below w.heap.size w w' := by
  obtain ⟨k0, k5⟩ := av_kind_row hr
  have h6 : a.kind = 0 ∨ a.kind = 1 ∨ a.kind = 2 ∨ a.kind = 3 ∨ a.kind = 4 ∨ a.kind = 5 := by omega
  have hq : ∀ s ∈ a.texts, s.size ≤ 140737488355328 := fun s hs => by have := hf.texts s hs; omega
  have hn : a.texts.length ≤ 9223372036854775807 := by have := hf.tl; omega
  have hown : ownB a = true := by unfold rightA at hr; simp only [Bool.and_eq_true] at hr; exact hr.1.2
  have go : ∀ (f g t : Nat) (r : ByteArray), kindRow a.kind = some (f, g, t) → (∀ args w, (callFunc t args).run Tryz.prog w = .ok (.enter t args) w) →
      (∀ W, Below w.heap.size w W → Calls Tryz.prog t #[a.val] W fun e w' => e = .returned (.string r) ∧ Below W.heap.size W w') → r = ⟨(valD a.dat).toArray⟩ →
      Calls Tryz.prog 45 #[a.val] w fun e w' => e = .returned (.string ⟨(valD a.dat).toArray⟩) ∧ Below w.heap.size w w' := by
    intro f g t r h1 h2 h3 h4
    rw [← h4]
    exact textA_row a.name a.kind a.num a.text a.ia a.ints.length a.ic a.ta a.texts.length a.tc w f g t r h1 h2 h3
  rcases h6 with h | h | h | h | h | h
  · refine go _ _ _ _ (by rw [h]; rfl) (fun args w => callFunc_enters Tryz.func102 (by kernel_rfl) rfl args w) (fun W hb => vnumber_any _ _ _ _ _ _ _ _ _ _ W hf.num.1 hf.num.2 (pow_below hp hb)) ?_
    simp [valD, Atr.dat, h, itoaB]
  · refine go _ _ _ _ (by rw [h]; rfl) (fun args w => callFunc_enters Tryz.func105 (by kernel_rfl) rfl args w) (fun W hb => quoted_any _ _ _ _ _ _ _ _ _ _ W (by simpa [ownB, h] using hown)) ?_
    simp [valD, Atr.dat, h]
  · refine go _ _ _ _ (by rw [h]; rfl) (fun args w => callFunc_enters Tryz.func107 (by kernel_rfl) rfl args w) (fun W hb => symbol_any _ _ _ _ _ _ _ _ _ _ W hf.text) ?_
    apply ByteArray.ext; apply Array.ext'
    simp [valD, Atr.dat, h]
  · refine go _ _ _ _ (by rw [h]; rfl) (fun args w => callFunc_enters Tryz.func109 (by kernel_rfl) rfl args w) (fun W hb => same_any _ _ _ _ _ _ _ _ _ _ W) ?_
    simp [valD, Atr.dat, h]
  · refine go _ _ _ _ (by rw [h]; rfl) (fun args w => callFunc_enters Tryz.func112 (by kernel_rfl) rfl args w) (fun W hb => ints_any _ _ _ _ _ _ _ _ _ W a.ints (hl.ints.below hb) (by simp [ownB, h] at hown; exact hown.1) hf.ints (pow_below hp hb)) ?_
    simp [valD, Atr.dat, h]
  · refine go _ _ _ _ (by rw [h]; rfl) (fun args w => callFunc_enters Tryz.func114 (by kernel_rfl) rfl args w) (fun W hb => types_any _ _ _ _ _ _ _ _ _ W a.texts (hl.texts.below hb) hn hf.textsC hq) ?_
    simp [valD, Atr.dat, h]
theorem joinOf_len (ls : List ByteArray) : (joinOf ls).1.length ≤ 10002 := by
  unfold joinOf
  split
  · simp
  · split
    · simp
    · rename_i h1 h2
      have := join_le (by simpa using h1) (by omega)
      simp at this ⊢; omega
/-- The strings of values are short. -/
theorem valD_len {a : Atr} (hr : rightA a = true) (hf : a.Fits) : (valD a.dat).length ≤ 10002 := by
  obtain ⟨k0, k5⟩ := av_kind_row hr
  have hown : ownB a = true := by unfold rightA at hr; simp only [Bool.and_eq_true] at hr; exact hr.1.2
  have h6 : a.kind = 0 ∨ a.kind = 1 ∨ a.kind = 2 ∨ a.kind = 3 ∨ a.kind = 4 ∨ a.kind = 5 := by omega
  rcases h6 with h | h | h | h | h | h
  · have := itoaB_size a.num hf.num.1 hf.num.2
    simp [valD, Atr.dat, h]; simp [itoaB, ByteArray.size] at this; omega
  · have h1 : a.text.size ≤ 1000 := by simpa [ownB, h] using hown
    have := quoteL_len a.text.data.toList
    simp [valD, Atr.dat, h] at this ⊢; omega
  · have h1 : nameOf a.text.data.toList = true := by simpa [ownB, h] using hown
    have h2 : a.text.data.toList.length ≤ 60 := Nat.le_of_not_lt fun h3 => by rw [nameOf_long h3] at h1; cases h1
    simp [valD, Atr.dat, h] at h2 ⊢; omega
  · have h1 : isTyB a.text = true := by simpa [ownB, h] using hown
    have h2 := goodTy_len (s := a.text) (by rw [badTy_eq, h1]; rfl)
    simp [valD, Atr.dat, h] at h2 ⊢; omega
  · have h1 : a.ints.length ≤ 100 := by simp [ownB, h] at hown; exact hown.1
    have := join_len 21 ((a.ints.map itoaB).map (·.data.toList)) (fun x hx => by
      simp only [List.mem_map] at hx
      obtain ⟨y, ⟨z, hzm, rfl⟩, rfl⟩ := hx
      simpa using itoaB_size z (hf.ints z hzm).1 (hf.ints z hzm).2)
    simp [valD, Atr.dat, h] at this ⊢; omega
  · have := joinOf_len a.texts
    simp [valD, Atr.dat, h]; omega
end Go.Proofs.YtmepjbjmjbpchaaGreatDoor
end
section
/- attrs.list, short, Value, Print, Whole. -/
namespace Go.Proofs.YtmepjbjmjbpchaaGreatDoor
open Go Go.RowKit
set_option linter.unusedVariables false
set_option linter.unusedSimpArgs false

/-- An attribute's string. -/
def itemD (d : Dat) : List UInt8 := d.name.data.toList ++ [32, 61, 32] ++ valD d
/-- A list's string. -/
def listD (ds : List Dat) : List UInt8 := if ds = [] then [] else 123 :: (Lib.join (ds.map itemD) [44, 32] ++ [125])
def itemB (a : Atr) : ByteArray := a.name ++ ⟨#[32, 61, 32]⟩ ++ ⟨(valD a.dat).toArray⟩
theorem itemB_list (a : Atr) : (itemB a).data.toList = itemD a.dat := by simp [itemB, itemD, Atr.dat]
theorem rightA_name {a : Atr} (h : rightA a = true) : a.name.size ≤ 60 := by
  unfold rightA at h
  simp only [Bool.and_eq_true] at h
  have := h.1.1.2
  refine Nat.le_of_not_lt fun h3 => ?_
  rw [nameOf_long (by simpa using h3)] at this; cases this
theorem rightL_mem {l : List Atr} (h : rightL l = true) : ∀ a ∈ l, rightA a = true := by
  intro a ha
  unfold rightL at h
  simp only [Bool.and_eq_true, List.all_eq_true] at h
  obtain ⟨j, hj, rfl⟩ := List.mem_iff_getElem.1 ha
  have := h.2 j (List.mem_range.2 hj)
  unfold okAt at this
  rw [List.getElem?_eq_getElem hj] at this
  simp only [Bool.and_eq_true] at this
  exact this.1
theorem rightL_len {l : List Atr} (h : rightL l = true) : l.length ≤ 100 := by
  unfold rightL at h
  simp only [Bool.and_eq_true, decide_eq_true_eq] at h
  exact h.1
theorem items_len {l : List Atr} (h : ∀ a ∈ l, rightA a = true) (hf : ∀ a ∈ l, a.Fits) (hl : l.length ≤ 100) : (Lib.join ((l.map itemB).map (·.data.toList)) [44, 32]).length ≤ 2000000 := by
  have := join_len 10065 ((l.map itemB).map (·.data.toList)) (fun x hx => by
    simp only [List.mem_map] at hx
    obtain ⟨y, ⟨a, ha, rfl⟩, rfl⟩ := hx
    rw [itemB_list]
    have h1 := rightA_name (h a ha)
    have h2 := valD_len (h a ha) (hf a ha)
    simp [itemD, Atr.dat] at h2 ⊢; omega)
  simp at this ⊢; omega

theorem cell_grown {W W' : World} {row : Option Nat} (hg : W.grownBy W' row) (b : Nat) (hb : b < W.heap.size) (hne : row = some b → False) : ∀ off, W'.cell? ⟨b, off, none⟩ = W.cell? ⟨b, off, none⟩ :=
  fun off => World.cell?_of_block (a := ⟨b, off, none⟩) (hg.block b hb (fun e => hne e.symm))
set_option maxRecDepth 262144 in
set_option maxHeartbeats 4000000 in
theorem list_any (p : Option Addr) (c : Nat) (l : List Atr) (w : World) (hs : AtrSl w p l) (hr : ∀ a ∈ l, rightA a = true) (hl : l.length ≤ 100) (hp : Pow w) :
    Calls Tryz.prog 53 #[.slice p l.length c] w fun e w' => e = .returned (.string ⟨(listD (l.map Atr.dat)).toArray⟩) ∧ Below w.heap.size w w' := by
  by_cases hnil : l = []
  · subst hnil
    clear hs hr hp
    go_enter Tryz.func53, Tryz.ntmps53
    go_wp2_with fail
    go_ret
    exact ⟨rfl, Below.refl _ _⟩
  · obtain ⟨i0, hin, hz0, hz1, hz2⟩ := info_parts (show (Tryz.prog.info? 9).map (fun i => (i.zero, i.size, i.bytes)) = some (some (.string ⟨#[]⟩), 1, 16) by kernel_rfl)
    have hpos : 0 < l.length := List.length_pos_iff.2 hnil
    have hjl := Lib.hid (items_len hr hs.fits hl)
    have HS := Lib.hid hs
    have HR := Lib.hid hr
    have HP := Lib.hid hp
    have HNIL := Lib.hid hnil
    obtain ⟨N, hN⟩ : ∃ N, N = l.length := ⟨_, rfl⟩
    rw [← hN] at hl hpos ⊢
    have HN := Lib.hid hN
    have hne : ((N : Int) == 0) = false := by simp; omega
    clear hs hr hp hN hnil
    go_enter Tryz.func53, Tryz.ntmps53
    go_wp2_with fail
    go_loopw [3, 11] (fun v i wr => ∃ (j : Nat) (sa : Option Addr) (sc : Nat), v = .slice sa j sc ∧ i = .int .i64 j ∧ j ≤ N ∧ wr.ownsRow w.heap.size 9 1 (.slice sa j sc) j (((l.map itemB).take j).map .string) ∧ Below w.heap.size w wr) (fun _ i _ => N - (intOf i).toNat)
    case atStart => exact ⟨0, none, 0, rfl, rfl, Nat.zero_le _, World.ownsRow_nil _ _ _ _, Below.refl _ _⟩
    case round =>
      obtain ⟨j, sa, sc, rfl, rfl, hj, ho, hb⟩ := hrel
      have HO := Lib.hid ho
      have HB := Lib.hid hb
      have hszw := hb.size
      clear ho hb
      rcases Nat.lt_or_ge j N with hlt | hge
      · have hl0 : j < l.length := by rw [← HN.out]; exact hlt
        have hsw := HS.out.below HB.out
        obtain ⟨g, off, rfl, hg, hrow⟩ := hsw.row hl0
        obtain ⟨a0, ha0⟩ : ∃ a0, a0 = l[j] := ⟨_, rfl⟩
        have hcj := hrow j hl0
        rw [← ha0] at hcj
        have hmem : a0 ∈ l := by rw [ha0]; exact List.getElem_mem _
        have HLI := Lib.hid (fun (W : World) (hb : Below wr.heap.size wr W) => (hsw.lies a0 hmem).below hb)
        have HFI := Lib.hid (hsw.fits a0 hmem)
        have HRI := Lib.hid (HR.out a0 hmem)
        have hj0 : (0 : Int) ≤ (j : Int) := by omega
        have hjl' : (j : Int) < (N : Int) := by omega
        have hn60 := rightA_name HRI.out
        have hv := valD_len HRI.out HFI.out
        have HTK : Hid ((l.map itemB).take (j + 1) = (l.map itemB).take j ++ [itemB a0]) := Lib.hid (by
          rw [List.take_add_one, List.getElem?_map, List.getElem?_eq_getElem hl0, ha0]; rfl)
        obtain ⟨vs, hvs⟩ : ∃ vs : ByteArray, vs = ⟨(valD a0.dat).toArray⟩ := ⟨_, rfl⟩
        have hvl : vs.size ≤ 10002 := by rw [hvs]; simpa [ByteArray.size] using hv
        have HVS := Lib.hid hvs
        clear ha0 hrow hsw hmem hv hvs
        obtain ⟨k0, k1, k2, k3, k4, k5⟩ := hcj
        have hs1 : ∀ W : World, (Op.stringOp .add a0.name ⟨#[32, 61, 32]⟩).run Tryz.prog W = .ok (.string (a0.name ++ ⟨#[32, 61, 32]⟩)) W := fun W => run_string_add_sum W _ _ (by have : (⟨#[32, 61, 32]⟩ : ByteArray).size = 3 := rfl; omega)
        have hs2 : ∀ W : World, (Op.stringOp .add (a0.name ++ ⟨#[32, 61, 32]⟩) vs).run Tryz.prog W = .ok (.string (a0.name ++ ⟨#[32, 61, 32]⟩ ++ vs)) W := fun W => run_string_add_sum W _ _ (by have : (⟨#[32, 61, 32]⟩ : ByteArray).size = 3 := rfl; rw [ByteArray.size_append]; omega)
        have hrlt := Lib.hid HO.out.lt
        have hj9 : j < 100 := by omega
        go_wp2_with fail
        go_region_held3 (fun w' => w'.cell? ⟨wr.heap.size, 0, none⟩ = some (.string a0.name) ∧ w'.cell? ⟨wr.heap.size, 0 + 1, none⟩ = some (.int .i64 a0.kind) ∧ w'.cell? ⟨wr.heap.size, 0 + 2, none⟩ = some (.int .i64 a0.num) ∧ w'.cell? ⟨wr.heap.size, 0 + 3, none⟩ = some (.string a0.text) ∧ w'.cell? ⟨wr.heap.size, 0 + 4, none⟩ = some (.slice a0.ia a0.ints.length a0.ic) ∧ w'.cell? ⟨wr.heap.size, 0 + 5, none⟩ = some (.slice a0.ta a0.texts.length a0.tc)) (go_keep)
          (first
            | (go_at_call 45; refine (textA_any a0 _ (HLI.out _ ?_) HFI.out HRI.out (pow_below HP.out (below_own' HB.out ?_))).mono ?_; (focus ((repeat (first | (with_reducible refine below_set ?_ (by first | exact Nat.le_refl _ | omega) _ _) | with_reducible exact Below.refl _ _ | with_reducible refine belowA ?_ _ | with_reducible refine belowD ?_ | with_reducible refine belowN ?_ _)); done)); (focus ((repeat (first | (with_reducible refine below_set ?_ (by first | exact Nat.le_refl _ | omega) _ _) | with_reducible exact Below.refl _ _ | with_reducible refine belowA ?_ _ | with_reducible refine belowD ?_ | with_reducible refine belowN ?_ _)); done)); rintro e w2 ⟨rfl, hb2⟩; rw [← HVS.out]; have c2 := rdCell hb2 wr.heap.size (by first | (simp; done) | (simp; omega)); have hzz : wr.heap.size < w2.heap.size := (by have := Below.size hb2; simp at this; omega))
            | (rw [if_pos (by rfl)]; refine wp_append_own _ _ _ 25 rfl w.heap.size 9 i0 (.string ⟨#[]⟩) 1 16 Tryz.underlying25 hin hz0 hz1 hz2 rfl (by decide) _ _ _ rfl ((own_below HO.out (by (repeat (first | (with_reducible refine below_set ?_ (by first | exact Nat.le_refl _ | omega) _ _) | with_reducible exact Below.refl _ _ | with_reducible refine belowA ?_ _ | with_reducible refine below_own' ?_ hb2 | with_reducible refine belowD ?_ | with_reducible refine belowN ?_ _)))).alloc _) ⟨w2.heap.size, 0, none⟩ 1 1 [.string (a0.name ++ ⟨#[32, 61, 32]⟩ ++ vs)] rfl rfl ?c1 ?c2 ?c3 ?c4 ?c5 ?_;
                (focus (case c1 => (intro t u hj; match t, hj with | 0, hj => simp at hj; subst hj; simp [Addr.add]))); (focus (case c2 => (intro u hu; simp at hu; subst hu; rfl))); (focus (case c3 => (unfold maxLen; omega))); (focus (case c4 => omega)); (focus (case c5 => (have := hb2.size; simp at this ⊢; omega)));
                intro v' w3 hown' hgrow hnil3; obtain ⟨sa', sc', rfl⟩ := own_slice hown'; clear hnil3; have c3 := cell_grown hgrow wr.heap.size (by first | (simp; done) | (simp; omega)) (fun e => by have := (hrlt.out _ e).2; omega)))
        have HOWN3 := Lib.hid (show w3.ownsRow w.heap.size 9 1 (.slice sa' (j + 1) sc') (j + 1) (((l.map itemB).take (j + 1)).map .string) by rw [HTK.out, itemB, ← HVS.out]; simpa using hown')
        have HB3 := Lib.hid (show Below w.heap.size w w3 from (belowA (show Below w.heap.size w w2 from below_own' HB.out (by (repeat (first | (with_reducible refine below_set ?_ (by first | exact Nat.le_refl _ | omega) _ _) | with_reducible exact Below.refl _ _ | with_reducible refine belowA ?_ _ | with_reducible refine below_own' ?_ hb2 | with_reducible refine belowD ?_ | with_reducible refine belowN ?_ _)))) _).grown hgrow (by simp; omega) (fun k hk => (HO.out.lt k hk).1))
        clear hown'
        go_wp2_with fail
        go_roundw
        · exact ⟨j + 1, sa', sc', by go_num, by go_num, by omega, HOWN3.out, HB3.out⟩
        · simp [intOf]; omega
      · obtain rfl : N = j := by omega
        have htk : (l.map itemB).take N = l.map itemB := List.take_of_length_le (by simp [HN.out])
        have ho := HO.out
        rw [htk] at ho
        have hlm : (l.map itemB).length = N := by simp [HN.out]
        have hsl := own_strs (zs := l.map itemB) ho
        obtain ⟨sa', sc', he, hcap, -⟩ := own_form ho
        cases he
        have HJ := Lib.hid (join_sl' hsl sc (by rw [hlm]; exact hcap) (by rw [hlm]; omega) (Nat.le_trans hjl.out (by omega)))
        rw [hlm] at HJ
        clear hcap ho hsl hlm htk
        go_wp2_with (go_at_call 79; refine HJ.out.mono ?_; rintro e w2 ⟨t, rfl, ht, hts, hb2⟩)
        go_ret
        refine ⟨?_, below_own' HB.out hb2⟩
        have e1 : (⟨#[123]⟩ ++ t ++ ⟨#[125]⟩ : ByteArray) = ⟨(listD (l.map Atr.dat)).toArray⟩ := by
          apply ByteArray.ext
          apply Array.ext'
          have hm : (l.map itemB).map (fun x => x.data.toList) = (l.map Atr.dat).map itemD := by
            rw [List.map_map, List.map_map]; apply List.map_congr_left; intro a _; exact itemB_list a
          rw [listD, if_neg (by simpa using HNIL.out), ← hm, ← ht.out]
          simp
        rw [← e1]; rfl

/-- The string of a list, if it is not too long. -/
def shortPost (s : List UInt8) (w : World) (e : Ending) (w' : World) : Prop :=
  (if s.length ≤ 262144 then e = .returned (.tuple #[.string ⟨s.toArray⟩, .int .i64 0]) else e = .returned (.tuple #[.string ⟨#[]⟩, .int .i64 2])) ∧ Below w.heap.size w w'
theorem short_any (s : List UInt8) (w : World) : Calls Tryz.prog 59 #[.string ⟨s.toArray⟩] w (shortPost s w) := by
  obtain ⟨t, ht⟩ : ∃ t : ByteArray, t = ⟨s.toArray⟩ := ⟨_, rfl⟩
  have hz : t.size = s.length := by rw [ht]; simp [ByteArray.size]
  rw [← ht]
  have HT := Lib.hid ht
  have HZ := Lib.hid hz
  rcases Nat.lt_or_ge 262144 t.size with h | h
  all_goals
    clear ht hz
    go_enter Tryz.func59, Tryz.ntmps59
    go_wp2_with fail
    go_ret2
    refine ⟨?_, Below.refl _ _⟩
    rw [← HZ.out]
  · rw [if_neg (by omega)]; rfl
  · rw [if_pos h, ← HT.out]; rfl
/-- What Value and Print answer. -/
def SaidPost (ok : Bool) (s : List UInt8) (w : World) (e : Ending) (w' : World) : Prop :=
  (if ok then (if s.length ≤ 262144 then e = .returned (.tuple #[.string ⟨s.toArray⟩, .int .i64 0]) else e = .returned (.tuple #[.string ⟨#[]⟩, .int .i64 2])) else e = .returned (.tuple #[.string ⟨#[]⟩, .int .i64 20])) ∧ Below w.heap.size w w'
theorem value_any (a : Atr) (w : World) (hl : a.Lies w) (hf : a.Fits) (hp : Pow w) :
    Calls Tryz.prog 32 #[a.val] w (SaidPost (rightA a) (valD a.dat) w) := by
  have HLI := Lib.hid (fun (W : World) (hb : Below w.heap.size w W) => hl.below hb)
  have HF := Lib.hid hf
  have HP := Lib.hid hp
  obtain ⟨r, hr⟩ : ∃ r, r = rightA a := ⟨_, rfl⟩
  rw [← hr]
  have HR := Lib.hid hr
  clear hl hf hp hr
  cases r with
  | false =>
    go_enter Tryz.func32, Tryz.ntmps32
    go_wp2_with (go_at_call 44; refine (isRight_any a _ (HLI.out _ ((Below.refl _ w).alloc (Nat.le_refl _) _)) HF.out).mono ?_; rintro e w1 ⟨rfl, hb1⟩; rw [← HR.out])
    go_ret2
    exact ⟨rfl, by (repeat (first | (with_reducible refine below_set ?_ (by first | exact Nat.le_refl _ | omega) _ _) | with_reducible exact Below.refl _ _ | with_reducible refine belowA ?_ _ | with_reducible refine below_own' ?_ hb1 | with_reducible refine belowD ?_ | with_reducible refine belowN ?_ _))⟩
  | true =>
    go_enter Tryz.func32, Tryz.ntmps32
    go_wp2_with (first
      | (go_at_call 44; refine (isRight_any a _ (HLI.out _ ((Below.refl _ w).alloc (Nat.le_refl _) _)) HF.out).mono ?_; rintro e w1 ⟨rfl, hb1⟩; rw [← HR.out]; have c1 := rdCell hb1 w.heap.size (by first | (simp; done) | (simp; omega)))
      | (go_at_call 45; refine (textA_any a _ (HLI.out _ ?_) HF.out HR.out.symm (pow_below HP.out ?_)).mono ?_; (focus ((repeat (first | (with_reducible refine below_set ?_ (by first | exact Nat.le_refl _ | omega) _ _) | with_reducible exact Below.refl _ _ | with_reducible refine belowA ?_ _ | with_reducible refine below_own' ?_ hb1 | with_reducible refine belowD ?_ | with_reducible refine belowN ?_ _)); done)); (focus ((repeat (first | (with_reducible refine below_set ?_ (by first | exact Nat.le_refl _ | omega) _ _) | with_reducible exact Below.refl _ _ | with_reducible refine belowA ?_ _ | with_reducible refine below_own' ?_ hb1 | with_reducible refine belowD ?_ | with_reducible refine belowN ?_ _)); done)); rintro e w2 ⟨rfl, hb2⟩)
      | (go_at_call 59; refine (short_any _ _).mono ?_; rintro e w3 ⟨he, hb3⟩; split at he; all_goals (subst he)))
    all_goals go_ret2
    all_goals refine ⟨?_, by (repeat (first | (with_reducible refine below_set ?_ (by first | exact Nat.le_refl _ | omega) _ _) | with_reducible exact Below.refl _ _ | with_reducible refine belowA ?_ _ | with_reducible refine below_own' ?_ hb3 | with_reducible refine below_own' ?_ hb2 | with_reducible refine below_own' ?_ hb1 | with_reducible refine belowD ?_ | with_reducible refine belowN ?_ _))⟩
    · rw [if_pos rfl, if_pos (by assumption)]; rfl
    · rw [if_pos rfl, if_neg (by assumption)]; rfl
theorem print_any (p : Option Addr) (c : Nat) (l : List Atr) (w : World) (hs : AtrSl w p l) (hl : l.length ≤ 100000000000000) (hp : Pow w) :
    Calls Tryz.prog 30 #[.slice p l.length c] w (SaidPost (rightL l) (listD (l.map Atr.dat)) w) := by
  have HS := Lib.hid (fun (W : World) (hb : Below w.heap.size w W) => hs.below hb)
  have HP := Lib.hid hp
  have hc := check_any' p c l w hs hl
  unfold CkPost at hc
  obtain ⟨r, hr⟩ : ∃ r, r = rightL l := ⟨_, rfl⟩
  rw [← hr]
  rw [← hr] at hc
  have HC := Lib.hid hc
  clear hc
  have HR := Lib.hid hr
  clear hs hp hr
  cases r with
  | false =>
    go_enter Tryz.func30, Tryz.ntmps30
    go_wp2_with (go_at_call 19; refine HC.out.mono ?_; rintro e w1 ⟨rfl, hb1⟩; simp only [Bool.false_eq_true, if_false])
    go_ret2
    exact ⟨rfl, hb1⟩
  | true =>
    go_enter Tryz.func30, Tryz.ntmps30
    go_wp2_with (first
      | (go_at_call 19; refine HC.out.mono ?_; rintro e w1 ⟨rfl, hb1⟩; simp only [if_true])
      | (go_at_call 53; refine (list_any p c l _ (HS.out _ ?_) (rightL_mem HR.out.symm) (rightL_len HR.out.symm) (pow_below HP.out ?_)).mono ?_; (focus ((repeat (first | (with_reducible refine below_set ?_ (by first | exact Nat.le_refl _ | omega) _ _) | with_reducible exact Below.refl _ _ | with_reducible refine belowA ?_ _ | with_reducible refine below_own' ?_ hb1 | with_reducible refine belowD ?_ | with_reducible refine belowN ?_ _)); done)); (focus ((repeat (first | (with_reducible refine below_set ?_ (by first | exact Nat.le_refl _ | omega) _ _) | with_reducible exact Below.refl _ _ | with_reducible refine belowA ?_ _ | with_reducible refine below_own' ?_ hb1 | with_reducible refine belowD ?_ | with_reducible refine belowN ?_ _)); done)); rintro e w2 ⟨rfl, hb2⟩)
      | (go_at_call 59; refine (short_any _ _).mono ?_; rintro e w3 ⟨he, hb3⟩; split at he; all_goals (subst he)))
    all_goals go_ret2
    all_goals refine ⟨?_, by (repeat (first | (with_reducible refine below_set ?_ (by first | exact Nat.le_refl _ | omega) _ _) | with_reducible exact Below.refl _ _ | with_reducible refine belowA ?_ _ | with_reducible refine below_own' ?_ hb3 | with_reducible refine below_own' ?_ hb2 | with_reducible refine below_own' ?_ hb1 | with_reducible refine belowD ?_ | with_reducible refine belowN ?_ _))⟩
    · rw [if_pos rfl, if_pos (by assumption)]; rfl
    · rw [if_pos rfl, if_neg (by assumption)]; rfl
end Go.Proofs.YtmepjbjmjbpchaaGreatDoor
end
