/- Texts of this claim, laid together: Br7, Br8. -/
import Derived.Deep.DeepCutAuto
import Derived.Deep.CutBlock
import Derived.Deep.RegionHeld3
import Derived.RegionTactic
import Derived.ChangeAlike
import Derived.Test.YtmepjbjmjbpchaaGreatDoorMg14
import Derived.Test.YtmepjbjmjbpchaaGreatDoorMg27
import Derived.Test.YtmepjbjmjbpchaaGreatDoorMg30
section
/- The reference's Read at any name and string. -/
namespace Go.Proofs.YtmepjbjmjbpchaaGreatDoor
open Go Go.RowKit Go.Sort
set_option linter.unusedVariables false
set_option linter.unusedSimpArgs false

/-- What the reference's Read answers: an attribute with the name and the string, if there is one. -/
def RrPost (nm s : ByteArray) (w : World) (e : Ending) (w' : World) : Prop :=
  Below w.heap.size w w' ∧ ∃ (a : Atr) (ok : Bool), e = .returned (.tuple #[a.val, .bool ok]) ∧ a.Lies w' ∧ a.Fits ∧ (∀ x, (a.ia = some x ∨ a.ta = some x) → w.heap.size ≤ x.block ∧ x.block < w'.heap.size) ∧ (ok = true → Can nm s a.dat) ∧ (∀ D, Can nm s D → ok = true)
/-- The world behind the cases: the attribute lies in the second box, the first box is as it was. -/
structure RrW (w : World) (nm s : ByteArray) (a : Atr) (ok : Bool) (wx : World) : Prop where
  cells : ∀ j, j < 6 → wx.cell? ⟨w.heap.size + 1, j, none⟩ = a.cells[j]?
  bel : ∀ W1, W1 = w.alloc (.cells #[.string ⟨#[]⟩, .int .i64 0, .int .i64 0, .string ⟨#[]⟩, .slice none 0 0, .slice none 0 0] 27) → Below W1.heap.size W1 wx
  sz : w.heap.size + 1 < wx.heap.size
  lies : a.Lies wx
  fits : a.Fits
  fresh : ∀ x, (a.ia = some x ∨ a.ta = some x) → w.heap.size + 1 < x.block ∧ x.block < wx.heap.size
  ok : RdOk nm s a ok
def RrRel (w : World) (nm s : ByteArray) (v : Value) (wx : World) : Prop := ∃ (a : Atr) (ok : Bool), v = .bool ok ∧ RrW w nm s a ok wx
theorem cells6 {f : Nat → Option Value} {a : Atr} (h0 : f 0 = some (.string a.name)) (h1 : f 1 = some (.int .i64 a.kind)) (h2 : f 2 = some (.int .i64 a.num)) (h3 : f 3 = some (.string a.text)) (h4 : f 4 = some (.slice a.ia a.ints.length a.ic)) (h5 : f 5 = some (.slice a.ta a.texts.length a.tc)) : ∀ j, j < 6 → f j = a.cells[j]? := by
  intro j hj
  match j, hj with
  | 0, _ => exact h0
  | 1, _ => exact h1
  | 2, _ => exact h2
  | 3, _ => exact h3
  | 4, _ => exact h4
  | 5, _ => exact h5
theorem set_at {w2 : World} {H i : Nat} {v : Value} {f : Nat → Option Value} (h : ∀ j, w2.cell? ⟨H, j, none⟩ = f j) (hi : ∃ x, f i = some x) (j : Nat) : (w2.setCell ⟨H, i, none⟩ v).cell? ⟨H, j, none⟩ = if j = i then some v else f j := by
  split
  · rename_i hj
    subst hj
    obtain ⟨x, hx⟩ := hi
    exact World.cell?_setCell_same _ _ _ ((h j).trans hx)
  · rename_i hj
    rw [World.cell?_setCell_other _ _ _ _ (by intro e; simp only [Addr.mk.injEq] at e; omega)]
    exact h j
theorem fits0 {nm : ByteArray} (k : Int) (hk : 0 ≤ k ∧ k ≤ 5) {n : Int} (hn : I64 n) {t : ByteArray} (hnm : nm.size ≤ 140737488351232) (ht : t.size ≤ 140737488351232) : Atr.Fits ⟨nm, k, n, t, none, [], 0, none, [], 0⟩ :=
  ⟨hnm, ht, hn, ⟨by show (-9223372036854775808 : Int) ≤ k; omega, by show k ≤ (9223372036854775807 : Int); omega⟩, Nat.le_refl _, (by intro z hz; cases hz), by simp, Nat.le_refl _, (by intro z hz; cases hz), by simp⟩
theorem lies0 (nm : ByteArray) (k n : Int) (t : ByteArray) (w : World) : Atr.Lies w ⟨nm, k, n, t, none, [], 0, none, [], 0⟩ := ⟨.inl rfl, .inl rfl⟩
theorem fresh0 (nm : ByteArray) (k n : Int) (t : ByteArray) (m p : Nat) : ∀ x, ((⟨nm, k, n, t, none, [], 0, none, [], 0⟩ : Atr).ia = some x ∨ (⟨nm, k, n, t, none, [], 0, none, [], 0⟩ : Atr).ta = some x) → m < x.block ∧ x.block < p := by
  intro x hx
  rcases hx with h | h <;> cases h
/-- The end: the attribute is written into the box of the result. -/
theorem rr_end {nm s : ByteArray} {w wx W : World} {a : Atr} {ok : Bool} (h : RrW w nm s a ok wx) (hb : Below wx.heap.size wx W) {b : Bool} (hb1 : b = true → ok = true ∧ rightA a = true) (hb2 : ok = true → rightA a = true → b = true) {e : Ending} (he : e = .returned (.tuple #[a.val, .bool b])) : RrPost nm s w e (six W w.heap.size 0 a) := by
  have hgr := six_grown W w.heap.size 0 a
  have h1 : Below w.heap.size w wx := by
    have := h.bel _ rfl
    (repeat (first | (with_reducible refine below_set ?_ (by first | exact Nat.le_refl _ | omega) _ _) | with_reducible exact Below.refl _ _ | with_reducible refine belowA ?_ _ | with_reducible refine below_own' ?_ this | with_reducible refine belowD ?_ | with_reducible refine belowN ?_ _))
  have hbw : Below w.heap.size w W := below_own' h1 hb
  have hsz := h.sz
  have hz2 := hb.size
  refine ⟨hbw.grown hgr hbw.size (fun t e => by cases e; exact Nat.le_refl _), a, b, he, (h.lies.below hb).grown hgr (fun y hy e => ?_), h.fits, fun y hy => ?_, fun hb3 => h.ok.sound (hb1 hb3).1 (hb1 hb3).2, fun D hD => hb2 (h.ok.comp D hD).1 (h.ok.comp D hD).2⟩
  · have h3 := h.fresh y hy
    have h2 := Option.some.inj e
    omega
  · have h3 := h.fresh y hy
    have h2 : (six W w.heap.size 0 a).heap.size = W.heap.size := by simp [six, World.setCell]
    rw [h2]
    omega
theorem rr_drew {nm s : ByteArray} {w W : World} {e : Ending} (h : RrPost nm s w e W) : RrPost nm s w e W.drew := by
  obtain ⟨h1, a, ok, h2, h3, h4, h5, h6, h7⟩ := h
  exact ⟨h1.drew, a, ok, h2, h3.below (Below.refl _ _).drew, h4, h5, h6, h7⟩
theorem intSl_set {w : World} {a : Option Addr} {zs : List Int} {H i : Nat} {v : Value} (h : IntSl w a zs) (hx : ∀ x, a = some x → x.block ≠ H) : IntSl (w.setCell ⟨H, i, none⟩ v) a zs := by
  rcases h with h | ⟨g, off, h1, h2, h3⟩
  · exact .inl h
  · refine .inr ⟨g, off, h1, by simpa [World.setCell] using h2, fun j hj => ?_⟩
    have := hx _ h1
    rw [World.cell?_setCell_other _ _ _ _ (by intro e; simp only [Addr.mk.injEq] at e; exact this e.1.symm)]
    exact h3 j hj
theorem strSl_set {w : World} {a : Option Addr} {zs : List ByteArray} {H i : Nat} {v : Value} (h : StrSl w a zs) (hx : ∀ x, a = some x → x.block ≠ H) : StrSl (w.setCell ⟨H, i, none⟩ v) a zs := by
  rcases h with h | ⟨g, off, h1, h2, h3⟩
  · exact .inl h
  · refine .inr ⟨g, off, h1, by simpa [World.setCell] using h2, fun j hj => ?_⟩
    have := hx _ h1
    rw [World.cell?_setCell_other _ _ _ _ (by intro e; simp only [Addr.mk.injEq] at e; exact this e.1.symm)]
    exact h3 j hj
theorem join_many : ∀ ps : List (List UInt8), ps.length ≤ (Lib.join ps [44, 32]).length + 1
  | [] => Nat.zero_le _
  | x :: r => by
    have : ∀ r : List (List UInt8), r.length ≤ (Lib.joinTail [44, 32] r).length := by
      intro r
      induction r with
      | nil => exact Nat.zero_le _
      | cons y r ih =>
        have e : Lib.joinTail [44, 32] (y :: r) = 44 :: 32 :: (y ++ Lib.joinTail [44, 32] r) := by simp [Lib.joinTail]
        rw [e]
        simp
        omega
    have h2 := this r
    rw [Lib.join_cons, List.length_append, List.length_cons]
    omega
/-- The reference's Split as Read uses it. -/
def RsX (nm s : ByteArray) (W : World) (e : Ending) (w' : World) : Prop :=
  ∃ (sa : Option Addr) (sc n : Nat) (ls : List ByteArray) (ok : Bool), e = .returned (.tuple #[.slice sa n sc, .bool ok]) ∧ n = ls.length ∧ StrSl w' sa ls ∧ ls.length ≤ sc ∧ (∀ x, sa = some x → W.heap.size ≤ x.block ∧ x.block < w'.heap.size) ∧ ls.length ≤ s.size + 1 ∧ (∀ x ∈ ls, x.size ≤ 60) ∧ RdOk nm s ⟨nm, 5, 0, ⟨#[]⟩, none, [], 0, sa, ls, sc⟩ ok ∧ Below W.heap.size W w'
theorem rsx_any (nm s : ByteArray) (W : World) (h0 : 0 < s.size) (hc : (s[0]'h0).toNat = 40) (hs : s.size ≤ 4294967280) : Calls Tryz.prog 48 #[.string s] W (RsX nm s W) := by
  refine (rsplit_any s W hs).mono fun e w' h => ?_
  obtain ⟨hb, h⟩ := h
  cases hbd : bodyOf s.data.toList with
  | none =>
    rw [hbd] at h
    exact ⟨none, 0, 0, [], false, h, rfl, .inl rfl, Nat.le_refl _, (fun x hx => by cases hx), Nat.zero_le _, (by simp), rd_types h0 hc _ _ (.inl ⟨hbd, rfl⟩), hb⟩
  | some l =>
    rw [hbd] at h
    dsimp only at h
    by_cases hl : l = []
    · rw [if_pos hl] at h
      exact ⟨none, 0, 0, [], true, h, rfl, .inl rfl, Nat.le_refl _, (fun x hx => by cases hx), Nat.zero_le _, (by simp), rd_types h0 hc _ _ (.inr (.inl ⟨by rw [hbd, hl], rfl, rfl⟩)), hb⟩
    · rw [if_neg hl] at h
      cases hr : rsplit l with
      | none =>
        rw [hr] at h
        exact ⟨none, 0, 0, [], false, h, rfl, .inl rfl, Nat.le_refl _, (fun x hx => by cases hx), Nat.zero_le _, (by simp), rd_types h0 hc _ _ (.inr (.inr (.inl ⟨l, hbd, hl, hr, rfl⟩))), hb⟩
      | some ps =>
        rw [hr] at h
        obtain ⟨sa, sc, ls, he, hsl, hm, hcap, hfr⟩ := h
        obtain ⟨h1, h2, h3⟩ := rsplit_sound _ l ps (Nat.le_refl _) hr
        have hpl : ps.length = ls.length := by rw [← hm, List.length_map]
        have hlen := congrArg List.length (body_eq hbd)
        rw [list_size] at hlen
        simp at hlen
        have hjl := join_many ps
        rw [← h1] at hjl
        refine ⟨sa, sc, ps.length, ls, _, he, hpl, hsl, by omega, hfr, by omega, fun x hx => ?_, rd_types h0 hc _ _ (.inr (.inr (.inr ⟨l, hbd, hl, by rw [hm]; exact hr, by rw [hpl]⟩))), hb⟩
        have := isTy_len (h3 x.data.toList (by rw [← hm]; exact List.mem_map.2 ⟨x, hx, rfl⟩))
        rw [list_size] at this
        exact this
set_option maxRecDepth 100000 in
set_option maxHeartbeats 8000000 in
theorem rreadA_any (nm s : ByteArray) (w : World) (h0 : 0 < s.size) (hnm : nm.size ≤ 140737488351232) (hs : s.size ≤ 4294967280) : Calls Tryz.prog 23 #[.string nm, .string s] w (RrPost nm s w) := by
  have hemp := not_empty h0
  have h1 : (1 : Int) ≤ (s.size : Int) := by omega
  have hcs : (s[0]'h0).toNat = 34 ∨ (s[0]'h0).toNat = 64 ∨ (s[0]'h0).toNat = 91 ∨ (s[0]'h0).toNat = 40 ∨ (s[0]'h0).toNat = 45 ∨ (48 ≤ (s[0]'h0).toNat ∧ (s[0]'h0).toNat ≤ 57) ∨ (∀ k ∈ [34, 64, 91, 40, 45, 48, 49, 50, 51, 52, 53, 54, 55, 56, 57], (s[0]'h0).toNat ≠ k) := by
    simp only [List.mem_cons, List.not_mem_nil, or_false, forall_eq_or_imp, forall_eq]
    omega
  have HCS := Lib.hid hcs
  clear hcs
  go_enter Tryz.func23, Tryz.ntmps23
  go_upto_block 0 with fail
  go_cut [7] (fun v wx => RrRel w nm s v wx)
  case first =>
    rcases HCS.out with hc | hc | hc | hc | hc | hc | hc
    · have b34 : (((s[0]'h0).toNat : Int) == 34) = true := by rw [hc]; rfl
      have HC := Lib.hid hc
      clear hc
      go_wp2_with (go_at_call 46; refine (runq_any s _ hs).mono ?_; rintro e w2 ⟨hb2, t, n, ok, rfl, hn, ht, hok, hall⟩; have HRD := Lib.hid (rd_text (nm := nm) h0 HC.out hok hall); clear hok hall; have c2 := rdCell hb2 (w.heap.size + 1) (by simp); have f2 := rdFree hb2 (w.heap.size + 1) (by simp); have hz2 : w.heap.size + 1 < w2.heap.size := (by have := Below.size hb2; simp at this; omega))
      all_goals go_meet
      all_goals refine ⟨⟨nm, 1, 0, t, none, [], 0, none, [], 0⟩, ok && decide (n = s.size), ?_, cells6 (f := fun j => World.cell? _ ⟨w.heap.size + 1, j, none⟩) ((set_at c2 ⟨.string ⟨#[]⟩, by simp⟩ 0).trans (by simp)) ((set_at c2 ⟨.string ⟨#[]⟩, by simp⟩ 1).trans (by simp)) ((set_at c2 ⟨.string ⟨#[]⟩, by simp⟩ 2).trans (by simp)) ((set_at c2 ⟨.string ⟨#[]⟩, by simp⟩ 3).trans (by simp)) ((set_at c2 ⟨.string ⟨#[]⟩, by simp⟩ 4).trans (by simp)) ((set_at c2 ⟨.string ⟨#[]⟩, by simp⟩ 5).trans (by simp)), (by rintro W1 rfl; refine below_set ?_ (by simp) _ _; (repeat (first | (with_reducible refine below_set ?_ (by first | exact Nat.le_refl _ | omega) _ _) | with_reducible exact Below.refl _ _ | with_reducible refine belowA ?_ _ | with_reducible refine below_own' ?_ hb2 | with_reducible refine belowD ?_ | with_reducible refine belowN ?_ _))), by simpa [World.setCell] using hz2, lies0 _ _ _ _ _, fits0 1 (by omega) I64_0 hnm (by omega), fresh0 _ _ _ _ _ _, HRD.out⟩
      · have h : ok = true := by assumption
        rw [h]; simp
        rw [Bool.eq_iff_iff]; simp; omega
      · have h : ok = false := by simpa using (by assumption : ¬ ok = true)
        rw [h]; simp
    · have b34 : (((s[0]'h0).toNat : Int) == 34) = false := by rw [beq_eq_false_iff_ne]; omega
      have b64 : (((s[0]'h0).toNat : Int) == 64) = true := by rw [hc]; rfl
      have HC := Lib.hid hc
      clear hc
      go_wp2_with fail
      go_meet
      exact ⟨⟨nm, 2, 0, s.extract 1 s.size, none, [], 0, none, [], 0⟩, true, rfl, cells6 (f := fun j => World.cell? _ ⟨w.heap.size + 1, j, none⟩) (by simp) (by simp) (by simp) (by simp) (by simp) (by simp), (by rintro W1 rfl; (repeat (first | (with_reducible refine below_set ?_ (by first | exact Nat.le_refl _ | omega) _ _) | with_reducible exact Below.refl _ _ | with_reducible refine belowA ?_ _ | with_reducible refine belowD ?_ | with_reducible refine belowN ?_ _))), by simp, lies0 _ _ _ _ _, fits0 2 (by omega) I64_0 hnm (by rw [ByteArray.size_extract]; omega), fresh0 _ _ _ _ _ _, rd_sym h0 HC.out⟩
    · have b34 : (((s[0]'h0).toNat : Int) == 34) = false := by rw [beq_eq_false_iff_ne]; omega
      have b64 : (((s[0]'h0).toNat : Int) == 64) = false := by rw [beq_eq_false_iff_ne]; omega
      have b91 : (((s[0]'h0).toNat : Int) == 91) = true := by rw [hc]; rfl
      have HC := Lib.hid hc
      clear hc
      go_wp2_with (go_at_call 47; refine (rnbs_any s _ hs).mono ?_; rintro e w2 ⟨hb2, sa, sc, l, ok, rfl, hsl, hcap, hz, hln, hok, hall⟩; have HRD := Lib.hid (rd_ints (nm := nm) h0 HC.out hz hok hall sa sc); clear hok hall; have HSL := Lib.hid hsl; have HCAP := Lib.hid hcap; have HZZ := Lib.hid hz; clear hsl hcap hz; have c2 := rdCell hb2 (w.heap.size + 1) (by simp); have f2 := rdFree hb2 (w.heap.size + 1) (by simp); have hz2 : w.heap.size + 1 < w2.heap.size := (by have := Below.size hb2; simp at this; omega))
      go_meet
      have hfr : ∀ x, sa = some x → w.heap.size + 1 < x.block ∧ x.block < w2.heap.size := fun x hx => by have := HCAP.out.2 x hx; simp at this; omega
      refine ⟨⟨nm, 4, 0, ⟨#[]⟩, sa, l, sc, none, [], 0⟩, ok, rfl, cells6 (f := fun j => World.cell? _ ⟨w.heap.size + 1, j, none⟩) ((set_at c2 ⟨.slice none 0 0, by simp⟩ 0).trans (by simp)) ((set_at c2 ⟨.slice none 0 0, by simp⟩ 1).trans (by simp)) ((set_at c2 ⟨.slice none 0 0, by simp⟩ 2).trans (by simp)) ((set_at c2 ⟨.slice none 0 0, by simp⟩ 3).trans (by simp)) ((set_at c2 ⟨.slice none 0 0, by simp⟩ 4).trans (by simp)) ((set_at c2 ⟨.slice none 0 0, by simp⟩ 5).trans (by simp)), (by rintro W1 rfl; refine below_set ?_ (by simp) _ _; (repeat (first | (with_reducible refine below_set ?_ (by first | exact Nat.le_refl _ | omega) _ _) | with_reducible exact Below.refl _ _ | with_reducible refine belowA ?_ _ | with_reducible refine below_own' ?_ hb2 | with_reducible refine belowD ?_ | with_reducible refine belowN ?_ _))), by simpa [World.setCell] using hz2, ⟨intSl_set HSL.out (fun x hx => by have := hfr x hx; omega), .inl rfl⟩, ?_, ?_, HRD.out⟩
      · exact ⟨hnm, Nat.zero_le _, I64_0, (show I64 4 from ⟨by decide, by decide⟩), HCAP.out.1, HZZ.out, by show l.length * 8 ≤ _; omega, Nat.le_refl _, (by intro z hz; cases hz), by simp⟩
      · intro x hx
        rcases hx with h | h
        · have := hfr x h
          simpa [World.setCell] using this
        · cases h
    · have b34 : (((s[0]'h0).toNat : Int) == 34) = false := by rw [beq_eq_false_iff_ne]; omega
      have b64 : (((s[0]'h0).toNat : Int) == 64) = false := by rw [beq_eq_false_iff_ne]; omega
      have b91 : (((s[0]'h0).toNat : Int) == 91) = false := by rw [beq_eq_false_iff_ne]; omega
      have b40 : (((s[0]'h0).toNat : Int) == 40) = true := by rw [hc]; rfl
      have HC := Lib.hid hc
      clear hc
      go_wp2_with (go_at_call 48; refine (rsx_any nm s _ h0 HC.out hs).mono ?_; rintro e w2 ⟨sa, sc, n, ls, ok, rfl, hn, hsl, hcap, hfr, hln, hz, hrd, hb2⟩; have HN := Lib.hid hn; have HRD := Lib.hid hrd; have HSL := Lib.hid hsl; have HCAP := Lib.hid hcap; have HZZ := Lib.hid hz; have HFR := Lib.hid hfr; clear hsl hcap hz hrd hfr hn; have c2 := rdCell hb2 (w.heap.size + 1) (by simp); have f2 := rdFree hb2 (w.heap.size + 1) (by simp); have hz2 : w.heap.size + 1 < w2.heap.size := (by have := Below.size hb2; simp at this; omega))
      go_meet
      have hfr : ∀ x, sa = some x → w.heap.size + 1 < x.block ∧ x.block < w2.heap.size := fun x hx => by have := HFR.out x hx; simp at this; omega
      have hnn := HN.out
      subst hnn
      refine ⟨⟨nm, 5, 0, ⟨#[]⟩, none, [], 0, sa, ls, sc⟩, ok, rfl, cells6 (f := fun j => World.cell? _ ⟨w.heap.size + 1, j, none⟩) ((set_at c2 ⟨.slice none 0 0, by simp⟩ 0).trans (by simp)) ((set_at c2 ⟨.slice none 0 0, by simp⟩ 1).trans (by simp)) ((set_at c2 ⟨.slice none 0 0, by simp⟩ 2).trans (by simp)) ((set_at c2 ⟨.slice none 0 0, by simp⟩ 3).trans (by simp)) ((set_at c2 ⟨.slice none 0 0, by simp⟩ 4).trans (by simp)) ((set_at c2 ⟨.slice none 0 0, by simp⟩ 5).trans (by simp)), (by rintro W1 rfl; refine below_set ?_ (by simp) _ _; (repeat (first | (with_reducible refine below_set ?_ (by first | exact Nat.le_refl _ | omega) _ _) | with_reducible exact Below.refl _ _ | with_reducible refine belowA ?_ _ | with_reducible refine below_own' ?_ hb2 | with_reducible refine belowD ?_ | with_reducible refine belowN ?_ _))), by simpa [World.setCell] using hz2, ⟨.inl rfl, strSl_set HSL.out (fun x hx => by have := hfr x hx; omega)⟩, ?_, ?_, HRD.out⟩
      · exact ⟨hnm, Nat.zero_le _, I64_0, (show I64 5 from ⟨by decide, by decide⟩), Nat.le_refl _, (by intro z hz; cases hz), by simp, HCAP.out, fun x hx => Nat.le_trans (HZZ.out x hx) (by decide), by show ls.length * 16 ≤ _; omega⟩
      · intro x hx
        rcases hx with h | h
        · cases h
        · have := hfr x h
          simpa [World.setCell] using this
    · have b34 : (((s[0]'h0).toNat : Int) == 34) = false := by rw [beq_eq_false_iff_ne]; omega
      have b64 : (((s[0]'h0).toNat : Int) == 64) = false := by rw [beq_eq_false_iff_ne]; omega
      have b91 : (((s[0]'h0).toNat : Int) == 91) = false := by rw [beq_eq_false_iff_ne]; omega
      have b40 : (((s[0]'h0).toNat : Int) == 40) = false := by rw [beq_eq_false_iff_ne]; omega
      have b45 : (((s[0]'h0).toNat : Int) == 45) = true := by rw [hc]; rfl
      have HC := Lib.hid hc
      clear hc
      go_wp2_with (go_at_call 49; refine (rint_any s _ (by omega)).mono ?_; rintro e w2 ⟨rfl, n, rfl, hn, hr⟩; have HRD := Lib.hid (rd_int (nm := nm) h0 (.inl HC.out) hn hr); have HN64 := Lib.hid hn; clear hn hr)
      go_meet
      exact ⟨⟨nm, 0, n, ⟨#[]⟩, none, [], 0, none, [], 0⟩, rintB s.data.toList, rfl, cells6 (f := fun j => World.cell? _ ⟨w.heap.size + 1, j, none⟩) (by simp) (by simp) (by simp) (by simp) (by simp) (by simp), (by rintro W1 rfl; (repeat (first | (with_reducible refine below_set ?_ (by first | exact Nat.le_refl _ | omega) _ _) | with_reducible exact Below.refl _ _ | with_reducible refine belowA ?_ _ | with_reducible refine belowD ?_ | with_reducible refine belowN ?_ _))), by simp, lies0 _ _ _ _ _, fits0 0 (by omega) HN64.out hnm (Nat.zero_le _), fresh0 _ _ _ _ _ _, HRD.out⟩
    · have b34 : (((s[0]'h0).toNat : Int) == 34) = false := by rw [beq_eq_false_iff_ne]; omega
      have b64 : (((s[0]'h0).toNat : Int) == 64) = false := by rw [beq_eq_false_iff_ne]; omega
      have b91 : (((s[0]'h0).toNat : Int) == 91) = false := by rw [beq_eq_false_iff_ne]; omega
      have b40 : (((s[0]'h0).toNat : Int) == 40) = false := by rw [beq_eq_false_iff_ne]; omega
      have b45 : (((s[0]'h0).toNat : Int) == 45) = false := by rw [beq_eq_false_iff_ne]; omega
      have hd1 : (48 : Int) ≤ ((s[0]'h0).toNat : Int) := by omega
      have hd2 : ((s[0]'h0).toNat : Int) ≤ 57 := by omega
      have HC := Lib.hid hc
      clear hc
      go_wp2_with (go_at_call 49; refine (rint_any s _ (by omega)).mono ?_; rintro e w2 ⟨rfl, n, rfl, hn, hr⟩; have HRD := Lib.hid (rd_int (nm := nm) h0 (.inr HC.out) hn hr); have HN64 := Lib.hid hn; clear hn hr)
      go_meet
      exact ⟨⟨nm, 0, n, ⟨#[]⟩, none, [], 0, none, [], 0⟩, rintB s.data.toList, rfl, cells6 (f := fun j => World.cell? _ ⟨w.heap.size + 1, j, none⟩) (by simp) (by simp) (by simp) (by simp) (by simp) (by simp), (by rintro W1 rfl; (repeat (first | (with_reducible refine below_set ?_ (by first | exact Nat.le_refl _ | omega) _ _) | with_reducible exact Below.refl _ _ | with_reducible refine belowA ?_ _ | with_reducible refine belowD ?_ | with_reducible refine belowN ?_ _))), by simp, lies0 _ _ _ _ _, fits0 0 (by omega) HN64.out hnm (Nat.zero_le _), fresh0 _ _ _ _ _ _, HRD.out⟩
    · have n34 := hc 34 (by simp)
      have n64 := hc 64 (by simp)
      have n91 := hc 91 (by simp)
      have n40 := hc 40 (by simp)
      have n45 := hc 45 (by simp)
      have n48 := hc 48 (by simp)
      have n49 := hc 49 (by simp)
      have n50 := hc 50 (by simp)
      have n51 := hc 51 (by simp)
      have n52 := hc 52 (by simp)
      have n53 := hc 53 (by simp)
      have n54 := hc 54 (by simp)
      have n55 := hc 55 (by simp)
      have n56 := hc 56 (by simp)
      have n57 := hc 57 (by simp)
      have b34 : (((s[0]'h0).toNat : Int) == 34) = false := by rw [beq_eq_false_iff_ne]; omega
      have b64 : (((s[0]'h0).toNat : Int) == 64) = false := by rw [beq_eq_false_iff_ne]; omega
      have b91 : (((s[0]'h0).toNat : Int) == 91) = false := by rw [beq_eq_false_iff_ne]; omega
      have b40 : (((s[0]'h0).toNat : Int) == 40) = false := by rw [beq_eq_false_iff_ne]; omega
      have b45 : (((s[0]'h0).toNat : Int) == 45) = false := by rw [beq_eq_false_iff_ne]; omega
      have hcs2 : (s[0]'h0).toNat < 48 ∨ 57 < (s[0]'h0).toNat := by omega
      clear n34 n64 n91 n40 n45 n48 n49 n50 n51 n52 n53 n54 n55 n56 n57
      have HC := Lib.hid hc
      clear hc
      rcases hcs2 with hd | hd
      all_goals
        go_wp2_with fail
        go_meet
        exact ⟨⟨nm, 3, 0, s, none, [], 0, none, [], 0⟩, true, rfl, cells6 (f := fun j => World.cell? _ ⟨w.heap.size + 1, j, none⟩) (by simp) (by simp) (by simp) (by simp) (by simp) (by simp), (by rintro W1 rfl; (repeat (first | (with_reducible refine below_set ?_ (by first | exact Nat.le_refl _ | omega) _ _) | with_reducible exact Below.refl _ _ | with_reducible refine belowA ?_ _ | with_reducible refine belowD ?_ | with_reducible refine belowN ?_ _))), by simp, lies0 _ _ _ _ _, fits0 3 (by omega) I64_0 hnm (by omega), fresh0 _ _ _ _ _ _, rd_type h0 HC.out⟩
  case rest =>
    obtain ⟨a, ok, rfl, hw⟩ := hcut
    clear hemp h1
    have HW := Lib.hid hw
    have hb1 := hw.bel _ rfl
    have hz1 := hw.sz
    have c0 := rdCell hb1 w.heap.size (by simp)
    have f0 := rdFree hb1 w.heap.size (by simp)
    have k0 := hw.cells 0 (by omega)
    have k1 := hw.cells 1 (by omega)
    have k2 := hw.cells 2 (by omega)
    have k3 := hw.cells 3 (by omega)
    have k4 := hw.cells 4 (by omega)
    have k5 := hw.cells 5 (by omega)
    simp only [Atr.cells, List.getElem?_cons_zero, List.getElem?_cons_succ] at k0 k1 k2 k3 k4 k5
    have HB1 := Lib.hid hb1
    clear hw hb1
    cases ok with
    | false =>
      go_wp2_with fail
      go_region
      go_wp2_with fail
      refine bodyPost_ret (v := .tuple #[a.val, .bool false]) (by simp [results, Tryz.results23, go_sem, c0, f0, show w.heap.size < wc.heap.size by omega]) rfl ?_
      exact rr_drew (rr_end HW.out (Below.refl _ _) (fun h => by cases h) (fun h => by cases h) rfl)
    | true =>
      go_wp2_with fail
      go_region_held3 (fun w' => w'.cell? ⟨w.heap.size + 1, 0, none⟩ = some (.string a.name) ∧ w'.cell? ⟨w.heap.size + 1, 1, none⟩ = some (.int .i64 a.kind) ∧ w'.cell? ⟨w.heap.size + 1, 2, none⟩ = some (.int .i64 a.num) ∧ w'.cell? ⟨w.heap.size + 1, 3, none⟩ = some (.string a.text) ∧ w'.cell? ⟨w.heap.size + 1, 4, none⟩ = some (.slice a.ia a.ints.length a.ic) ∧ w'.cell? ⟨w.heap.size + 1, 5, none⟩ = some (.slice a.ta a.texts.length a.tc)) (go_keep)
        ((first | (go_at_call 15; refine Calls.mono (rRight_any a _ (HW.out.lies.below ?_) HW.out.fits) ?_; (focus ((repeat (first | (with_reducible refine below_set ?_ (by first | exact Nat.le_refl _ | omega) _ _) | with_reducible exact Below.refl _ _ | with_reducible refine belowA ?_ _ | with_reducible refine belowD ?_ | with_reducible refine belowN ?_ _)); done)); rintro e w8 ⟨rfl, hb8⟩; have c8 := fun j => (rdCell hb8 (w.heap.size + 1) (by simp; omega) j); have d8 := fun j => (rdCell hb8 w.heap.size (by simp; omega) j).trans (c0 j); have f8 := fun j => (rdFree hb8 w.heap.size (by simp; omega) j).trans (f0 j))))
      go_wp2_with fail
      have hz8 := hb8.size
      refine bodyPost_ret (v := .tuple #[a.val, .bool (rightA a)]) (by simp [results, Tryz.results23, go_sem, d8, f8, show w.heap.size < w8.heap.size by simp at hz8; omega]) rfl ?_
      exact rr_end HW.out (by (repeat (first | (with_reducible refine below_set ?_ (by first | exact Nat.le_refl _ | omega) _ _) | with_reducible exact Below.refl _ _ | with_reducible refine belowA ?_ _ | with_reducible refine below_own' ?_ hb8 | with_reducible refine belowD ?_ | with_reducible refine belowN ?_ _))) (fun h => ⟨rfl, h⟩) (fun _ h => h) rfl
set_option maxRecDepth 100000 in
set_option maxHeartbeats 4000000 in
theorem rreadA_nil (nm : ByteArray) (w : World) (hnm : nm.size ≤ 140737488351232) : Calls Tryz.prog 23 #[.string nm, .string ⟨#[]⟩] w (RrPost nm ⟨#[]⟩ w) := by
  have HP : Hid (∀ W, Below w.heap.size w W → RrPost nm ⟨#[]⟩ w (.returned (.tuple #[.agg #[.string nm, .int .i64 0, .int .i64 0, .string ⟨#[]⟩, .slice none 0 0, .slice none 0 0], .bool false])) W) := Lib.hid fun W hW => by
    refine ⟨hW, ⟨nm, 0, 0, ⟨#[]⟩, none, [], 0, none, [], 0⟩, false, rfl, lies0 _ _ _ _ _, fits0 0 (by omega) I64_0 hnm (Nat.zero_le _), ?_, (fun h => by cases h), fun D hD => ?_⟩
    · rintro x (h | h) <;> cases h
    · exact ((rd_empty (nm := nm) rfl ⟨nm, 0, 0, ⟨#[]⟩, none, [], 0, none, [], 0⟩).comp D hD).1
  go_enter Tryz.func23, Tryz.ntmps23
  go_wp2_with fail
  refine bodyPost_ret (v := .tuple #[.agg #[.string nm, .int .i64 0, .int .i64 0, .string ⟨#[]⟩, .slice none 0 0, .slice none 0 0], .bool false]) (by simp [results, Tryz.results23, go_sem]) rfl ?_
  exact HP.out _ (by (repeat (first | (with_reducible refine below_set ?_ (by first | exact Nat.le_refl _ | omega) _ _) | with_reducible exact Below.refl _ _ | with_reducible refine belowA ?_ _ | with_reducible refine belowD ?_ | with_reducible refine belowN ?_ _)))
theorem rreadA_all (nm s : ByteArray) (w : World) (hnm : nm.size ≤ 140737488351232) (hs : s.size ≤ 4294967280) : Calls Tryz.prog 23 #[.string nm, .string s] w (RrPost nm s w) := by
  rcases Nat.eq_zero_or_pos s.size with h0 | h0
  · have hs0 : s = ⟨#[]⟩ := by apply ByteArray.ext; exact Array.eq_empty_of_size_eq_zero h0
    subst hs0
    exact rreadA_nil nm w hnm
  · exact rreadA_any nm s w h0 hnm hs
end Go.Proofs.YtmepjbjmjbpchaaGreatDoor
end
section
/- The reference's Parse in plain words: what is known at the head of its loop, and at each exit. -/
namespace Go.Proofs.YtmepjbjmjbpchaaGreatDoor
open Go Go.RowKit Go.Sort
set_option linter.unusedVariables false
set_option linter.unusedSimpArgs false

/-- What is left to be read, and what has been read: of each list with the string. -/
def PrWay (s : ByteArray) (l : List Atr) (rs : List UInt8) : Prop :=
  ∀ ds, CanL s ds → ∃ ds', ds' ≠ [] ∧ ds = l.map Atr.dat ++ ds' ∧ rs = Lib.join (ds'.map itemD) [44, 32] ++ [125]
theorem canL_head {s : ByteArray} {ds : List Dat} (h : CanL s ds) (h0 : 0 < s.size) : ds ≠ [] ∧ s.data.toList = 123 :: (Lib.join (ds.map itemD) [44, 32] ++ [125]) := by
  obtain ⟨-, -, h⟩ := h
  unfold listD at h
  split at h
  · have := congrArg List.length h
    rw [list_size, List.length_nil] at this
    omega
  · rename_i hd; exact ⟨hd, h.symm⟩
theorem PrWay.start {s rs : ByteArray} (h0 : 0 < s.size) (hr : rs.data.toList = s.data.toList.drop 1) : PrWay s [] rs.data.toList := fun ds h => by
  obtain ⟨h1, h2⟩ := canL_head h h0
  exact ⟨ds, h1, rfl, by rw [hr, h2]; rfl⟩
/-- The place behind a name: no blank before it. -/
def NoSp (l : List UInt8) (j : Nat) : Prop := (∀ x ∈ l.take j, x ≠ 32) ∧ j ≤ l.length ∧ (l[j]? = none ∨ l[j]? = some 32)
theorem nosp_name {l nm tl : List UInt8} {j : Nat} (h : NoSp l j) (hl : l = nm ++ 32 :: tl) (hn : ∀ c ∈ nm, c ≠ 32) : j = nm.length := by
  obtain ⟨h1, h2, h3⟩ := h
  rcases Nat.lt_trichotomy j nm.length with h4 | h4 | h4
  · exfalso
    have h5 : l[j]? = some nm[j] := by rw [hl, List.getElem?_append_left h4, List.getElem?_eq_getElem h4]
    rcases h3 with h3 | h3
    · rw [h5] at h3; cases h3
    · rw [h5] at h3
      exact hn _ (List.getElem_mem h4) (Option.some.inj h3)
  · exact h4
  · exfalso
    have h5 : l[nm.length]? = some 32 := by rw [hl]; simp
    refine h1 32 ?_ rfl
    rw [List.mem_iff_getElem?]
    exact ⟨nm.length, by rw [List.getElem?_take_of_lt h4]; exact h5⟩
theorem join_items (d : Dat) (ds : List Dat) : Lib.join ((d :: ds).map itemD) [44, 32] ++ [125] = d.name.data.toList ++ 32 :: 61 :: 32 :: (valD d ++ (if ds = [] then [125] else 44 :: 32 :: (Lib.join (ds.map itemD) [44, 32] ++ [125]))) := by
  cases ds with
  | nil => simp [Lib.join_one, itemD]
  | cons e ds =>
    rw [List.map_cons, Lib.join_cons, if_neg (by simp), List.map_cons, Lib.join_cons]
    simp [Lib.joinTail, itemD]
/-- The item that is read. -/
theorem PrWay.item {s : ByteArray} {l : List Atr} {rs : List UInt8} (h : PrWay s l rs) {j : Nat} (hj : NoSp rs j) {ds : List Dat} (hc : CanL s ds) :
    ∃ d ds', ds = l.map Atr.dat ++ d :: ds' ∧ rightD d = true ∧ InR d ∧ j + 3 ≤ rs.length ∧ (rs.drop j).take 3 = [32, 61, 32] ∧ rs.take j = d.name.data.toList ∧ rs.drop (j + 3) = valD d ++ (if ds' = [] then [125] else 44 :: 32 :: (Lib.join (ds'.map itemD) [44, 32] ++ [125])) := by
  obtain ⟨ds', h1, h2, h3⟩ := h ds hc
  cases ds' with
  | nil => exact absurd rfl h1
  | cons d ds' =>
    have hm : d ∈ ds := by rw [h2]; simp
    have hr := rightL_each hc.1 d hm
    have h4 := h3.trans (join_items d ds')
    obtain ⟨-, hn⟩ := name_no32 (right_name hr)
    have hjn := nosp_name hj h4 hn
    refine ⟨d, ds', h2, hr, hc.2.1 d hm, ?_, ?_, ?_, ?_⟩
    · rw [h4, hjn]; simp
    · rw [h4, hjn]; simp
    · rw [h4, hjn]; simp
    · rw [h4, hjn, ← List.drop_drop]; simp
theorem valD_en {d : Dat} (h : rightD d = true) : enRun 0 (valD d) = some 0 ∨ ∃ t, valD d = quoteL t := by
  rcases en_val h with ⟨-, h⟩ | h
  · exact .inr ⟨_, h⟩
  · exact .inl h
/-- What stands behind the value. -/
theorem PrWay.value {s : ByteArray} {l : List Atr} {rs : List UInt8} (h : PrWay s l rs) {j : Nat} (hj : NoSp rs j) {n : Nat} (hn : EndAt (rs.drop (j + 3)) n) {ds : List Dat} (hc : CanL s ds) :
    ∃ d ds', ds = l.map Atr.dat ++ d :: ds' ∧ rightD d = true ∧ InR d ∧ rs.take j = d.name.data.toList ∧ n = (valD d).length ∧ (rs.drop (j + 3)).take n = valD d ∧ (rs.drop (j + 3)).drop n = (if ds' = [] then [125] else 44 :: 32 :: (Lib.join (ds'.map itemD) [44, 32] ++ [125])) := by
  obtain ⟨d, ds', h1, h2, h3, h4, h5, h6, h7⟩ := h.item hj hc
  have hN : n = (valD d).length := by
    by_cases h8 : ds' = []
    · rw [if_pos h8] at h7
      exact hn (valD d) 125 [] h7 (.inr rfl) (valD_en h2)
    · rw [if_neg h8] at h7
      exact hn (valD d) 44 _ h7 (.inl rfl) (valD_en h2)
  refine ⟨d, ds', h1, h2, h3, h6, hN, ?_, ?_⟩
  · rw [h7, hN]; simp
  · rw [h7, hN]; simp
/-- Exits that find no list. -/
theorem PrWay.no_sep {s : ByteArray} {l : List Atr} {rs : List UInt8} (h : PrWay s l rs) {j : Nat} (hj : NoSp rs j) (hx : rs.length < j + 3 ∨ (rs.drop j).take 3 ≠ [32, 61, 32]) : ∀ ds, ¬ CanL s ds := fun ds hc => by
  obtain ⟨d, ds', h1, h2, h3, h4, h5, h6, h7⟩ := h.item hj hc
  rcases hx with hx | hx
  · omega
  · exact hx h5
theorem PrWay.can {s : ByteArray} {l : List Atr} {rs : List UInt8} (h : PrWay s l rs) {j : Nat} (hj : NoSp rs j) {n : Nat} (hn : EndAt (rs.drop (j + 3)) n) {nm v : ByteArray} (hnm : nm.data.toList = rs.take j) (hv : v.data.toList = (rs.drop (j + 3)).take n) {ds : List Dat} (hc : CanL s ds) :
    ∃ d ds', ds = l.map Atr.dat ++ d :: ds' ∧ Can nm v d ∧ n < (rs.drop (j + 3)).length ∧ (rs.drop (j + 3)).drop n = (if ds' = [] then [125] else 44 :: 32 :: (Lib.join (ds'.map itemD) [44, 32] ++ [125])) := by
  obtain ⟨d, ds', h1, h2, h3, h4, h5, h6, h7⟩ := h.value hj hn hc
  refine ⟨d, ds', h1, ⟨bytes_inj (by rw [hnm, h4]), h2, h3, by rw [hv, h6]⟩, ?_, h7⟩
  have := congrArg List.length h7
  simp only [List.length_drop] at this ⊢
  split at this <;> simp at this <;> omega
theorem PrWay.no_read {s : ByteArray} {l : List Atr} {rs : List UInt8} (h : PrWay s l rs) {j : Nat} (hj : NoSp rs j) {n : Nat} (hn : EndAt (rs.drop (j + 3)) n) {nm v : ByteArray} (hnm : nm.data.toList = rs.take j) (hv : v.data.toList = (rs.drop (j + 3)).take n) {ok : Bool} (hall : ∀ D, Can nm v D → ok = true)
    (hx : ok = false ∨ n = (rs.drop (j + 3)).length) : ∀ ds, ¬ CanL s ds := fun ds hc => by
  obtain ⟨d, ds', h1, h2, h3, h4⟩ := h.can hj hn hnm hv hc
  rcases hx with hx | hx
  · have := hall d h2; rw [hx] at this; cases this
  · omega
/-- Behind an attribute that was read: the last one, or one with more behind it. -/
theorem PrWay.next {s : ByteArray} {l : List Atr} {rs : List UInt8} (h : PrWay s l rs) {j : Nat} (hj : NoSp rs j) {n : Nat} (hn : EndAt (rs.drop (j + 3)) n) {nm v : ByteArray} (hnm : nm.data.toList = rs.take j) (hv : v.data.toList = (rs.drop (j + 3)).take n) {a : Atr} (hca : Can nm v a.dat) :
    ((rs.drop (j + 3))[n]? = some 125 → ∀ ds, CanL s ds → ds = (l ++ [a]).map Atr.dat ∧ n + 1 = (rs.drop (j + 3)).length) ∧
    ((rs.drop (j + 3))[n]? ≠ some 125 → ((rs.drop (j + 3))[n + 1]? ≠ some 32 → ∀ ds, ¬ CanL s ds) ∧ PrWay s (l ++ [a]) ((rs.drop (j + 3)).drop (n + 2))) := by
  have key : ∀ ds, CanL s ds → ∃ ds', ds = (l ++ [a]).map Atr.dat ++ ds' ∧ (rs.drop (j + 3)).drop n = (if ds' = [] then [125] else 44 :: 32 :: (Lib.join (ds'.map itemD) [44, 32] ++ [125])) := fun ds hc => by
    obtain ⟨d, ds', h1, h2, h3, h4⟩ := h.can hj hn hnm hv hc
    have hd := can_uniq h2 hca
    exact ⟨ds', by rw [h1, hd]; simp, h4⟩
  obtain ⟨r2, hr2⟩ : ∃ r2, r2 = rs.drop (j + 3) := ⟨_, rfl⟩
  rw [← hr2] at key ⊢
  have hg : ∀ k, r2[n + k]? = (r2.drop n)[k]? := fun k => by rw [List.getElem?_drop]
  refine ⟨fun h125 ds hc => ?_, fun h125 => ⟨fun h32 ds hc => ?_, fun ds hc => ?_⟩⟩
  · obtain ⟨ds', h1, h2⟩ := key ds hc
    have h3 := hg 0
    rw [Nat.add_zero, h125, h2] at h3
    by_cases hd : ds' = []
    · refine ⟨by rw [h1, hd, List.append_nil], ?_⟩
      rw [if_pos hd] at h2
      have := congrArg List.length h2
      rw [List.length_drop] at this
      simp at this
      omega
    · rw [if_neg hd] at h3
      have := Option.some.inj h3
      exact absurd this (by decide)
  · obtain ⟨ds', h1, h2⟩ := key ds hc
    by_cases hd : ds' = []
    · rw [if_pos hd] at h2
      have h3 := hg 0
      rw [Nat.add_zero, h2] at h3
      exact h125 h3
    · rw [if_neg hd] at h2
      have h3 := hg 1
      rw [h2] at h3
      exact h32 h3
  · obtain ⟨ds', h1, h2⟩ := key ds hc
    by_cases hd : ds' = []
    · rw [if_pos hd] at h2
      have h3 := hg 0
      rw [Nat.add_zero, h2] at h3
      exact absurd h3 h125
    · rw [if_neg hd] at h2
      exact ⟨ds', hd, h1, by rw [← List.drop_drop, h2]; rfl⟩
/-- What the reference's Parse answers. -/
def RpPost (s : ByteArray) (w : World) (e : Ending) (w' : World) : Prop :=
  Below w.heap.size w w' ∧ ∃ (sa : Option Addr) (sc n : Nat) (l : List Atr) (ok : Bool), e = .returned (.tuple #[.slice sa n sc, .bool ok]) ∧ n = l.length ∧ AtrSl w' sa l ∧ (ok = true → CanL s (l.map Atr.dat)) ∧ (∀ ds, CanL s ds → ok = true)
theorem rp_no {s : ByteArray} {w w' : World} {e : Ending} (hb : Below w.heap.size w w') (he : e = .returned (.tuple #[.slice none 0 0, .bool false])) (h : ∀ ds, ¬ CanL s ds) : RpPost s w e w' :=
  ⟨hb, none, 0, 0, [], false, he, rfl, ⟨.inl rfl, by simp, by simp⟩, (fun h => by cases h), fun ds hd => absurd hd (h ds)⟩
end Go.Proofs.YtmepjbjmjbpchaaGreatDoor
end
