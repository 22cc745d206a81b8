/- Texts of this claim, laid together: Ac1, At7, At8, Copy, Ac2, Ac3, Ac4, Ac5, Ad0, Ad1, Ad2, Ax0, Bld, BldB, TyD. -/
import Derived.Maps.AppendAt
import Derived.Deep.AppendLies
import Derived.Laws.CopyOwn
import Derived.Laws.MakeOwn
import Derived.WalkKit
import Derived.Laws.OwnMore
import Derived.IntWalk
import Derived.Test.YtmepjbjmjbpchaaGreatDoorShelf
import Derived.Shelf.Strings.Builder1
import Derived.Lib.AppendIntMem
import Derived.Test.YtmepjbjmjbpchaaGreatDoorMg1
import Derived.Test.YtmepjbjmjbpchaaGreatDoorMg2
section
/- graph.Attrs: attributes in new memory. -/
namespace Go.Proofs.YtmepjbjmjbpchaaGreatDoor
open Go Go.RowKit Go.Sort
set_option linter.unusedVariables false
set_option linter.unusedSimpArgs false

/-- The data of an attribute, wherever its lists lie. -/
structure Dat where
  name : ByteArray
  kind : Int
  num : Int
  text : ByteArray
  ints : List Int
  texts : List ByteArray
deriving DecidableEq
def Atr.dat (a : Atr) : Dat := ⟨a.name, a.kind, a.num, a.text, a.ints, a.texts⟩
theorem IntSl.grown {w w' : World} {row : Option Nat} {a : Option Addr} {zs : List Int} (h : IntSl w a zs) (hg : w.grownBy w' row) (hne : ∀ x, a = some x → row ≠ some x.block) : IntSl w' a zs := by
  rcases h with h | ⟨g, off, rfl, h2, h3⟩
  · exact .inl h
  · refine .inr ⟨g, off, rfl, Nat.lt_of_lt_of_le h2 hg.size, fun j hj => ?_⟩
    rw [← h3 j hj]
    unfold World.cell?
    rw [hg.block g h2 (fun e => hne _ rfl e.symm)]
theorem StrSl.grown {w w' : World} {row : Option Nat} {a : Option Addr} {zs : List ByteArray} (h : StrSl w a zs) (hg : w.grownBy w' row) (hne : ∀ x, a = some x → row ≠ some x.block) : StrSl w' a zs := by
  rcases h with h | ⟨g, off, rfl, h2, h3⟩
  · exact .inl h
  · refine .inr ⟨g, off, rfl, Nat.lt_of_lt_of_le h2 hg.size, fun j hj => ?_⟩
    rw [← h3 j hj]
    unfold World.cell?
    rw [hg.block g h2 (fun e => hne _ rfl e.symm)]
/-- A slice of attributes in a row of its own, the lists of its elements in other blocks. -/
structure AtrOwn (w : World) (base : Nat) (v : Value) (l : List Atr) : Prop where
  own : w.ownsRow base 27 6 v l.length (l.flatMap Atr.cells)
  lies : ∀ a ∈ l, a.Lies w
  fits : ∀ a ∈ l, a.Fits
  off : ∀ a ∈ l, ∀ x, (a.ia = some x ∨ a.ta = some x) → x.block < w.heap.size ∧ v.ownBlock ≠ some x.block
  nil : l = [] → v = .slice none 0 0
theorem AtrOwn.emp (w : World) (base : Nat) : AtrOwn w base (.slice none 0 0) [] := ⟨World.ownsRow_nil _ _ _ _, by simp, by simp, by simp, fun _ => rfl⟩
theorem AtrOwn.below {w w1 : World} {base : Nat} {v : Value} {l : List Atr} (h : AtrOwn w base v l) (hb : Below w.heap.size w w1) : AtrOwn w1 base v l :=
  ⟨h.own.kept (grown_below hb) (by cases hv : v.ownBlock <;> simp), fun a ha => (h.lies a ha).below hb, h.fits, fun a ha x hx => ⟨Nat.lt_of_lt_of_le (h.off a ha x hx).1 hb.size, (h.off a ha x hx).2⟩, h.nil⟩
theorem Atr.Lies.grown {w w' : World} {row : Option Nat} {a : Atr} (h : a.Lies w) (hg : w.grownBy w' row) (hne : ∀ x, (a.ia = some x ∨ a.ta = some x) → row ≠ some x.block) : a.Lies w' :=
  ⟨h.ints.grown hg (fun x hx => hne x (.inl hx)), h.texts.grown hg (fun x hx => hne x (.inr hx))⟩
theorem AtrOwn.snoc {w w' : World} {base : Nat} {v v' : Value} {l : List Atr} {a : Atr} (h : AtrOwn w base v l) (hl : a.Lies w) (hf : a.Fits) (ho : ∀ x, (a.ia = some x ∨ a.ta = some x) → x.block < w.heap.size ∧ v.ownBlock ≠ some x.block)
    (hown : w'.ownsRow base 27 6 v' (l.length + 1) (l.flatMap Atr.cells ++ a.cells)) (hg : w.grownBy w' v.ownBlock) {H : Nat} (hat : v'.ownBlock = v.ownBlock ∨ v'.ownBlock = some H) (hH : H = w.heap.size) : AtrOwn w' base v' (l ++ [a]) := by
  have key : ∀ b, (b ∈ l ∨ b = a) → b.Lies w ∧ b.Fits ∧ ∀ x, (b.ia = some x ∨ b.ta = some x) → x.block < w.heap.size ∧ v.ownBlock ≠ some x.block := by
    rintro b (hb | rfl)
    · exact ⟨h.lies b hb, h.fits b hb, h.off b hb⟩
    · exact ⟨hl, hf, ho⟩
  refine ⟨by simpa using hown, fun b hb => ?_, fun b hb => (key b (by simpa using hb)).2.1, fun b hb x hx => ?_, fun e => by simp at e⟩
  · obtain ⟨h1, _, h3⟩ := key b (by simpa using hb)
    exact h1.grown hg (fun x hx => (h3 x hx).2)
  · obtain ⟨_, _, h3⟩ := key b (by simpa using hb)
    have h4 := h3 x hx
    refine ⟨Nat.lt_of_lt_of_le h4.1 hg.size, ?_⟩
    rcases hat with e | e
    · rw [e]; exact h4.2
    · rw [e]; intro e2; have := Option.some.inj e2; omega
theorem flat_at {l : List Atr} {j i : Nat} (hj : j < l.length) (hi : i < 6) : (l.flatMap Atr.cells)[j * 6 + i]? = l[j].cells[i]? := by
  induction l generalizing j with
  | nil => simp at hj
  | cons a l ih =>
    rw [List.flatMap_cons]
    cases j with
    | zero => rw [List.getElem?_append_left (by rw [cells_len]; omega)]; simp
    | succ k =>
      rw [List.getElem?_append_right (by rw [cells_len]; omega), cells_len, show (k + 1) * 6 + i - 6 = k * 6 + i by omega, ih (by simpa using hj)]
      simp
theorem AtrOwn.sl {w : World} {base : Nat} {p : Option Addr} {n c : Nat} {l : List Atr} (h : AtrOwn w base (.slice p n c) l) : AtrSl w p l := by
  refine ⟨?_, h.lies, h.fits⟩
  rcases h.own.2 with ⟨h1, h2⟩ | ⟨g, cap, cur, h1, hb, h2, h4, h5, h6, h7⟩
  · exact .inl (List.length_eq_zero_iff.1 h2)
  · cases h1
    refine .inr ⟨g, 0, rfl, blkLt h2, fun j hj i hi => ?_⟩
    rw [blkCell h2, Nat.zero_add, ← flat_at hj hi, ← h7, List.getElem?_take, if_pos (by omega)]
    simp
theorem grownBy_setOff (w : World) (B i : Nat) (v : Value) : w.grownBy (w.setCell ⟨B, i, none⟩ v) (some B) :=
  ⟨rfl, rfl, rfl, by simp [World.setCell], fun k hk hne => heap_setCell_other _ _ _ _ (fun e => hne (by rw [e]))⟩
def zAttr : Value := .agg #[.string ⟨#[]⟩, .int .i64 0, .int .i64 0, .string ⟨#[]⟩, .slice none 0 0, .slice none 0 0]

set_option maxRecDepth 100000 in
set_option maxHeartbeats 8000000 in
theorem attrs_any (p : Option Addr) (c : Nat) (l : List Atr) (w : World) (hs : AtrSl w p l) (hl : l.length ≤ 100000) :
    Calls Tryz.prog 39 #[.slice p l.length c] w fun e w' => ∃ v l', e = .returned v ∧ AtrOwn w' w.heap.size v l' ∧ l'.map Atr.dat = l.map Atr.dat ∧ (∀ a ∈ l', ∀ x, (a.ia = some x ∨ a.ta = some x) → w.heap.size ≤ x.block) ∧ Below w.heap.size w w' := by
  obtain ⟨i0, hin, hz0, hz1, hz2⟩ := info_parts (show (Tryz.prog.info? 27).map (fun i => (i.zero, i.size, i.bytes)) = some (some zAttr, 6, 96) by kernel_rfl)
  have HS := Lib.hid hs
  clear hs
  go_enter Tryz.func39, Tryz.ntmps39
  go_wp2_with fail
  go_loopw [3, 8] (fun v i wr => ∃ (j : Nat) (l' : List Atr), i = .int .i64 j ∧ j ≤ l.length ∧ l'.map Atr.dat = (l.take j).map Atr.dat ∧ AtrOwn wr w.heap.size v l' ∧ (∀ a ∈ l', ∀ x, (a.ia = some x ∨ a.ta = some x) → w.heap.size ≤ x.block) ∧ Below w.heap.size w wr) (fun _ i _ => l.length - (intOf i).toNat)
  case atStart => exact ⟨0, [], rfl, Nat.zero_le _, by simp, AtrOwn.emp _ _, by simp, Below.refl _ _⟩
  case round =>
    obtain ⟨j, l', rfl, hj, hd, ho, hfr, hb⟩ := hrel
    have HFR := Lib.hid hfr
    have HB := Lib.hid hb
    have HD := Lib.hid hd
    have HO := Lib.hid ho
    have hsw := HS.out.below HB.out
    have hlen : Hid (l'.length = j) := Lib.hid (by have := congrArg List.length hd; simpa [Nat.min_eq_left hj] using this)
    clear hb hd ho hfr
    rcases Nat.lt_or_ge j l.length with hlt | hge
    · obtain ⟨g, off, rfl, hzg, hrow⟩ := hsw.row hlt
      obtain ⟨a0, ha0⟩ : ∃ a0, a0 = l[j] := ⟨_, rfl⟩
      have hcj := hrow _ hlt
      rw [← ha0] at hcj
      have HA0 := Lib.hid ha0
      have HLI := Lib.hid (fun (W : World) (hb : Below wr.heap.size wr W) => (hsw.lies a0 (by rw [ha0]; exact List.getElem_mem _)).below hb)
      have HFI := Lib.hid (hsw.fits a0 (by rw [ha0]; exact List.getElem_mem _))
      clear ha0 hrow hsw
      obtain ⟨k0, k1, k2, k3, k4, k5⟩ := hcj
      obtain ⟨pv, pc, rfl, -⟩ := own_form HO.out.own
      go_wp2_with (first
        | (at_builtin; refine wpList_append_own_at _ rfl _ _ 22 rfl w.heap.size 27 i0 zAttr 6 96 Tryz.underlying22 hin hz0 hz1 hz2 rfl (by decide) _ _ _ rfl (by exact (HO.out.below (by (repeat (first | (with_reducible refine below_set ?_ (by first | exact Nat.le_refl _ | omega) _ _) | with_reducible exact Below.refl _ _ | with_reducible refine belowA ?_ _ | with_reducible refine below_own' ?_ hb4 | with_reducible refine below_own' ?_ hb2 | with_reducible refine belowD ?_ | with_reducible refine belowN ?_ _)))).own) ⟨w4.heap.size, 0, none⟩ 1 1 [.string a0.name, .int .i64 a0.kind, .int .i64 a0.num, .string a0.text, .slice ia' a0.ints.length ic', .slice ta' a0.texts.length tc'] rfl rfl ?c1 ?c2 ?c3 ?c4 ?c5 ?_)
        | (go_at_call 68; refine Calls.mono (cloneS_any _ _ a0.texts _ HFI.out.tl ?_) ?_; (focus (exact (HLI.out _ (by (repeat (first | (with_reducible refine below_set ?_ (by first | exact Nat.le_refl _ | omega) _ _) | with_reducible exact Below.refl _ _ | with_reducible refine belowA ?_ _ | with_reducible refine below_own' ?_ hb2 | with_reducible refine belowD ?_ | with_reducible refine belowN ?_ _)))).texts)); rintro e w4 ⟨ta', tc', rfl, hsl4, hcap4, hfr4, hb4⟩; have c4 := rdCell hb4 wr.heap.size (by first | (simp; done) | (simp; omega)); have f4 := rdFree hb4 wr.heap.size (by first | (simp; done) | (simp; omega)); have hzw4 : wr.heap.size < w4.heap.size := (by have := Below.size hb4; simp at this; omega))
        | (go_at_call 67; refine Calls.mono (cloneI_any _ _ a0.ints _ HFI.out.il ?_) ?_; (focus (exact (HLI.out _ (by (repeat (first | (with_reducible refine below_set ?_ (by first | exact Nat.le_refl _ | omega) _ _) | with_reducible exact Below.refl _ _ | with_reducible refine belowA ?_ _ | with_reducible refine belowD ?_ | with_reducible refine belowN ?_ _)))).ints)); rintro e w2 ⟨ia', ic', rfl, hsl2, hcap2, hfr2, hb2⟩; have c2 := rdCell hb2 wr.heap.size (by first | (simp; done) | (simp; omega)); have f2 := rdFree hb2 wr.heap.size (by first | (simp; done) | (simp; omega)); have hzw2 : wr.heap.size < w2.heap.size := (by have := Below.size hb2; simp at this; omega)))
      case c1 =>
        intro t u hj
        have hlt6 : t < 6 := by have := (List.getElem?_eq_some_iff.1 hj).1; simpa using this
        have hadd : (⟨w4.heap.size, 0, none⟩ : Addr).add t = ⟨w4.heap.size, 0 + t, none⟩ := by
          unfold Addr.add; split
          · rename_i h; subst h; rfl
          · rfl
        rw [hadd, Nat.zero_add, blkCell (heap_alloc_new' _ _ (by simp [World.setCell]))]
        have ht : t = 0 ∨ t = 1 ∨ t = 2 ∨ t = 3 ∨ t = 4 ∨ t = 5 := by omega
        rcases ht with rfl | rfl | rfl | rfl | rfl | rfl <;> simpa using hj
      case c2 =>
        intro u hu
        simp only [List.mem_cons, List.not_mem_nil, or_false] at hu
        rcases hu with rfl | rfl | rfl | rfl | rfl | rfl <;> rfl
      case c3 => have := hlen.out; unfold maxLen; omega
      case c4 => have := hlen.out; omega
      case c5 => have := HB.out.size; simp [World.setCell]; omega
      intro v' w7 hown' hgrow _ hat
      have hb6 : Below wr.heap.size wr ((w4.setCell ⟨wr.heap.size, 5, none⟩ (.slice ta' a0.texts.length tc')).alloc (.cells #[.string a0.name, .int .i64 a0.kind, .int .i64 a0.num, .string a0.text, .slice ia' a0.ints.length ic', .slice ta' a0.texts.length tc'] 27)) := by (repeat (first | (with_reducible refine below_set ?_ (by first | exact Nat.le_refl _ | omega) _ _) | with_reducible exact Below.refl _ _ | with_reducible refine belowA ?_ _ | with_reducible refine below_own' ?_ hb4 | with_reducible refine below_own' ?_ hb2 | with_reducible refine belowD ?_ | with_reducible refine belowN ?_ _))
      have ho6 := HO.out.below hb6
      have hbk : ∀ B, (Value.slice pv l'.length pc).ownBlock = some B → B < wr.heap.size := fun B hB => (HO.out.own.lt B hB).2
      have hI5 : IntSl (w4.setCell ⟨wr.heap.size, 5, none⟩ (.slice ta' a0.texts.length tc')) ia' a0.ints :=
        (((hsl2.grown (grownBy_setOff w2 wr.heap.size 4 _) (fun x hx e => by have h1 := (hfr2 x hx).1; have h2 := Option.some.inj e; simp at h1; omega)).below hb4).grown (grownBy_setOff w4 wr.heap.size 5 _) (fun x hx e => by have h1 := (hfr2 x hx).1; have h2 := Option.some.inj e; simp at h1; omega))
      have hS5 : StrSl (w4.setCell ⟨wr.heap.size, 5, none⟩ (.slice ta' a0.texts.length tc')) ta' a0.texts :=
        hsl4.grown (grownBy_setOff w4 wr.heap.size 5 _) (fun x hx e => by have h1 := (hfr4 x hx).1; have h2 := Option.some.inj e; simp [World.setCell] at h1; omega)
      have hb56 := (Below.refl (w4.setCell ⟨wr.heap.size, 5, none⟩ (.slice ta' a0.texts.length tc')).heap.size (w4.setCell ⟨wr.heap.size, 5, none⟩ (.slice ta' a0.texts.length tc'))).alloc (Nat.le_refl _) (.cells #[.string a0.name, .int .i64 a0.kind, .int .i64 a0.num, .string a0.text, .slice ia' a0.ints.length ic', .slice ta' a0.texts.length tc'] 27)
      have hnew := AtrOwn.snoc (a := { a0 with ia := ia', ic := ic', ta := ta', tc := tc' }) ho6 ⟨hI5.below hb56, hS5.below hb56⟩ ⟨HFI.out.name, HFI.out.text, HFI.out.num, HFI.out.kind, hcap2, HFI.out.ints, HFI.out.il, hcap4, HFI.out.texts, HFI.out.tl⟩
        (fun x hx => ⟨by
          rcases hx with hx | hx
          · have := (hfr2 x hx).2; have := hb4.size; simp [World.setCell] at *; omega
          · have := (hfr4 x hx).2; simp [World.setCell] at *; omega, fun e => by
          have h1 := hbk _ e
          rcases hx with hx | hx
          · have := (hfr2 x hx).1; simp at this; omega
          · have := (hfr4 x hx).1; simp [World.setCell] at this; omega⟩) hown' hgrow hat (by simp [World.setCell])
      have HNEW := Lib.hid hnew
      have hfr' : ∀ b ∈ l' ++ [{ a0 with ia := ia', ic := ic', ta := ta', tc := tc' }], ∀ x, (b.ia = some x ∨ b.ta = some x) → w.heap.size ≤ x.block := by
        intro b hb x hx
        rcases List.mem_append.1 hb with hb | hb
        · exact HFR.out b hb x hx
        · rw [List.mem_singleton.1 hb] at hx
          have hbs := HB.out.size
          rcases hx with hx | hx
          · have := (hfr2 x hx).1; simp at this; omega
          · have := (hfr4 x hx).1; simp [World.setCell] at this; omega
      have HFR' := Lib.hid hfr'
      clear hfr'
      have HB7 := Lib.hid ((below_own' HB.out hb6).grown hgrow (below_own' HB.out hb6).size (fun k hk => (HO.out.own.lt k hk).1))
      clear hnew hown' hgrow hat hb6 ho6 hb56 hI5 hS5 hbk hsl2 hsl4 hfr2 hfr4
      go_wp2_with fail
      go_roundw
      case rel => exact ⟨j + 1, l' ++ [{ a0 with ia := ia', ic := ic', ta := ta', tc := tc' }], by go_num, by omega, by
        rw [List.map_append, HD.out, List.take_succ_eq_append_getElem hlt, List.map_append, ← HA0.out]; rfl, HNEW.out, HFR'.out, HB7.out⟩
      case measure => simp [intOf]; omega
    · obtain rfl : j = l.length := by omega
      obtain ⟨pv, pc, rfl, -⟩ := own_form HO.out.own
      clear hsw
      go_wp2_with fail
      go_ret
      exact ⟨_, l', rfl, HO.out, by rw [HD.out, List.take_length], HFR.out, HB.out⟩
end Go.Proofs.YtmepjbjmjbpchaaGreatDoor
end
section
/- attrs.position: the place of a name in a rising list. -/
namespace Go.Proofs.YtmepjbjmjbpchaaGreatDoor
open Go Go.RowKit
set_option linter.unusedVariables false
set_option linter.unusedSimpArgs false

/-- The names of a list rise. -/
def Rises (l : List Atr) : Prop := ∀ i j (hi : i < j) (hj : j < l.length), nmLt (l[i]'(by omega)).name l[j].name = true
theorem rises_of_okAt {l : List Atr} (h : (List.range l.length).all (okAt l) = true) : Rises l := by
  have hs : ∀ k (hk : k + 1 < l.length), nmLt (l[k]'(by omega)).name l[k + 1].name = true := by
    intro k hk
    have := List.all_eq_true.1 h (k + 1) (List.mem_range.2 hk)
    unfold okAt at this
    rw [List.getElem?_eq_getElem hk] at this
    simp only [List.getElem?_eq_getElem (show k < l.length by omega), Bool.and_eq_true] at this
    exact this.2
  intro i j hi hj
  obtain ⟨d, rfl⟩ : ∃ d, j = i + 1 + d := ⟨j - i - 1, by omega⟩
  induction d with
  | zero => exact hs i hj
  | succ d ih => exact nm_trans (ih (by omega) (by omega)) (hs (i + 1 + d) hj)
theorem rises_of_right {l : List Atr} (h : rightL l = true) : Rises l := by
  unfold rightL at h; rw [Bool.and_eq_true] at h; exact rises_of_okAt h.2
theorem mem_tw {α : Type} {P : α → Bool} {a : α} : ∀ {l : List α}, a ∈ l.takeWhile P → P a = true
  | [], h => by simp at h
  | b :: l, h => by
    by_cases hb : P b = true
    · simp only [List.takeWhile_cons, hb, if_true] at h
      rcases List.mem_cons.1 h with rfl | h
      · exact hb
      · exact mem_tw h
    · simp [List.takeWhile_cons, hb] at h
/-- How many names come ahead of a name. -/
def lowerB (l : List Atr) (s : ByteArray) : Nat := (l.takeWhile fun a => nmLt a.name s).length
theorem lower_le (l : List Atr) (s : ByteArray) : lowerB l s ≤ l.length := (List.takeWhile_prefix _).length_le
theorem lower_lt {l : List Atr} {s : ByteArray} {j : Nat} (h : j < lowerB l s) : nmLt (l[j]'(by have := lower_le l s; omega)).name s = true := by
  have h1 : (l.takeWhile fun a => nmLt a.name s)[j]'h = l[j]'(by have := lower_le l s; omega) := by
    have := List.takeWhile_prefix (l := l) (fun a => nmLt a.name s)
    exact this.getElem h
  have := mem_tw (List.getElem_mem h)
  rw [h1] at this
  exact this
theorem lower_at {l : List Atr} {s : ByteArray} (h : lowerB l s < l.length) : nmLt (l[lowerB l s]'h).name s = false := by
  unfold lowerB at h ⊢
  induction l with
  | nil => simp at h
  | cons a l ih =>
    by_cases ha : nmLt a.name s = true
    · simp only [List.takeWhile_cons, ha, if_true, List.length_cons] at h ⊢
      simpa using ih (by simpa using h)
    · simp only [List.takeWhile_cons, ha]
      simpa using ha
theorem lower_ge {l : List Atr} (hr : Rises l) {s : ByteArray} {j : Nat} (h : lowerB l s ≤ j) (hj : j < l.length) : nmLt l[j].name s = false := by
  rcases Nat.lt_or_ge (lowerB l s) j with h2 | h2
  · cases hx : nmLt l[j].name s with
    | false => rfl
    | true =>
      have := nm_trans (hr _ _ h2 hj) hx
      rw [lower_at (by omega)] at this; cases this
  · obtain rfl : j = lowerB l s := by omega
    exact lower_at hj
theorem lower_uniq {l : List Atr} (hr : Rises l) {s : ByteArray} {i : Nat} (hi : i ≤ l.length) (h1 : ∀ j (h : j < i) (hl : j < l.length), nmLt l[j].name s = true) (h2 : ∀ j (h : i ≤ j) (hl : j < l.length), nmLt l[j].name s = false) : i = lowerB l s := by
  rcases Nat.lt_trichotomy i (lowerB l s) with h | h | h
  · have := lower_lt h
    rw [h2 i (Nat.le_refl _) (by have := lower_le l s; omega)] at this; cases this
  · exact h
  · have := h1 _ h (by omega)
    rw [lower_at (by omega)] at this; cases this
def foundB (l : List Atr) (s : ByteArray) : Bool := match l[lowerB l s]? with | some a => decide (a.name = s) | none => false

theorem nameOf_any (a : Atr) (w : World) : Calls Tryz.prog 64 #[a.val] w fun e w' => e = .returned (.string a.name) ∧ Below w.heap.size w w' := by
  go_enter Tryz.func64, Tryz.ntmps64
  go_wp2_with fail
  go_ret
  exact ⟨rfl, by (repeat (first | (with_reducible refine below_set ?_ (by first | exact Nat.le_refl _ | omega) _ _) | with_reducible exact Below.refl _ _ | with_reducible refine belowA ?_ _ | with_reducible refine belowD ?_ | with_reducible refine belowN ?_ _))⟩
/-- The closure, its captured variable in block c. -/
theorem pos1_any (a : Atr) (s : ByteArray) (c : Nat) (w : World) (hc : w.heap[c]? = some (.cells #[.func (.func 64) #[] #[]] 59 (0, 0))) :
    Calls Tryz.prog 85 #[a.val, .string s, .pointer (some ⟨c, 0, none⟩)] w fun e w' => e = .returned (.int .i64 (nmCmp a.name s)) ∧ Below w.heap.size w w' := by
  have c0 := blkCell hc
  have hlt := blkLt hc
  have hin := fun args w => callFunc_enters Tryz.func64 (by kernel_rfl) rfl args w
  clear hc
  go_enter Tryz.func85, Tryz.ntmps85
  go_wp2_with (first
    | (go_at_call 64; refine (nameOf_any a _).mono ?_; rintro e w1 ⟨rfl, hb1⟩)
    | (go_at_call 56; refine (compare_any _ _ _).mono ?_; rintro e w2 ⟨rfl, rfl⟩))
  go_ret
  exact ⟨rfl, by (repeat (first | (with_reducible refine below_set ?_ (by first | exact Nat.le_refl _ | omega) _ _) | with_reducible exact Below.refl _ _ | with_reducible refine belowA ?_ _ | with_reducible refine below_own' ?_ hb1 | with_reducible refine belowD ?_ | with_reducible refine belowN ?_ _))⟩
end Go.Proofs.YtmepjbjmjbpchaaGreatDoor
end
section
/- slices.BinarySearchFunc at a rising list of attributes; attrs.position. -/
namespace Go.Proofs.YtmepjbjmjbpchaaGreatDoor
open Go Go.RowKit
set_option linter.unusedVariables false
set_option linter.unusedSimpArgs false

abbrev posF (cb : Nat) : Value := .func (.func 85) #[] #[.pointer (some ⟨cb, 0, none⟩)]
abbrev PosC (cb : Nat) (w : World) : Prop := w.heap[cb]? = some (.cells #[.func (.func 64) #[] #[]] 59 (0, 0))

set_option maxRecDepth 100000 in
set_option maxHeartbeats 8000000 in
theorem bsf_any (p : Option Addr) (c : Nat) (l : List Atr) (s : ByteArray) (cb : Nat) (w : World) (hs : AtrSl w p l) (hl : l.length ≤ 100000000000000) (hr : Rises l) (hc : PosC cb w) :
    Calls Tryz.prog 84 #[.slice p l.length c, .string s, posF cb] w fun e w' => e = .returned (.tuple #[.int .i64 (lowerB l s), .bool (foundB l s)]) ∧ Below w.heap.size w w' := by
  have HS := Lib.hid hs
  have HR := Lib.hid hr
  have HC := Lib.hid hc
  have hin := fun args w => callFunc_enters Tryz.func85 (by kernel_rfl) rfl args w
  clear hs hr hc
  go_enter Tryz.func84, Tryz.ntmps84
  go_wp2_with fail
  go_loopw [9, 10] (fun i j wr => ∃ x y : Nat, i = .int .i64 x ∧ j = .int .i64 y ∧ x ≤ y ∧ y ≤ l.length ∧ Below w.heap.size w wr ∧ (∀ t (h : t < x) (hl : t < l.length), nmLt l[t].name s = true) ∧ (∀ t (h : y ≤ t) (hl : t < l.length), nmLt l[t].name s = false)) (fun i j _ => (intOf j).toNat - (intOf i).toNat)
  case atStart => exact ⟨0, l.length, rfl, rfl, by omega, by omega, Below.refl _ _, fun t h => by omega, fun t h hl => by omega⟩
  case round =>
    obtain ⟨x, y, rfl, rfl, hxy, hyl, hb, hlo, hhi⟩ := hrel
    have HB := Lib.hid hb
    have HLO := Lib.hid hlo
    have HHI := Lib.hid hhi
    clear hb hlo hhi
    have hsw := HS.out.below HB.out
    rcases Nat.lt_or_ge x y with hlt | hge
    · have hdl : (x + y) / 2 < l.length := by omega
      obtain ⟨g, off, rfl, hzg, hrow⟩ := hsw.row hdl
      obtain ⟨a0, ha0⟩ : ∃ a0, a0 = l[(x + y) / 2]'hdl := ⟨_, rfl⟩
      have hcj := hrow _ hdl
      rw [← ha0] at hcj
      have HA0 := Lib.hid ha0
      have hpc : PosC cb wr := (HB.out.block _ (blkLt HC.out)).trans HC.out
      have HPC := Lib.hid hpc
      clear ha0 hrow hsw hpc
      obtain ⟨k0, k1, k2, k3, k4, k5⟩ := hcj
      cases hq : nmLt a0.name s with
      | true =>
        have HQ := Lib.hid hq
        have HV : Hid (nmCmp a0.name s = -1) := Lib.hid (by unfold nmCmp; rw [if_pos hq])
        clear hq
        go_wp2_with (go_at_call 85; refine (pos1_any a0 s cb _ HPC.out).mono ?_; rintro e w2 ⟨rfl, hb2⟩; rw [HV.out])
        go_roundw
        case rel => exact ⟨(x + y) / 2 + 1, y, by go_num, rfl, by omega, by omega, below_own' HB.out hb2, fun t h hl => by
          rcases Nat.lt_or_ge t ((x + y) / 2) with h2 | h2
          · exact nm_trans (HR.out _ _ h2 hdl) (by rw [← HA0.out]; exact HQ.out)
          · obtain rfl : t = (x + y) / 2 := by omega
            rw [← HA0.out]; exact HQ.out, HHI.out⟩
        case measure => simp [intOf]; omega
      | false =>
        have HQ := Lib.hid hq
        obtain ⟨v, hv⟩ : ∃ v, v = nmCmp a0.name s := ⟨_, rfl⟩
        have hv0 : ¬ v < 0 := by rw [hv]; unfold nmCmp; rw [if_neg (by rw [hq]; simp)]; split <;> omega
        have HV := Lib.hid hv
        clear hq hv
        go_wp2_with (go_at_call 85; refine (pos1_any a0 s cb _ HPC.out).mono ?_; rintro e w2 ⟨rfl, hb2⟩; rw [← HV.out])
        go_roundw
        case rel => exact ⟨x, (x + y) / 2, rfl, by go_num, by omega, by omega, below_own' HB.out hb2, HLO.out, fun t h hl => by
          rcases Nat.lt_or_ge ((x + y) / 2) t with h2 | h2
          · cases hx : nmLt l[t].name s with
            | false => rfl
            | true =>
              have := nm_trans (HR.out _ _ h2 hl) hx
              rw [← HA0.out, HQ.out] at this; cases this
          · obtain rfl : t = (x + y) / 2 := by omega
            rw [← HA0.out]; exact HQ.out⟩
        case measure => simp [intOf]; omega
    · obtain rfl : x = y := by omega
      have hxl : x = lowerB l s := lower_uniq HR.out hyl HLO.out HHI.out
      have HXL := Lib.hid hxl
      clear hxl
      rcases Nat.lt_or_ge x l.length with hlt2 | hge2
      · obtain ⟨g, off, rfl, hzg, hrow⟩ := hsw.row hlt2
        obtain ⟨a0, ha0⟩ : ∃ a0, a0 = l[x] := ⟨_, rfl⟩
        have hcj := hrow _ hlt2
        rw [← ha0] at hcj
        have hpc : PosC cb wr := (HB.out.block _ (blkLt HC.out)).trans HC.out
        have HPC := Lib.hid hpc
        have hq : nmLt a0.name s = false := by rw [ha0]; exact HHI.out x (Nat.le_refl _) hlt2
        obtain ⟨v, hv⟩ : ∃ v, v = nmCmp a0.name s := ⟨_, rfl⟩
        have HF : Hid (foundB l s = (v == 0)) := Lib.hid (by
          unfold foundB
          rw [← HXL.out, List.getElem?_eq_getElem hlt2, ← ha0, hv]
          unfold nmCmp
          rw [if_neg (by rw [hq]; simp)]
          cases hx : nmLt s a0.name with
          | true =>
            have : ¬ a0.name = s := by rintro rfl; rw [nm_irrefl] at hx; cases hx
            simp [this]
          | false => simp [nm_total hq hx])
        have HV := Lib.hid hv
        have hx0 : (0 : Int) ≤ (x : Int) := by omega
        have hxl : (x : Int) < (l.length : Int) := by omega
        clear ha0 hrow hsw hpc hq hv
        obtain ⟨k0, k1, k2, k3, k4, k5⟩ := hcj
        go_wp2_with (go_at_call 85; refine (pos1_any a0 s cb _ HPC.out).mono ?_; rintro e w2 ⟨rfl, hb2⟩; rw [← HV.out])
        go_ret2
        exact ⟨by rw [HF.out, ← HXL.out]; rfl, below_own' HB.out hb2⟩
      · have HF : Hid (foundB l s = false) := Lib.hid (by unfold foundB; rw [← HXL.out, List.getElem?_eq_none (by omega)])
        have hxl : ¬ (x : Int) < (l.length : Int) := by omega
        clear hsw
        go_wp2_with fail
        go_ret2
        exact ⟨by rw [HF.out, ← HXL.out]; rfl, HB.out⟩

theorem position_any (p : Option Addr) (c : Nat) (l : List Atr) (s : ByteArray) (w : World) (hs : AtrSl w p l) (hl : l.length ≤ 100000000000000) (hr : Rises l) :
    Calls Tryz.prog 63 #[.slice p l.length c, .string s, .func (.func 64) #[] #[]] w fun e w' => e = .returned (.tuple #[.int .i64 (lowerB l s), .bool (foundB l s)]) ∧ Below w.heap.size w w' := by
  have HS := Lib.hid hs
  have HR := Lib.hid hr
  clear hs hr
  go_enter Tryz.func63, Tryz.ntmps63
  have HB0 := Lib.hid (bsf_any p c l s w.heap.size (w.alloc (.cells #[.func (.func 64) #[] #[]] 59)) (HS.out.below (by (repeat (first | (with_reducible refine below_set ?_ (by first | exact Nat.le_refl _ | omega) _ _) | with_reducible exact Below.refl _ _ | with_reducible refine belowA ?_ _ | with_reducible refine belowD ?_ | with_reducible refine belowN ?_ _)))) hl HR.out (heap_alloc_new _ _))
  go_wp2_with (go_at_call 84; refine HB0.out.mono ?_; rintro e w1 ⟨rfl, hb1⟩)
  go_ret2
  exact ⟨rfl, by (repeat (first | (with_reducible refine below_set ?_ (by first | exact Nat.le_refl _ | omega) _ _) | with_reducible exact Below.refl _ _ | with_reducible refine belowA ?_ _ | with_reducible refine below_own' ?_ hb1 | with_reducible refine belowD ?_ | with_reducible refine belowN ?_ _))⟩
end Go.Proofs.YtmepjbjmjbpchaaGreatDoor
end
section
/- The builtin copy of elements of several cells. -/
namespace Go.Proofs.YtmepjbjmjbpchaaGreatDoor
open Go Go.RowKit
set_option linter.unusedVariables false
set_option linter.unusedSimpArgs false
section
variable {P : Program}
theorem run_copy_rowN (w : World) (dT sT ty elem : TypeId) (g o dLen dCap : Nat) (a : Addr) (sLen sCap : Nat) (cur : Array Value) (t : TypeId) (cs : List Value) (sz : Nat)
    (hu : P.underlying dT = some (.slice elem)) (hs : (P.info? elem).map (·.size) = some sz)
    (hg : w.heap[g]? = some (.cells cur t (0, 0))) (hn : cs.length = Nat.min sLen dLen * sz)
    (hsrc : ∀ j v, cs[j]? = some v → w.cell? (a.add j) = some v) (hfit : o + cs.length ≤ cur.size) (h1 : ∀ v ∈ cs, v.oneCell' = true) :
    (Builtin.copy_ #[dT, sT] ty #[.slice (some ⟨g, o, none⟩) dLen dCap, .slice (some a) sLen sCap]).run P w =
      .ok (goInt (Nat.min sLen dLen)) (w.setRow g (cur.toList.take o ++ cs ++ cur.toList.drop (o + cs.length)).toArray) := by
  have hl := run_loadCells_list (P := P) w a cs hsrc
  have hst := run_storeCells_at P g o t cs 0 cur w hg (by simpa using hfit) h1
  cases hq : P.info? elem with
  | none => simp [hq] at hs
  | some i =>
    have hi : i.size = sz := by simpa [hq] using hs
    simp [Builtin.copy_, run_underlying hu, Builtin.lenOf, Builtin.firstCells, sizeOf, typeInfo, hq, hi, ← hn, hl, hst]
theorem run_copy_zero (w : World) (dT sT ty elem : TypeId) (dp sp : Option Addr) (dLen dCap sLen sCap : Nat) (sz : Nat)
    (hu : P.underlying dT = some (.slice elem)) (hs : (P.info? elem).map (·.size) = some sz) (hn : Nat.min sLen dLen = 0) :
    (Builtin.copy_ #[dT, sT] ty #[.slice dp dLen dCap, .slice sp sLen sCap]).run P w = .ok (goInt 0) w := by
  cases hq : P.info? elem with
  | none => simp [hq] at hs
  | some i =>
    cases sp with
    | none => cases dp <;> simp [Builtin.copy_, run_underlying hu, Builtin.lenOf, Builtin.firstCells, sizeOf, typeInfo, hq, hn, storeCells]
    | some a =>
      have hl := run_loadCells_list (P := P) w a [] (fun j v h => by simp at h)
      cases dp <;> simp [Builtin.copy_, run_underlying hu, Builtin.lenOf, Builtin.firstCells, sizeOf, typeInfo, hq, hn, storeCells] <;> first | (simp_all; done) | (simp only [List.length_nil] at hl; simp [hl, storeCells])
end
end Go.Proofs.YtmepjbjmjbpchaaGreatDoor
end
section
/- attrs.put. -/
namespace Go.Proofs.YtmepjbjmjbpchaaGreatDoor
open Go Go.RowKit Go.Sort
set_option linter.unusedVariables false
set_option linter.unusedSimpArgs false

/-! ### Lists of data -/
def lowerD (l : List Dat) (s : ByteArray) : Nat := (l.takeWhile fun a => nmLt a.name s).length
def foundD (l : List Dat) (s : ByteArray) : Bool := match l[lowerD l s]? with | some a => decide (a.name = s) | none => false
theorem takeWhile_map' {α β : Type} (f : α → β) (P : β → Bool) : ∀ l : List α, (l.map f).takeWhile P = (l.takeWhile fun x => P (f x)).map f
  | [] => rfl
  | a :: l => by
    simp only [List.map_cons, List.takeWhile_cons]
    split <;> simp [takeWhile_map' f P l]
theorem lowerD_eq (l : List Atr) (s : ByteArray) : lowerB l s = lowerD (l.map Atr.dat) s := by
  unfold lowerB lowerD
  rw [takeWhile_map', List.length_map]; rfl
theorem foundD_eq (l : List Atr) (s : ByteArray) : foundB l s = foundD (l.map Atr.dat) s := by
  unfold foundB foundD
  rw [← lowerD_eq, List.getElem?_map]
  cases l[lowerB l s]? <;> rfl
/-- A list with an attribute. -/
def setD (l : List Dat) (d : Dat) : List Dat := if foundD l d.name then l.set (lowerD l d.name) d else l.take (lowerD l d.name) ++ d :: l.drop (lowerD l d.name)
def RisesD (l : List Dat) : Prop := ∀ i j (hi : i < j) (hj : j < l.length), nmLt (l[i]'(by omega)).name l[j].name = true
theorem risesD_iff (l : List Atr) : Rises l ↔ RisesD (l.map Atr.dat) := by
  constructor
  · intro h i j hi hj
    have := h i j hi (by simpa using hj)
    simpa [Atr.dat] using this
  · intro h i j hi hj
    have := h i j hi (by simpa using hj)
    simpa [Atr.dat] using this

theorem AtrOwn.form {w : World} {base : Nat} {v : Value} {l : List Atr} (h : AtrOwn w base v l) (hn : 0 < l.length) : ∃ g c cur, v = .slice (some ⟨g, 0, none⟩) l.length c ∧ base ≤ g ∧ w.heap[g]? = some (.cells cur 27 (0, 0)) ∧ l.length ≤ c ∧ cur.size = c * 6 ∧ cur.toList.take (l.length * 6) = l.flatMap Atr.cells := by
  rcases h.own.2 with ⟨h1, h2⟩ | ⟨g, cap, cur, h1, hb, h2, h4, h5, h6, h7⟩
  · omega
  · exact ⟨g, cap, cur, h1, hb, h2, h4, h6, h7⟩

abbrev six (w : World) (g o : Nat) (a : Atr) : World := (((((w.setCell ⟨g, o, none⟩ (.string a.name)).setCell ⟨g, o + 1, none⟩ (.int .i64 a.kind)).setCell ⟨g, o + 2, none⟩ (.int .i64 a.num)).setCell ⟨g, o + 3, none⟩ (.string a.text)).setCell ⟨g, o + 4, none⟩ (.slice a.ia a.ints.length a.ic)).setCell ⟨g, o + 5, none⟩ (.slice a.ta a.texts.length a.tc)
theorem flat_len (l : List Atr) : (l.flatMap Atr.cells).length = l.length * 6 := by
  induction l with
  | nil => rfl
  | cons a l ih => rw [List.flatMap_cons, List.length_append, ih, cells_len, List.length_cons]; omega
theorem set6_at {α : Type} (x : List α) (o : Nat) (v0 v1 v2 v3 v4 v5 : α) (t : Nat) (h : o + 6 ≤ x.length) : ((((((x.set o v0).set (o + 1) v1).set (o + 2) v2).set (o + 3) v3).set (o + 4) v4).set (o + 5) v5)[t]? = if o ≤ t ∧ t < o + 6 then [v0, v1, v2, v3, v4, v5][t - o]? else x[t]? := by
  by_cases hc : o ≤ t ∧ t < o + 6
  · rw [if_pos hc]
    obtain ⟨d, rfl⟩ : ∃ d, t = o + d := ⟨t - o, by omega⟩
    have : d = 0 ∨ d = 1 ∨ d = 2 ∨ d = 3 ∨ d = 4 ∨ d = 5 := by omega
    rcases this with rfl | rfl | rfl | rfl | rfl | rfl <;> simp [List.getElem?_set] <;> omega
  · rw [if_neg hc]
    simp only [List.getElem?_set]
    repeat (rw [if_neg (by omega)])
theorem flat_set (l : List Atr) (k : Nat) (a : Atr) (hk : k < l.length) : (((((((l.flatMap Atr.cells).set (k * 6) (.string a.name)).set (k * 6 + 1) (.int .i64 a.kind)).set (k * 6 + 2) (.int .i64 a.num)).set (k * 6 + 3) (.string a.text)).set (k * 6 + 4) (.slice a.ia a.ints.length a.ic)).set (k * 6 + 5) (.slice a.ta a.texts.length a.tc)) = (l.set k a).flatMap Atr.cells := by
  apply List.ext_getElem?
  intro t
  rw [set6_at _ _ _ _ _ _ _ _ _ (by rw [flat_len]; omega)]
  rcases Nat.lt_or_ge t (l.length * 6) with ht | ht
  · obtain ⟨j, i, hi, rfl⟩ : ∃ j i, i < 6 ∧ t = j * 6 + i := ⟨t / 6, t % 6, Nat.mod_lt _ (by omega), by omega⟩
    have hj : j < l.length := by omega
    rw [flat_at (l := l.set k a) (by simpa using hj) hi]
    by_cases hjk : j = k
    · subst hjk
      rw [if_pos (by omega), show j * 6 + i - j * 6 = i by omega]
      simp [Atr.cells]
    · rw [if_neg (by omega), flat_at hj hi]
      rw [List.getElem_set_ne (fun e => hjk e.symm)]
  · rw [if_neg (by omega), List.getElem?_eq_none (by rw [flat_len]; exact ht), List.getElem?_eq_none (by rw [flat_len]; simpa using ht)]
theorem grown_step {A B C : World} {r : Option Nat} (h : A.grownBy B r) (k : B.grownBy C r) : A.grownBy C r :=
  ⟨k.os.trans h.os, k.tape.trans h.tape, k.output.trans h.output, Nat.le_trans h.size k.size, fun t ht hne => (k.block t (Nat.lt_of_lt_of_le ht h.size) hne).trans (h.block t ht hne)⟩
theorem six_grown (w : World) (g o : Nat) (a : Atr) : w.grownBy (six w g o a) (some g) :=
  grown_step (grown_step (grown_step (grown_step (grown_step (grownBy_setOff _ _ _ _) (grownBy_setOff _ _ _ _)) (grownBy_setOff _ _ _ _)) (grownBy_setOff _ _ _ _)) (grownBy_setOff _ _ _ _)) (grownBy_setOff _ _ _ _)
theorem AtrOwn.store {w : World} {base g c : Nat} {l : List Atr} (h : AtrOwn w base (.slice (some ⟨g, 0, none⟩) l.length c) l) {k : Nat} (hk : k < l.length) {a : Atr} (ha : a.Lies w) (haf : a.Fits)
    (hoff : ∀ x, (a.ia = some x ∨ a.ta = some x) → x.block < w.heap.size ∧ g ≠ x.block) : AtrOwn (six w g (k * 6) a) base (.slice (some ⟨g, 0, none⟩) l.length c) (l.set k a) := by
  have hg := six_grown w g (k * 6) a
  have key : ∀ b ∈ l.set k a, b.Lies w ∧ b.Fits ∧ ∀ x, (b.ia = some x ∨ b.ta = some x) → x.block < w.heap.size ∧ g ≠ x.block := by
    intro b hb
    rcases List.mem_or_eq_of_mem_set hb with hb | rfl
    · exact ⟨h.lies b hb, h.fits b hb, fun x hx => ⟨(h.off b hb x hx).1, fun e => (h.off b hb x hx).2 (by rw [← e]; rfl)⟩⟩
    · exact ⟨ha, haf, hoff⟩
  refine ⟨?_, fun b hb => (key b hb).1.grown hg (fun x hx e => ((key b hb).2.2 x hx).2 (Option.some.inj e)), fun b hb => (key b hb).2.1, fun b hb x hx => ⟨by simpa [World.setCell] using ((key b hb).2.2 x hx).1, fun e => ((key b hb).2.2 x hx).2 (Option.some.inj e)⟩, fun e => by have := congrArg List.length e; simp at this; subst this; simp at hk⟩
  have h0 := (h.own.stored (k * 6) (.string a.name)).1
  have h1 := (h0.stored (k * 6 + 1) (.int .i64 a.kind)).1
  have h2 := (h1.stored (k * 6 + 2) (.int .i64 a.num)).1
  have h3 := (h2.stored (k * 6 + 3) (.string a.text)).1
  have h4 := (h3.stored (k * 6 + 4) (.slice a.ia a.ints.length a.ic)).1
  have h5 := (h4.stored (k * 6 + 5) (.slice a.ta a.texts.length a.tc)).1
  rw [flat_set l k a hk] at h5
  simpa using h5

set_option maxRecDepth 100000 in
set_option maxHeartbeats 8000000 in
theorem put_found (v : Value) (l : List Atr) (base : Nat) (a : Atr) (w : World) (ho : AtrOwn w base v l) (hl : l.length ≤ 100000) (hr : Rises l) (hf : foundB l a.name = true) (ha : a.Lies w) (haf : a.Fits)
    (hoff : ∀ x, (a.ia = some x ∨ a.ta = some x) → x.block < w.heap.size ∧ v.ownBlock ≠ some x.block) :
    Calls Tryz.prog 40 #[v, a.val] w fun e w' => e = .returned v ∧ AtrOwn w' base v (l.set (lowerB l a.name) a) ∧ (∃ g, v.ownBlock = some g ∧ w.grownBy w' (some g)) := by
  have hlt : lowerB l a.name < l.length := by
    rcases Nat.lt_or_ge (lowerB l a.name) l.length with h | h
    · exact h
    · unfold foundB at hf; rw [List.getElem?_eq_none h] at hf; cases hf
  obtain ⟨g, c, cur, rfl, hbg, hgc, hcap, hcs, htk⟩ := ho.form (by omega)
  have hz := blkLt hgc
  have HOS := Lib.hid ho.sl
  have HO := Lib.hid ho
  have HR := Lib.hid hr
  have HF := Lib.hid hf
  have HOFF := Lib.hid hoff
  have HTK := Lib.hid htk
  have HA := Lib.hid ha
  have HGC := Lib.hid hgc
  obtain ⟨k, hk⟩ : ∃ k, k = lowerB l a.name := ⟨_, rfl⟩
  rw [← hk] at hlt ⊢
  have HK := Lib.hid hk
  have hk0 : (0 : Int) ≤ (k : Int) := by omega
  have hkl : (k : Int) < (l.length : Int) := by omega
  obtain ⟨y0, e0⟩ : ∃ y, cur[k * 6]? = some y := ⟨_, Array.getElem?_eq_getElem (by omega)⟩
  obtain ⟨y1, e1⟩ : ∃ y, cur[k * 6 + 1]? = some y := ⟨_, Array.getElem?_eq_getElem (by omega)⟩
  obtain ⟨y2, e2⟩ : ∃ y, cur[k * 6 + 2]? = some y := ⟨_, Array.getElem?_eq_getElem (by omega)⟩
  obtain ⟨y3, e3⟩ : ∃ y, cur[k * 6 + 3]? = some y := ⟨_, Array.getElem?_eq_getElem (by omega)⟩
  obtain ⟨y4, e4⟩ : ∃ y, cur[k * 6 + 4]? = some y := ⟨_, Array.getElem?_eq_getElem (by omega)⟩
  obtain ⟨y5, e5⟩ : ∃ y, cur[k * 6 + 5]? = some y := ⟨_, Array.getElem?_eq_getElem (by omega)⟩
  clear ho hr hf hoff htk ha hk hgc
  go_enter Tryz.func40, Tryz.ntmps40
  go_wp2_with (go_at_call 63; refine Calls.mono (position_any _ _ l a.name _ (HOS.out.below (by (repeat (first | (with_reducible refine below_set ?_ (by first | exact Nat.le_refl _ | omega) _ _) | with_reducible exact Below.refl _ _ | with_reducible refine belowA ?_ _ | with_reducible refine belowD ?_ | with_reducible refine belowN ?_ _)))) (by omega) HR.out) ?_; rintro e w1 ⟨rfl, hb1⟩; rw [HF.out, ← HK.out]; have c0 := rdCell hb1 w.heap.size (by simp); have f0 := rdFree hb1 w.heap.size (by simp); have c1 := blkCell ((hb1.block g (by simp; omega)).trans (heap_alloc_old HGC.out _)); have f1 := blkFree ((hb1.block g (by simp; omega)).trans (heap_alloc_old HGC.out _)))
  go_ret
  have hbx : Below w.heap.size w w1 := by (repeat (first | (with_reducible refine below_set ?_ (by first | exact Nat.le_refl _ | omega) _ _) | with_reducible exact Below.refl _ _ | with_reducible refine belowA ?_ _ | with_reducible refine below_own' ?_ hb1 | with_reducible refine belowD ?_ | with_reducible refine belowN ?_ _))
  refine ⟨rfl, (HO.out.below hbx).store hlt (HA.out.below hbx) haf (fun x hx => ⟨Nat.lt_of_lt_of_le (HOFF.out x hx).1 hbx.size, fun e => (HOFF.out x hx).2 (by rw [← e]; rfl)⟩), g, rfl, ?_⟩
  have hgr := six_grown w1 g (k * 6) a
  exact ⟨hgr.os.trans hbx.os, hgr.tape.trans hbx.tape, hgr.output.trans hbx.output, Nat.le_trans hbx.size hgr.size, fun t ht hne => (hgr.block t (Nat.lt_of_lt_of_le ht hbx.size) hne).trans (hbx.block t ht)⟩
end Go.Proofs.YtmepjbjmjbpchaaGreatDoor
end
section
/- attrs.put: a new name. -/
namespace Go.Proofs.YtmepjbjmjbpchaaGreatDoor
open Go Go.RowKit Go.Sort
set_option linter.unusedVariables false
set_option linter.unusedSimpArgs false
attribute [local go_sem] Oper.semAt_some

theorem wp_world {P : Program} {c : Code} {Q : Exit → Act → World → Prop} {a : Act} {W : World} (Fs : World → Prop) (hf : Fs W) (h : ∀ Wx, Fs Wx → c.wp P Q a Wx) : c.wp P Q a W := h W hf
def madeA (n : Nat) : Array Value := madeCells zAttr.cells (n * 6)
theorem madeA_size (n : Nat) : (madeA n).size = n * 6 := by unfold madeA madeCells; simp
theorem make_attrs (n : Nat) (hn : n ≤ 200000) (W : World) : (Instr.makeSlice 22 (.int .i64 ((n : Int) + 1)) (.int .i64 ((n : Int) + 1))).run Tryz.prog W = .ok (.slice (some ⟨W.heap.size, 0, none⟩) (n + 1) (n + 1)) (W.alloc (.cells (madeA (n + 1)) 27)) := by
  obtain ⟨i0, hin, hz0, hz1, hz2⟩ := info_parts (show (Tryz.prog.info? 27).map (fun i => (i.zero, i.size, i.bytes)) = some (some zAttr, 6, 96) by kernel_rfl)
  have := run_make W 22 27 i0 zAttr Tryz.underlying22 hin hz0 .i64 .i64 ((n : Int) + 1) ((n : Int) + 1) (by omega) (by omega) (by rw [hz2]; omega) (by omega)
  rw [this, hz1]
  have e : ((n : Int) + 1).toNat = n + 1 := by omega
  rw [e]; rfl

theorem attr_size : (Tryz.prog.info? 27).map (·.size) = some 6 := by kernel_rfl
theorem copy_eq (W : World) (G o dLen dCap g so sLen sCap m : Nat) (cur src : Array Value) (cs : List Value) (hG : W.heap[G]? = some (.cells cur 27 (0, 0))) (hg : W.heap[g]? = some (.cells src 27 (0, 0)))
    (hm : m = Nat.min sLen dLen) (hn : cs.length = m * 6) (hsrc : ∀ j, j < cs.length → src[so + j]? = cs[j]?) (hfit : o + cs.length ≤ cur.size) (h1 : ∀ v ∈ cs, v.oneCell' = true) :
    (Builtin.copy_ #[22, 22] 3 #[.slice (some ⟨G, o, none⟩) dLen dCap, .slice (some ⟨g, so, none⟩) sLen sCap]).run Tryz.prog W = .ok (goInt m) (W.setRow G (cur.toList.take o ++ cs ++ cur.toList.drop (o + cs.length)).toArray) := by
  subst hm
  refine run_copy_rowN W _ _ _ 27 G o dLen dCap ⟨g, so, none⟩ sLen sCap cur _ cs 6 Tryz.underlying22 attr_size hG hn ?_ hfit h1
  intro j v hj
  have hlt := (List.getElem?_eq_some_iff.1 hj).1
  have hadd : (⟨g, so, none⟩ : Addr).add j = ⟨g, so + j, none⟩ := by
    unfold Addr.add; split
    · rename_i h; subst h; rfl
    · rfl
  rw [hadd, blkCell hg, hsrc j hlt, hj]
theorem flat_one (l : List Atr) : ∀ v ∈ l.flatMap Atr.cells, v.oneCell' = true := by
  intro v hv
  obtain ⟨a, _, ha⟩ := List.mem_flatMap.1 hv
  simp only [Atr.cells, List.mem_cons, List.not_mem_nil, or_false] at ha
  rcases ha with rfl | rfl | rfl | rfl | rfl | rfl <;> rfl
theorem flat_take (l : List Atr) (k : Nat) (hk : k ≤ l.length) : (l.take k).flatMap Atr.cells = (l.flatMap Atr.cells).take (k * 6) := by
  have h : l.flatMap Atr.cells = (l.take k).flatMap Atr.cells ++ (l.drop k).flatMap Atr.cells := by rw [← List.flatMap_append, List.take_append_drop]
  have h2 : ((l.take k).flatMap Atr.cells).length = k * 6 := by rw [flat_len]; simp [Nat.min_eq_left hk]
  conv => rhs; rw [h]
  rw [← h2, List.take_left]
theorem flat_drop (l : List Atr) (k : Nat) (hk : k ≤ l.length) : (l.drop k).flatMap Atr.cells = (l.flatMap Atr.cells).drop (k * 6) := by
  have h : l.flatMap Atr.cells = (l.take k).flatMap Atr.cells ++ (l.drop k).flatMap Atr.cells := by rw [← List.flatMap_append, List.take_append_drop]
  have h2 : ((l.take k).flatMap Atr.cells).length = k * 6 := by rw [flat_len]; simp [Nat.min_eq_left hk]
  conv => rhs; rw [h]
  rw [← h2, List.drop_left]

theorem flat_src {l : List Atr} {cur : Array Value} (htk : cur.toList.take (l.length * 6) = l.flatMap Atr.cells) {j : Nat} (hj : j < l.length * 6) : cur[j]? = (l.flatMap Atr.cells)[j]? := by
  rw [← htk, List.getElem?_take, if_pos hj]; simp
def row1 (l : List Atr) (n k : Nat) : Array Value := ((madeA (n + 1)).toList.take 0 ++ (l.take k).flatMap Atr.cells ++ (madeA (n + 1)).toList.drop (0 + ((l.take k).flatMap Atr.cells).length)).toArray
theorem cp1 {l : List Atr} {n k g : Nat} {cur : Array Value} {w1 : World} (hn : n = l.length) (htk : cur.toList.take (l.length * 6) = l.flatMap Atr.cells) (hg1 : w1.heap[g]? = some (.cells cur 27 (0, 0))) (hk : k ≤ n) (c : Nat) :
    (Builtin.copy_ #[22, 22] 3 #[.slice (some ⟨w1.heap.size, 0, none⟩) (n + 1) (n + 1), .slice (some ⟨g, 0, none⟩) k c]).run Tryz.prog (w1.alloc (.cells (madeA (n + 1)) 27)) =
      .ok (goInt k) ((w1.alloc (.cells (madeA (n + 1)) 27)).setRow w1.heap.size (row1 l n k)) := by
  have hl : ((l.take k).flatMap Atr.cells).length = k * 6 := by rw [flat_len, List.length_take, ← hn, Nat.min_eq_left hk]
  refine copy_eq _ w1.heap.size 0 (n + 1) (n + 1) g 0 k c k (madeA (n + 1)) cur ((l.take k).flatMap Atr.cells) (heap_alloc_new _ _) (heap_alloc_old hg1 _) (by show k = min k (n + 1); omega) hl (fun j hj => ?_) (by rw [hl, madeA_size]; omega) (flat_one _)
  rw [hl] at hj
  rw [Nat.zero_add, flat_src htk (by omega), flat_take _ _ (by omega), List.getElem?_take, if_pos hj]

def row2 (l : List Atr) (k : Nat) (R1 : Array Value) : Array Value := (R1.toList.take ((k + 1) * 6) ++ (l.drop k).flatMap Atr.cells ++ R1.toList.drop ((k + 1) * 6 + ((l.drop k).flatMap Atr.cells).length)).toArray
theorem cp2 {l : List Atr} {n k g G c : Nat} {cur R1 : Array Value} {W : World} (hn : n = l.length) (htk : cur.toList.take (l.length * 6) = l.flatMap Atr.cells) (hg : W.heap[g]? = some (.cells cur 27 (0, 0))) (hG : W.heap[G]? = some (.cells R1 27 (0, 0))) (hs : R1.size = (n + 1) * 6) (hk : k < n) (c2 : Nat) :
    (Builtin.copy_ #[22, 22] 3 #[.slice (some ⟨G, (k + 1) * 6, none⟩) (n - k) c2, .slice (some ⟨g, k * 6, none⟩) (n - k) c]).run Tryz.prog W =
      .ok (goInt ((n - k : Nat) : Int)) (W.setRow G (row2 l k R1)) := by
  have hl : ((l.drop k).flatMap Atr.cells).length = (n - k) * 6 := by rw [flat_len, List.length_drop, ← hn]
  refine copy_eq W G ((k + 1) * 6) (n - k) c2 g (k * 6) (n - k) c (n - k) R1 cur ((l.drop k).flatMap Atr.cells) hG hg (by show n - k = min (n - k) (n - k); omega) hl (fun j hj => ?_) (by rw [hl, hs]; omega) (flat_one _)
  rw [hl] at hj
  rw [flat_src htk (by omega), flat_drop _ _ (by omega), List.getElem?_drop]

theorem row2_size {l : List Atr} {n k : Nat} {R1 : Array Value} (hn : n = l.length) (hs : R1.size = (n + 1) * 6) (hk : k ≤ n) : (row2 l k R1).size = (n + 1) * 6 := by
  unfold row2
  simp only [List.size_toArray, List.length_append, List.length_take, List.length_drop, Array.length_toList, flat_len, ← hn, hs]; omega
theorem row_final {l : List Atr} {n k : Nat} {R1 : Array Value} (a : Atr) (hn : n = l.length) (hs : R1.size = (n + 1) * 6) (hk : k ≤ n) (h1 : ∀ t, t < k * 6 → R1[t]? = ((l.take k).flatMap Atr.cells)[t]?) :
    (((((((row2 l k R1).toList.set (k * 6) (.string a.name)).set (k * 6 + 1) (.int .i64 a.kind)).set (k * 6 + 2) (.int .i64 a.num)).set (k * 6 + 3) (.string a.text)).set (k * 6 + 4) (.slice a.ia a.ints.length a.ic)).set (k * 6 + 5) (.slice a.ta a.texts.length a.tc)) = (l.take k ++ a :: l.drop k).flatMap Atr.cells := by
  have hz := row2_size hn hs hk
  have hlt : ((l.take k).flatMap Atr.cells).length = k * 6 := by rw [flat_len, List.length_take, ← hn, Nat.min_eq_left hk]
  have hld : ((l.drop k).flatMap Atr.cells).length = (n - k) * 6 := by rw [flat_len, List.length_drop, ← hn]
  apply List.ext_getElem?
  intro t
  rw [set6_at _ _ _ _ _ _ _ _ _ (by rw [Array.length_toList, hz]; omega), List.flatMap_append, List.flatMap_cons]
  by_cases hc : k * 6 ≤ t ∧ t < k * 6 + 6
  · rw [if_pos hc, List.getElem?_append_right (by omega), hlt, List.getElem?_append_left (by rw [cells_len]; omega)]
    rfl
  · rw [if_neg hc]
    have hlen : (R1.toList.take ((k + 1) * 6)).length = (k + 1) * 6 := by rw [List.length_take, Array.length_toList, hs]; omega
    have hrow : (row2 l k R1).toList = R1.toList.take ((k + 1) * 6) ++ ((l.drop k).flatMap Atr.cells ++ R1.toList.drop ((k + 1) * 6 + ((l.drop k).flatMap Atr.cells).length)) := by
      unfold row2; rw [List.append_assoc]
    rw [hrow]
    rcases Nat.lt_or_ge t (k * 6) with h | h
    · rw [List.getElem?_append_left (l₁ := R1.toList.take ((k + 1) * 6)) (by omega), List.getElem?_append_left (l₁ := (l.take k).flatMap Atr.cells) (by omega), List.getElem?_take, if_pos (by omega), Array.getElem?_toList, h1 t h]
    · rw [List.getElem?_append_right (l₁ := R1.toList.take ((k + 1) * 6)) (by omega), List.getElem?_append_right (l₁ := (l.take k).flatMap Atr.cells) (by omega), List.getElem?_append_right (l₁ := a.cells) (by rw [cells_len]; omega), hlen, hlt, cells_len]
      rcases Nat.lt_or_ge (t - (k + 1) * 6) ((n - k) * 6) with h2 | h2
      · rw [List.getElem?_append_left (by omega), show t - k * 6 - 6 = t - (k + 1) * 6 by omega]
      · rw [List.getElem?_append_right (by omega), List.getElem?_eq_none (by rw [List.length_drop, Array.length_toList, hs]; omega), List.getElem?_eq_none (by omega)]
theorem own_final {W : World} {base G m : Nat} {R : Array Value} {l : List Atr} (a : Atr) (k : Nat) (hG : W.heap[G]? = some (.cells R 27 (0, 0))) (hb : base ≤ G) (hm : m = l.length) (hmax : m ≤ 200000) (hs : R.size = m * 6)
    (hfin : ((((((R.toList.set (k * 6) (.string a.name)).set (k * 6 + 1) (.int .i64 a.kind)).set (k * 6 + 2) (.int .i64 a.num)).set (k * 6 + 3) (.string a.text)).set (k * 6 + 4) (.slice a.ia a.ints.length a.ic)).set (k * 6 + 5) (.slice a.ta a.texts.length a.tc)) = l.flatMap Atr.cells) :
    (six W G (k * 6) a).ownsRow base 27 6 (.slice (some ⟨G, 0, none⟩) m m) l.length (l.flatMap Atr.cells) := by
  have h0 := heap_setCell_same W G (k * 6) R 27 (.string a.name) hG
  have h1 := heap_setCell_same _ G (k * 6 + 1) _ 27 (.int .i64 a.kind) h0
  have h2 := heap_setCell_same _ G (k * 6 + 2) _ 27 (.int .i64 a.num) h1
  have h3 := heap_setCell_same _ G (k * 6 + 3) _ 27 (.string a.text) h2
  have h4 := heap_setCell_same _ G (k * 6 + 4) _ 27 (.slice a.ia a.ints.length a.ic) h3
  have h5 := heap_setCell_same _ G (k * 6 + 5) _ 27 (.slice a.ta a.texts.length a.tc) h4
  subst hm
  refine ⟨flat_len l, .inr ⟨G, l.length, _, rfl, hb, h5, Nat.le_refl _, by unfold maxLen; omega, by simpa using hs, ?_⟩⟩
  simp only [Array.toList_setIfInBounds]
  rw [hfin, List.take_of_length_le (by rw [flat_len]; omega)]

set_option maxRecDepth 100000 in
set_option maxHeartbeats 8000000 in
theorem put_mid (v : Value) (l : List Atr) (base : Nat) (a : Atr) (w : World) (ho : AtrOwn w base v l) (hl : l.length ≤ 100000) (hr : Rises l) (hf : foundB l a.name = false) (hlt : lowerB l a.name < l.length) (ha : a.Lies w) (haf : a.Fits)
    (hoff : ∀ x, (a.ia = some x ∨ a.ta = some x) → x.block < w.heap.size) :
    Calls Tryz.prog 40 #[v, a.val] w fun e w' => ∃ g, e = .returned (.slice (some ⟨g, 0, none⟩) (l.length + 1) (l.length + 1)) ∧ w.heap.size ≤ g ∧ AtrOwn w' w.heap.size (.slice (some ⟨g, 0, none⟩) (l.length + 1) (l.length + 1)) (l.take (lowerB l a.name) ++ a :: l.drop (lowerB l a.name)) ∧ Below w.heap.size w w' := by
  obtain ⟨g, c, cur, rfl, hbg, hgc, hcap, hcs, htk⟩ := ho.form (by omega)
  have hz := blkLt hgc
  have HOS := Lib.hid ho.sl
  have HO := Lib.hid ho
  have HR := Lib.hid hr
  have HF := Lib.hid hf
  have HOFF := Lib.hid hoff
  have HTK := Lib.hid htk
  have HA := Lib.hid ha
  have HGC := Lib.hid hgc
  obtain ⟨k, hk⟩ : ∃ k, k = lowerB l a.name := ⟨_, rfl⟩
  rw [← hk] at hlt ⊢
  have HK := Lib.hid hk
  obtain ⟨n, hn⟩ : ∃ n, n = l.length := ⟨_, rfl⟩
  rw [← hn] at hlt hl hcap
  have HN := Lib.hid hn
  rw [← hn]
  have hk0 : (0 : Int) ≤ (k : Int) := by omega
  have hkl : (k : Int) < (n : Int) := by omega
  have hkc : (k : Int) ≤ (c : Int) := by omega
  have hmk := make_attrs n (by omega)
  clear ho hr hf hoff htk ha hk hgc hn
  have HCS := Lib.hid hcs
  clear hcs
  have hpos : ∀ W, Below w.heap.size w W → Calls Tryz.prog 63 #[.slice (some ⟨g, 0, none⟩) n c, .string a.name, .func (.func 64) #[] #[]] W fun e w' => e = .returned (.tuple #[.int .i64 k, .bool false]) ∧ Below W.heap.size W w' := by
    intro W hb
    have := position_any _ c l a.name W (HOS.out.below hb) (by rw [← HN.out]; omega) HR.out
    rw [HF.out, ← HK.out, ← HN.out] at this
    exact this
  have HPOS := Lib.hid hpos
  clear hpos
  refine (callsIn_wide (n := 6)).1 ?_
  refine callsIn_of_wp Tryz.func40 rfl trivial ?_ rfl
  simp only [Tryz.ntmps40, List.size_toArray, List.length_cons, List.length_nil, Nat.reduceAdd, Nat.reduceSub, Array.replicate_succ, Array.replicate_zero, List.push_toArray, List.append_toArray, List.nil_append, List.cons_append]
  gi_wp2_with (refine ⟨trivial, ?_⟩; gi_at_call 63; refine CallsIn.mono (callsIn_wide.2 (HPOS.out _ ?_)) ?_; (focus ((repeat (first | (with_reducible refine below_set ?_ (by first | exact Nat.le_refl _ | omega) _ _) | with_reducible exact Below.refl _ _ | with_reducible refine belowA ?_ _ | with_reducible refine belowD ?_ | with_reducible refine belowN ?_ _)); done)); rintro e w1 ⟨rfl, hb1⟩; have c0 := rdCell hb1 w.heap.size (by simp); have f0 := rdFree hb1 w.heap.size (by simp); have hzw1 : w.heap.size < w1.heap.size := (by have := Below.size hb1; simp at this; omega); have hg1 := (hb1.block g (by simp; omega)).trans (heap_alloc_old HGC.out _); have hzg1 := blkLt hg1; have hcp1 := cp1 HN.out HTK.out hg1 (show k ≤ n by omega) c)
  have hR1s : (row1 l n k).size = (n + 1) * 6 := by
    unfold row1
    have := madeA_size (n + 1)
    simp only [List.size_toArray, List.length_append, List.length_take, List.length_drop, Array.length_toList, flat_len, ← HN.out, this]; omega
  have hR1k : ∀ t, t < k * 6 → (row1 l n k)[t]? = ((l.take k).flatMap Atr.cells)[t]? := by
    intro t ht
    unfold row1
    simp only [List.take_zero, List.nil_append, List.getElem?_toArray]
    rw [List.getElem?_append_left (by rw [flat_len, List.length_take, ← HN.out]; omega)]
  obtain ⟨R1, hR1⟩ : ∃ R, R = row1 l n k := ⟨_, rfl⟩
  refine wpIn_world (fun W => W.heap[w1.heap.size]? = some (.cells R1 27 (0, 0)) ∧ Below w1.heap.size w1 W) ⟨by rw [hR1]; exact setRow_heap _ _ _ _ _ _ (heap_alloc_new _ _), below_setRow ((Below.refl _ _).alloc (Nat.le_refl _) _) (Nat.le_refl _) _⟩ ?_
  rw [← hR1] at hR1s hR1k
  have HR1S := Lib.hid hR1s
  have HR1K := Lib.hid hR1k
  clear hR1s hR1k hR1 hcp1 hmk c0 f0
  rintro W2 ⟨hG2, hb2⟩
  have hg2 := (hb2.block g hzg1).trans hg1
  have HG2b := Lib.hid hg2
  have HG2 := Lib.hid hG2
  have HB2 := Lib.hid hb2
  clear hG2 hb2
  have hk1 : (0 : Int) ≤ (k : Int) + 1 := by omega
  have hk2 : (k : Int) + 1 < (n : Int) + 1 := by omega
  have hk3 : (k : Int) < (c : Int) := by omega
  have hkw : IntKind.i64.wrap ((k : Int) + 1) = (k : Int) + 1 := IntWalk.i64_in _ (by omega)
  have hkn : ((k : Int) + 1).toNat = k + 1 := by omega
  generalize hops : (#[_, _, _, _, _, _, _, _] : Array Oper) = ops
  refine wpIn_region_inv_tail 7 (fun i => match i with | 0 => .slice (some ⟨w1.heap.size, 0, none⟩) (n + 1) (n + 1) | 1 => .int .i64 (k : Int) | 2 => .int .i64 ((k : Int) + 1) | 3 => .slice (some ⟨w1.heap.size, (k + 1) * 6, none⟩) (n - k) (n - k) | 4 => .slice (some ⟨g, 0, none⟩) n c | 5 => .int .i64 (k : Int) | 6 => .slice (some ⟨g, k * 6, none⟩) (n - k) (c - k) | _ => undef)
    (fun _ Wy => Below W2.heap.size W2 Wy) (by kernel_rfl) (by rw [← hops]; kernel_rfl) (by rw [← hops]; kernel_rfl) (by rw [← hops]; kernel_rfl) (by rw [← hops]; decide) (by rw [← hops]; kernel_rfl) ((Below.refl _ _).drew) ?step ?tail
  case step =>
    intro i o listed a Wy ho hs hu hall ha hi hy hlt
    have old7 : a.eval (.tmp 7) = .slice (some ⟨w1.heap.size, 0, none⟩) (n + 1) (n + 1) := by rw [ha.eval_old (noDst_spec (by rw [← hops]; kernel_rfl))]; rfl
    have old5 : a.eval (.tmp 5) = .int .i64 (k : Int) := by rw [ha.eval_old (noDst_spec (by rw [← hops]; kernel_rfl))]; rfl
    have old0 : a.eval (.tmp 0) = .slice (some ⟨g, 0, none⟩) n c := by rw [ha.eval_old (noDst_spec (by rw [← hops]; kernel_rfl))]; rfl
    have hcase : i = 0 ∨ i = 1 ∨ i = 2 ∨ i = 3 ∨ i = 4 ∨ i = 5 ∨ i = 6 := by omega
    rcases hcase with rfl | rfl | rfl | rfl | rfl | rfl | rfl
    all_goals (have ho' := ho; rw [← hops] at ho'; simp only [List.getElem?_toArray, List.getElem?_cons_zero, List.getElem?_cons_succ, Option.some.injEq] at ho'; subst ho')
    · refine step_none rfl ?_
      refine opIn_value wideAt_plain (fun c h => by cases h) (v := .slice (some ⟨w1.heap.size, 0, none⟩) (n + 1) (n + 1)) (W' := Wy) ?_ ⟨rfl, hi⟩
      simp only [execOp, old7]
      simp only [Sem.run_pure]
    · refine step_none rfl ?_
      refine opIn_value wideAt_plain (fun c h => by cases h) (v := .int .i64 (k : Int)) (W' := Wy) ?_ ⟨rfl, hi⟩
      simp only [execOp, old5]
      simp only [Sem.run_pure]
    · refine step_none rfl ?_
      have h31 : a.eval (.tmp 31) = .int .i64 (k : Int) := ha.eval_got (j := 1) (by rw [← hops]; rfl) rfl (hall ⟨1, .data⟩ (by simp) rfl)
      refine opIn_value wideAt_plain (fun c h => by cases h) (v := .int .i64 ((k : Int) + 1)) (W' := Wy) ?_ ⟨rfl, hi⟩
      simp only [execOp, h31]
      simp [go_sem, hkw]
    · refine step_none rfl ?_
      have h30 : a.eval (.tmp 30) = .slice (some ⟨w1.heap.size, 0, none⟩) (n + 1) (n + 1) := ha.eval_got (j := 0) (by rw [← hops]; rfl) rfl (hall ⟨0, .data⟩ (by simp) rfl)
      have h32 : a.eval (.tmp 32) = .int .i64 ((k : Int) + 1) := ha.eval_got (j := 2) (by rw [← hops]; rfl) rfl (hall ⟨2, .data⟩ (by simp) rfl)
      have q_h30 := h30; simp only [Act.eval, Array.getD_eq_getD_getElem?] at q_h30
      have q_h32 := h32; simp only [Act.eval, Array.getD_eq_getD_getElem?] at q_h32
      refine opIn_value wideAt_plain (fun c h => by cases h) (v := .slice (some ⟨w1.heap.size, (k + 1) * 6, none⟩) (n - k) (n - k)) (W' := Wy) ?_ ⟨rfl, hi⟩
      simp only [execOp, h30, h32]
      simp [go_sem, q_h30, q_h32, hk1, hk2, hkn, show k ≤ n by omega, show ¬ n = k by omega]
    · refine step_none rfl ?_
      refine opIn_value wideAt_plain (fun c h => by cases h) (v := .slice (some ⟨g, 0, none⟩) n c) (W' := Wy) ?_ ⟨rfl, hi⟩
      simp only [execOp, old0]
      simp only [Sem.run_pure]
    · refine step_none rfl ?_
      refine opIn_value wideAt_plain (fun c h => by cases h) (v := .int .i64 (k : Int)) (W' := Wy) ?_ ⟨rfl, hi⟩
      simp only [execOp, old5]
      simp only [Sem.run_pure]
    · refine step_none rfl ?_
      have h34 : a.eval (.tmp 34) = .slice (some ⟨g, 0, none⟩) n c := ha.eval_got (j := 4) (by rw [← hops]; rfl) rfl (hall ⟨4, .data⟩ (by simp) rfl)
      have h35 : a.eval (.tmp 35) = .int .i64 (k : Int) := ha.eval_got (j := 5) (by rw [← hops]; rfl) rfl (hall ⟨5, .data⟩ (by simp) rfl)
      have q_h34 := h34; simp only [Act.eval, Array.getD_eq_getD_getElem?] at q_h34
      have q_h35 := h35; simp only [Act.eval, Array.getD_eq_getD_getElem?] at q_h35
      refine opIn_value wideAt_plain (fun c h => by cases h) (v := .slice (some ⟨g, k * 6, none⟩) (n - k) (c - k)) (W' := Wy) ?_ ⟨rfl, hi⟩
      simp only [execOp, h34, h35]
      simp [go_sem, q_h34, q_h35, hk0, hk3, show k ≤ n by omega, show ¬ c = k by omega]
  case tail =>
    intro Wz hz
    subst hops
    simp only [frameOf, Act.put, Option.bind_some, List.getElem?_toArray, List.getElem?_cons_zero, List.getElem?_cons_succ, List.setIfInBounds_toArray, List.set_cons_zero, List.set_cons_succ, List.drop_succ_cons, List.drop_zero]
    have hGz := (hz.block _ (blkLt HG2.out)).trans HG2.out
    have hgz := (hz.block _ (blkLt HG2b.out)).trans HG2b.out
    have hcp2 := cp2 (W := Wz) HN.out HTK.out hgz hGz HR1S.out (show k < n by omega) (n - k) (c := c - k)
    have hG3 := setRow_heap Wz w1.heap.size R1 (row2 l k R1) 27 (0, 0) hGz
    have hb3 : Below w1.heap.size w1 (Wz.setRow w1.heap.size (row2 l k R1)) := below_setRow (HB2.out.trans (hz.mono HB2.out.size)) (Nat.le_refl _) _
    have hc3 := fun j => (rdCell hb3 w.heap.size hzw1 j).trans (rdCell hb1 w.heap.size (by simp) j)
    have c4 := blkCell hG3
    have f4 := blkFree hG3
    have hrs := row2_size HN.out HR1S.out (show k ≤ n by omega)
    obtain ⟨y0, e0⟩ : ∃ y, (row2 l k R1)[k * 6]? = some y := ⟨_, Array.getElem?_eq_getElem (by omega)⟩
    obtain ⟨y1, e1⟩ : ∃ y, (row2 l k R1)[k * 6 + 1]? = some y := ⟨_, Array.getElem?_eq_getElem (by omega)⟩
    obtain ⟨y2, e2⟩ : ∃ y, (row2 l k R1)[k * 6 + 2]? = some y := ⟨_, Array.getElem?_eq_getElem (by omega)⟩
    obtain ⟨y3, e3⟩ : ∃ y, (row2 l k R1)[k * 6 + 3]? = some y := ⟨_, Array.getElem?_eq_getElem (by omega)⟩
    obtain ⟨y4, e4⟩ : ∃ y, (row2 l k R1)[k * 6 + 4]? = some y := ⟨_, Array.getElem?_eq_getElem (by omega)⟩
    obtain ⟨y5, e5⟩ : ∃ y, (row2 l k R1)[k * 6 + 5]? = some y := ⟨_, Array.getElem?_eq_getElem (by omega)⟩
    have HG3 := Lib.hid hG3
    have HB3 := Lib.hid hb3
    have HRS := Lib.hid hrs
    have HB1 := Lib.hid hb1
    clear hz hGz hgz hG3 hb3 hrs hg1 hb1
    gi_wp2_with fail
    go_ret
    have hbw : Below w.heap.size w (Wz.setRow w1.heap.size (row2 l k R1)) := by (repeat (first | (with_reducible refine below_set ?_ (by first | exact Nat.le_refl _ | omega) _ _) | with_reducible exact Below.refl _ _ | with_reducible refine belowA ?_ _ | with_reducible refine below_own' ?_ HB3.out | with_reducible refine below_own' ?_ HB1.out | with_reducible refine belowD ?_ | with_reducible refine belowN ?_ _))
    have hgr := six_grown (Wz.setRow w1.heap.size (row2 l k R1)) w1.heap.size (k * 6) a
    have hbf : Below w.heap.size w (six (Wz.setRow w1.heap.size (row2 l k R1)) w1.heap.size (k * 6) a) := hbw.grown hgr hbw.size (fun t e => by cases e; omega)
    have hmem : ∀ b ∈ l.take k ++ a :: l.drop k, b.Lies w ∧ b.Fits ∧ ∀ x, (b.ia = some x ∨ b.ta = some x) → x.block < w.heap.size := by
      intro b hb
      rcases List.mem_append.1 hb with hb | hb
      · have := List.mem_of_mem_take hb; exact ⟨HO.out.lies b this, HO.out.fits b this, fun x hx => (HO.out.off b this x hx).1⟩
      · rcases List.mem_cons.1 hb with rfl | hb
        · exact ⟨HA.out, haf, HOFF.out⟩
        · have := List.mem_of_mem_drop hb; exact ⟨HO.out.lies b this, HO.out.fits b this, fun x hx => (HO.out.off b this x hx).1⟩
    refine ⟨w1.heap.size, rfl, by omega, ⟨?_, fun b hb => (hmem b hb).1.below hbf, fun b hb => (hmem b hb).2.1, fun b hb x hx => ⟨Nat.lt_of_lt_of_le ((hmem b hb).2.2 x hx) hbf.size, fun e => by have := (hmem b hb).2.2 x hx; have e2 := Option.some.inj e; simp at e2; omega⟩, fun e => by simp at e⟩, hbf⟩
    exact own_final a k HG3.out (by omega) (by simp [← HN.out]; omega) (by omega) HRS.out (row_final a HN.out HR1S.out (by omega) HR1K.out)
end Go.Proofs.YtmepjbjmjbpchaaGreatDoor
end
section
/- attrs.put: a new name at the end. -/
namespace Go.Proofs.YtmepjbjmjbpchaaGreatDoor
open Go Go.RowKit Go.Sort
set_option linter.unusedVariables false
set_option linter.unusedSimpArgs false
attribute [local go_sem] Oper.semAt_some

theorem row2_end {l : List Atr} {k : Nat} {R1 : Array Value} (hn : k = l.length) (hs : R1.size = (k + 1) * 6) : row2 l k R1 = R1 := by
  unfold row2
  rw [List.drop_of_length_le (by omega)]
  apply Array.ext'
  simp [List.take_of_length_le, List.drop_of_length_le, hs]
set_option maxRecDepth 100000 in
set_option maxHeartbeats 8000000 in
theorem put_end (v : Value) (l : List Atr) (base : Nat) (a : Atr) (w : World) (ho : AtrOwn w base v l) (hl : l.length ≤ 100000) (hr : Rises l) (hf : foundB l a.name = false) (hle : lowerB l a.name = l.length) (hn0 : 0 < l.length) (ha : a.Lies w) (haf : a.Fits)
    (hoff : ∀ x, (a.ia = some x ∨ a.ta = some x) → x.block < w.heap.size) :
    Calls Tryz.prog 40 #[v, a.val] w fun e w' => ∃ g, e = .returned (.slice (some ⟨g, 0, none⟩) (l.length + 1) (l.length + 1)) ∧ w.heap.size ≤ g ∧ AtrOwn w' w.heap.size (.slice (some ⟨g, 0, none⟩) (l.length + 1) (l.length + 1)) (l.take (lowerB l a.name) ++ a :: l.drop (lowerB l a.name)) ∧ Below w.heap.size w w' := by
  obtain ⟨g, c, cur, rfl, hbg, hgc, hcap, hcs, htk⟩ := ho.form (by omega)
  have hz := blkLt hgc
  have HOS := Lib.hid ho.sl
  have HO := Lib.hid ho
  have HR := Lib.hid hr
  have HF := Lib.hid hf
  have HOFF := Lib.hid hoff
  have HTK := Lib.hid htk
  have HA := Lib.hid ha
  have HGC := Lib.hid hgc
  obtain ⟨k, hk⟩ : ∃ k, k = lowerB l a.name := ⟨_, rfl⟩
  rw [← hk] at hle ⊢
  have HK := Lib.hid hk
  obtain ⟨n, hn⟩ : ∃ n, n = l.length := ⟨_, rfl⟩
  rw [← hn] at hle hn0 hl hcap
  subst hle
  have HN := Lib.hid hn
  rw [← hn]
  have hk0 : (0 : Int) ≤ (k : Int) := by omega
  have hkc : (k : Int) ≤ (c : Int) := by omega
  have hmk := make_attrs k (by omega)
  clear ho hr hf hoff htk ha hk hgc hn
  have HCS := Lib.hid hcs
  clear hcs
  have hpos : ∀ W, Below w.heap.size w W → Calls Tryz.prog 63 #[.slice (some ⟨g, 0, none⟩) k c, .string a.name, .func (.func 64) #[] #[]] W fun e w' => e = .returned (.tuple #[.int .i64 k, .bool false]) ∧ Below W.heap.size W w' := by
    intro W hb
    have := position_any _ c l a.name W (HOS.out.below hb) (by rw [← HN.out]; omega) HR.out
    rw [HF.out, ← HK.out, ← HN.out] at this
    exact this
  have HPOS := Lib.hid hpos
  clear hpos
  refine (callsIn_wide (n := 6)).1 ?_
  refine callsIn_of_wp Tryz.func40 rfl trivial ?_ rfl
  simp only [Tryz.ntmps40, List.size_toArray, List.length_cons, List.length_nil, Nat.reduceAdd, Nat.reduceSub, Array.replicate_succ, Array.replicate_zero, List.push_toArray, List.append_toArray, List.nil_append, List.cons_append]
  gi_wp2_with (refine ⟨trivial, ?_⟩; gi_at_call 63; refine CallsIn.mono (callsIn_wide.2 (HPOS.out _ ?_)) ?_; (focus ((repeat (first | (with_reducible refine below_set ?_ (by first | exact Nat.le_refl _ | omega) _ _) | with_reducible exact Below.refl _ _ | with_reducible refine belowA ?_ _ | with_reducible refine belowD ?_ | with_reducible refine belowN ?_ _)); done)); rintro e w1 ⟨rfl, hb1⟩; have c0 := rdCell hb1 w.heap.size (by simp); have f0 := rdFree hb1 w.heap.size (by simp); have hzw1 : w.heap.size < w1.heap.size := (by have := Below.size hb1; simp at this; omega); have hg1 := (hb1.block g (by simp; omega)).trans (heap_alloc_old HGC.out _); have hzg1 := blkLt hg1; have hcp1 := cp1 HN.out HTK.out hg1 (Nat.le_refl k) c)
  have hR1s : (row1 l k k).size = (k + 1) * 6 := by
    unfold row1
    have := madeA_size (k + 1)
    simp only [List.size_toArray, List.length_append, List.length_take, List.length_drop, Array.length_toList, flat_len, ← HN.out, this]; omega
  have hR1k : ∀ t, t < k * 6 → (row1 l k k)[t]? = ((l.take k).flatMap Atr.cells)[t]? := by
    intro t ht
    unfold row1
    simp only [List.take_zero, List.nil_append, List.getElem?_toArray]
    rw [List.getElem?_append_left (by rw [flat_len, List.length_take, ← HN.out]; omega)]
  obtain ⟨R1, hR1⟩ : ∃ R, R = row1 l k k := ⟨_, rfl⟩
  refine wpIn_world (fun W => W.heap[w1.heap.size]? = some (.cells R1 27 (0, 0)) ∧ Below w1.heap.size w1 W) ⟨by rw [hR1]; exact setRow_heap _ _ _ _ _ _ (heap_alloc_new _ _), below_setRow ((Below.refl _ _).alloc (Nat.le_refl _) _) (Nat.le_refl _) _⟩ ?_
  rw [← hR1] at hR1s hR1k
  have HR1S := Lib.hid hR1s
  have HR1K := Lib.hid hR1k
  clear hR1s hR1k hR1 hcp1 hmk c0 f0
  rintro W2 ⟨hG2, hb2⟩
  have hg2 := (hb2.block g hzg1).trans hg1
  have HG2b := Lib.hid hg2
  have HG2 := Lib.hid hG2
  have HB2 := Lib.hid hb2
  clear hG2 hb2
  have hk1 : (0 : Int) ≤ (k : Int) + 1 := by omega
  have hk3 : (k : Int) ≤ (c : Int) := by omega
  have hkw : IntKind.i64.wrap ((k : Int) + 1) = (k : Int) + 1 := IntWalk.i64_in _ (by omega)
  have hkn : ((k : Int) + 1).toNat = k + 1 := by omega
  have hrs := HR1S.out
  have hr2 : Hid (row2 l k R1 = R1) := Lib.hid (row2_end HN.out HR1S.out)
  rcases Nat.eq_or_lt_of_le hcap with hck | hck
  · subst hck
    generalize hops : (#[_, _, _, _, _, _, _, _] : Array Oper) = ops
    refine wpIn_region_inv_tail 7 (fun i => match i with | 0 => .slice (some ⟨w1.heap.size, 0, none⟩) (k + 1) (k + 1) | 1 => .int .i64 (k : Int) | 2 => .int .i64 ((k : Int) + 1) | 3 => .slice (some ⟨w1.heap.size, 0, none⟩) 0 0 | 4 => .slice (some ⟨g, 0, none⟩) k k | 5 => .int .i64 (k : Int) | 6 => .slice (some ⟨g, 0, none⟩) 0 0 | _ => undef)
      (fun _ Wy => Below W2.heap.size W2 Wy) (by kernel_rfl) (by rw [← hops]; kernel_rfl) (by rw [← hops]; kernel_rfl) (by rw [← hops]; kernel_rfl) (by rw [← hops]; decide) (by rw [← hops]; kernel_rfl) ((Below.refl _ _).drew) ?step ?tail
    case step =>
      intro i o listed a Wy ho hs hu hall ha hi hy hlt
      have old7 : a.eval (.tmp 7) = .slice (some ⟨w1.heap.size, 0, none⟩) (k + 1) (k + 1) := by rw [ha.eval_old (noDst_spec (by rw [← hops]; kernel_rfl))]; rfl
      have old5 : a.eval (.tmp 5) = .int .i64 (k : Int) := by rw [ha.eval_old (noDst_spec (by rw [← hops]; kernel_rfl))]; rfl
      have old0 : a.eval (.tmp 0) = .slice (some ⟨g, 0, none⟩) k k := by rw [ha.eval_old (noDst_spec (by rw [← hops]; kernel_rfl))]; rfl
      have hcase : i = 0 ∨ i = 1 ∨ i = 2 ∨ i = 3 ∨ i = 4 ∨ i = 5 ∨ i = 6 := by omega
      rcases hcase with rfl | rfl | rfl | rfl | rfl | rfl | rfl
      all_goals (have ho' := ho; rw [← hops] at ho'; simp only [List.getElem?_toArray, List.getElem?_cons_zero, List.getElem?_cons_succ, Option.some.injEq] at ho'; subst ho')
      · refine step_none rfl ?_
        refine opIn_value wideAt_plain (fun c h => by cases h) (v := .slice (some ⟨w1.heap.size, 0, none⟩) (k + 1) (k + 1)) (W' := Wy) ?_ ⟨rfl, hi⟩
        simp only [execOp, old7]
        simp only [Sem.run_pure]
      · refine step_none rfl ?_
        refine opIn_value wideAt_plain (fun c h => by cases h) (v := .int .i64 (k : Int)) (W' := Wy) ?_ ⟨rfl, hi⟩
        simp only [execOp, old5]
        simp only [Sem.run_pure]
      · refine step_none rfl ?_
        have h31 : a.eval (.tmp 31) = .int .i64 (k : Int) := ha.eval_got (j := 1) (by rw [← hops]; rfl) rfl (hall ⟨1, .data⟩ (by simp) rfl)
        refine opIn_value wideAt_plain (fun c h => by cases h) (v := .int .i64 ((k : Int) + 1)) (W' := Wy) ?_ ⟨rfl, hi⟩
        simp only [execOp, h31]
        simp [go_sem, hkw]
      · refine step_none rfl ?_
        have h30 : a.eval (.tmp 30) = .slice (some ⟨w1.heap.size, 0, none⟩) (k + 1) (k + 1) := ha.eval_got (j := 0) (by rw [← hops]; rfl) rfl (hall ⟨0, .data⟩ (by simp) rfl)
        have h32 : a.eval (.tmp 32) = .int .i64 ((k : Int) + 1) := ha.eval_got (j := 2) (by rw [← hops]; rfl) rfl (hall ⟨2, .data⟩ (by simp) rfl)
        have q_h30 := h30; simp only [Act.eval, Array.getD_eq_getD_getElem?] at q_h30
        have q_h32 := h32; simp only [Act.eval, Array.getD_eq_getD_getElem?] at q_h32
        refine opIn_value wideAt_plain (fun c h => by cases h) (v := .slice (some ⟨w1.heap.size, 0, none⟩) 0 0) (W' := Wy) ?_ ⟨rfl, hi⟩
        simp only [execOp, h30, h32]
        simp [go_sem, q_h30, q_h32, hk1, hkn]
      · refine step_none rfl ?_
        refine opIn_value wideAt_plain (fun c h => by cases h) (v := .slice (some ⟨g, 0, none⟩) k k) (W' := Wy) ?_ ⟨rfl, hi⟩
        simp only [execOp, old0]
        simp only [Sem.run_pure]
      · refine step_none rfl ?_
        refine opIn_value wideAt_plain (fun c h => by cases h) (v := .int .i64 (k : Int)) (W' := Wy) ?_ ⟨rfl, hi⟩
        simp only [execOp, old5]
        simp only [Sem.run_pure]
      · refine step_none rfl ?_
        have h34 : a.eval (.tmp 34) = .slice (some ⟨g, 0, none⟩) k k := ha.eval_got (j := 4) (by rw [← hops]; rfl) rfl (hall ⟨4, .data⟩ (by simp) rfl)
        have h35 : a.eval (.tmp 35) = .int .i64 (k : Int) := ha.eval_got (j := 5) (by rw [← hops]; rfl) rfl (hall ⟨5, .data⟩ (by simp) rfl)
        have q_h34 := h34; simp only [Act.eval, Array.getD_eq_getD_getElem?] at q_h34
        have q_h35 := h35; simp only [Act.eval, Array.getD_eq_getD_getElem?] at q_h35
        refine opIn_value wideAt_plain (fun c h => by cases h) (v := .slice (some ⟨g, 0, none⟩) 0 0) (W' := Wy) ?_ ⟨rfl, hi⟩
        simp only [execOp, h34, h35]
        simp [go_sem, q_h34, q_h35, hk0, hk3, show k ≤ k by omega]
    case tail =>
      intro Wz hz
      subst hops
      simp only [frameOf, Act.put, Option.bind_some, List.getElem?_toArray, List.getElem?_cons_zero, List.getElem?_cons_succ, List.setIfInBounds_toArray, List.set_cons_zero, List.set_cons_succ, List.drop_succ_cons, List.drop_zero]
      have hGz := (hz.block _ (blkLt HG2.out)).trans HG2.out
      have hcp2 := run_copy_zero (P := Tryz.prog) Wz 22 22 3 27 (some ⟨w1.heap.size, 0, none⟩) (some ⟨g, 0, none⟩) 0 0 0 0 6 Tryz.underlying22 attr_size rfl
      have hb3 : Below w1.heap.size w1 Wz := HB2.out.trans (hz.mono HB2.out.size)
      have hc3 := fun j => (rdCell hb3 w.heap.size hzw1 j).trans (rdCell hb1 w.heap.size (by simp) j)
      have c4 := blkCell hGz
      have f4 := blkFree hGz
      obtain ⟨y0, e0⟩ : ∃ y, R1[k * 6]? = some y := ⟨_, Array.getElem?_eq_getElem (by omega)⟩
      obtain ⟨y1, e1⟩ : ∃ y, R1[k * 6 + 1]? = some y := ⟨_, Array.getElem?_eq_getElem (by omega)⟩
      obtain ⟨y2, e2⟩ : ∃ y, R1[k * 6 + 2]? = some y := ⟨_, Array.getElem?_eq_getElem (by omega)⟩
      obtain ⟨y3, e3⟩ : ∃ y, R1[k * 6 + 3]? = some y := ⟨_, Array.getElem?_eq_getElem (by omega)⟩
      obtain ⟨y4, e4⟩ : ∃ y, R1[k * 6 + 4]? = some y := ⟨_, Array.getElem?_eq_getElem (by omega)⟩
      obtain ⟨y5, e5⟩ : ∃ y, R1[k * 6 + 5]? = some y := ⟨_, Array.getElem?_eq_getElem (by omega)⟩
      have HG3 := Lib.hid hGz
      have HB3 := Lib.hid hb3
      have HB1 := Lib.hid hb1
      clear hz hGz hb3 hg1 hb1 hrs
      gi_wp2_with fail
      go_ret
      have hbw : Below w.heap.size w Wz := by (repeat (first | (with_reducible refine below_set ?_ (by first | exact Nat.le_refl _ | omega) _ _) | with_reducible exact Below.refl _ _ | with_reducible refine belowA ?_ _ | with_reducible refine below_own' ?_ HB3.out | with_reducible refine below_own' ?_ HB1.out | with_reducible refine belowD ?_ | with_reducible refine belowN ?_ _))
      have hgr := six_grown Wz w1.heap.size (k * 6) a
      have hbf : Below w.heap.size w (six Wz w1.heap.size (k * 6) a) := hbw.grown hgr hbw.size (fun t e => by cases e; omega)
      have hmem : ∀ b ∈ l.take k ++ a :: l.drop k, b.Lies w ∧ b.Fits ∧ ∀ x, (b.ia = some x ∨ b.ta = some x) → x.block < w.heap.size := by
        intro b hb
        rcases List.mem_append.1 hb with hb | hb
        · have := List.mem_of_mem_take hb; exact ⟨HO.out.lies b this, HO.out.fits b this, fun x hx => (HO.out.off b this x hx).1⟩
        · rcases List.mem_cons.1 hb with rfl | hb
          · exact ⟨HA.out, haf, HOFF.out⟩
          · have := List.mem_of_mem_drop hb; exact ⟨HO.out.lies b this, HO.out.fits b this, fun x hx => (HO.out.off b this x hx).1⟩
      refine ⟨w1.heap.size, rfl, by omega, ⟨?_, fun b hb => (hmem b hb).1.below hbf, fun b hb => (hmem b hb).2.1, fun b hb x hx => ⟨Nat.lt_of_lt_of_le ((hmem b hb).2.2 x hx) hbf.size, fun e => by have := (hmem b hb).2.2 x hx; have e2 := Option.some.inj e; simp at e2; omega⟩, fun e => by simp at e⟩, hbf⟩
      have hfin := row_final a HN.out HR1S.out (Nat.le_refl k) HR1K.out
      rw [hr2.out] at hfin
      exact own_final a k HG3.out (by omega) (by simp [← HN.out]) (by omega) HR1S.out hfin
  · have hckn : ¬ c = k := by omega
    generalize hops : (#[_, _, _, _, _, _, _, _] : Array Oper) = ops
    refine wpIn_region_inv_tail 7 (fun i => match i with | 0 => .slice (some ⟨w1.heap.size, 0, none⟩) (k + 1) (k + 1) | 1 => .int .i64 (k : Int) | 2 => .int .i64 ((k : Int) + 1) | 3 => .slice (some ⟨w1.heap.size, 0, none⟩) 0 0 | 4 => .slice (some ⟨g, 0, none⟩) k c | 5 => .int .i64 (k : Int) | 6 => .slice (some ⟨g, k * 6, none⟩) 0 (c - k) | _ => undef)
      (fun _ Wy => Below W2.heap.size W2 Wy) (by kernel_rfl) (by rw [← hops]; kernel_rfl) (by rw [← hops]; kernel_rfl) (by rw [← hops]; kernel_rfl) (by rw [← hops]; decide) (by rw [← hops]; kernel_rfl) ((Below.refl _ _).drew) ?step ?tail
    case step =>
      intro i o listed a Wy ho hs hu hall ha hi hy hlt
      have old7 : a.eval (.tmp 7) = .slice (some ⟨w1.heap.size, 0, none⟩) (k + 1) (k + 1) := by rw [ha.eval_old (noDst_spec (by rw [← hops]; kernel_rfl))]; rfl
      have old5 : a.eval (.tmp 5) = .int .i64 (k : Int) := by rw [ha.eval_old (noDst_spec (by rw [← hops]; kernel_rfl))]; rfl
      have old0 : a.eval (.tmp 0) = .slice (some ⟨g, 0, none⟩) k c := by rw [ha.eval_old (noDst_spec (by rw [← hops]; kernel_rfl))]; rfl
      have hcase : i = 0 ∨ i = 1 ∨ i = 2 ∨ i = 3 ∨ i = 4 ∨ i = 5 ∨ i = 6 := by omega
      rcases hcase with rfl | rfl | rfl | rfl | rfl | rfl | rfl
      all_goals (have ho' := ho; rw [← hops] at ho'; simp only [List.getElem?_toArray, List.getElem?_cons_zero, List.getElem?_cons_succ, Option.some.injEq] at ho'; subst ho')
      · refine step_none rfl ?_
        refine opIn_value wideAt_plain (fun c h => by cases h) (v := .slice (some ⟨w1.heap.size, 0, none⟩) (k + 1) (k + 1)) (W' := Wy) ?_ ⟨rfl, hi⟩
        simp only [execOp, old7]
        simp only [Sem.run_pure]
      · refine step_none rfl ?_
        refine opIn_value wideAt_plain (fun c h => by cases h) (v := .int .i64 (k : Int)) (W' := Wy) ?_ ⟨rfl, hi⟩
        simp only [execOp, old5]
        simp only [Sem.run_pure]
      · refine step_none rfl ?_
        have h31 : a.eval (.tmp 31) = .int .i64 (k : Int) := ha.eval_got (j := 1) (by rw [← hops]; rfl) rfl (hall ⟨1, .data⟩ (by simp) rfl)
        refine opIn_value wideAt_plain (fun c h => by cases h) (v := .int .i64 ((k : Int) + 1)) (W' := Wy) ?_ ⟨rfl, hi⟩
        simp only [execOp, h31]
        simp [go_sem, hkw]
      · refine step_none rfl ?_
        have h30 : a.eval (.tmp 30) = .slice (some ⟨w1.heap.size, 0, none⟩) (k + 1) (k + 1) := ha.eval_got (j := 0) (by rw [← hops]; rfl) rfl (hall ⟨0, .data⟩ (by simp) rfl)
        have h32 : a.eval (.tmp 32) = .int .i64 ((k : Int) + 1) := ha.eval_got (j := 2) (by rw [← hops]; rfl) rfl (hall ⟨2, .data⟩ (by simp) rfl)
        have q_h30 := h30; simp only [Act.eval, Array.getD_eq_getD_getElem?] at q_h30
        have q_h32 := h32; simp only [Act.eval, Array.getD_eq_getD_getElem?] at q_h32
        refine opIn_value wideAt_plain (fun c h => by cases h) (v := .slice (some ⟨w1.heap.size, 0, none⟩) 0 0) (W' := Wy) ?_ ⟨rfl, hi⟩
        simp only [execOp, h30, h32]
        simp [go_sem, q_h30, q_h32, hk1, hkn]
      · refine step_none rfl ?_
        refine opIn_value wideAt_plain (fun c h => by cases h) (v := .slice (some ⟨g, 0, none⟩) k c) (W' := Wy) ?_ ⟨rfl, hi⟩
        simp only [execOp, old0]
        simp only [Sem.run_pure]
      · refine step_none rfl ?_
        refine opIn_value wideAt_plain (fun c h => by cases h) (v := .int .i64 (k : Int)) (W' := Wy) ?_ ⟨rfl, hi⟩
        simp only [execOp, old5]
        simp only [Sem.run_pure]
      · refine step_none rfl ?_
        have h34 : a.eval (.tmp 34) = .slice (some ⟨g, 0, none⟩) k c := ha.eval_got (j := 4) (by rw [← hops]; rfl) rfl (hall ⟨4, .data⟩ (by simp) rfl)
        have h35 : a.eval (.tmp 35) = .int .i64 (k : Int) := ha.eval_got (j := 5) (by rw [← hops]; rfl) rfl (hall ⟨5, .data⟩ (by simp) rfl)
        have q_h34 := h34; simp only [Act.eval, Array.getD_eq_getD_getElem?] at q_h34
        have q_h35 := h35; simp only [Act.eval, Array.getD_eq_getD_getElem?] at q_h35
        refine opIn_value wideAt_plain (fun c h => by cases h) (v := .slice (some ⟨g, k * 6, none⟩) 0 (c - k)) (W' := Wy) ?_ ⟨rfl, hi⟩
        simp only [execOp, h34, h35]
        simp [go_sem, q_h34, q_h35, hk0, hk3, show k ≤ k by omega, hckn]
    case tail =>
      intro Wz hz
      subst hops
      simp only [frameOf, Act.put, Option.bind_some, List.getElem?_toArray, List.getElem?_cons_zero, List.getElem?_cons_succ, List.setIfInBounds_toArray, List.set_cons_zero, List.set_cons_succ, List.drop_succ_cons, List.drop_zero]
      have hGz := (hz.block _ (blkLt HG2.out)).trans HG2.out
      have hcp2 := run_copy_zero (P := Tryz.prog) Wz 22 22 3 27 (some ⟨w1.heap.size, 0, none⟩) (some ⟨g, k * 6, none⟩) 0 0 0 (c - k) 6 Tryz.underlying22 attr_size rfl
      have hb3 : Below w1.heap.size w1 Wz := HB2.out.trans (hz.mono HB2.out.size)
      have hc3 := fun j => (rdCell hb3 w.heap.size hzw1 j).trans (rdCell hb1 w.heap.size (by simp) j)
      have c4 := blkCell hGz
      have f4 := blkFree hGz
      obtain ⟨y0, e0⟩ : ∃ y, R1[k * 6]? = some y := ⟨_, Array.getElem?_eq_getElem (by omega)⟩
      obtain ⟨y1, e1⟩ : ∃ y, R1[k * 6 + 1]? = some y := ⟨_, Array.getElem?_eq_getElem (by omega)⟩
      obtain ⟨y2, e2⟩ : ∃ y, R1[k * 6 + 2]? = some y := ⟨_, Array.getElem?_eq_getElem (by omega)⟩
      obtain ⟨y3, e3⟩ : ∃ y, R1[k * 6 + 3]? = some y := ⟨_, Array.getElem?_eq_getElem (by omega)⟩
      obtain ⟨y4, e4⟩ : ∃ y, R1[k * 6 + 4]? = some y := ⟨_, Array.getElem?_eq_getElem (by omega)⟩
      obtain ⟨y5, e5⟩ : ∃ y, R1[k * 6 + 5]? = some y := ⟨_, Array.getElem?_eq_getElem (by omega)⟩
      have HG3 := Lib.hid hGz
      have HB3 := Lib.hid hb3
      have HB1 := Lib.hid hb1
      clear hz hGz hb3 hg1 hb1 hrs
      gi_wp2_with fail
      go_ret
      have hbw : Below w.heap.size w Wz := by (repeat (first | (with_reducible refine below_set ?_ (by first | exact Nat.le_refl _ | omega) _ _) | with_reducible exact Below.refl _ _ | with_reducible refine belowA ?_ _ | with_reducible refine below_own' ?_ HB3.out | with_reducible refine below_own' ?_ HB1.out | with_reducible refine belowD ?_ | with_reducible refine belowN ?_ _))
      have hgr := six_grown Wz w1.heap.size (k * 6) a
      have hbf : Below w.heap.size w (six Wz w1.heap.size (k * 6) a) := hbw.grown hgr hbw.size (fun t e => by cases e; omega)
      have hmem : ∀ b ∈ l.take k ++ a :: l.drop k, b.Lies w ∧ b.Fits ∧ ∀ x, (b.ia = some x ∨ b.ta = some x) → x.block < w.heap.size := by
        intro b hb
        rcases List.mem_append.1 hb with hb | hb
        · have := List.mem_of_mem_take hb; exact ⟨HO.out.lies b this, HO.out.fits b this, fun x hx => (HO.out.off b this x hx).1⟩
        · rcases List.mem_cons.1 hb with rfl | hb
          · exact ⟨HA.out, haf, HOFF.out⟩
          · have := List.mem_of_mem_drop hb; exact ⟨HO.out.lies b this, HO.out.fits b this, fun x hx => (HO.out.off b this x hx).1⟩
      refine ⟨w1.heap.size, rfl, by omega, ⟨?_, fun b hb => (hmem b hb).1.below hbf, fun b hb => (hmem b hb).2.1, fun b hb x hx => ⟨Nat.lt_of_lt_of_le ((hmem b hb).2.2 x hx) hbf.size, fun e => by have := (hmem b hb).2.2 x hx; have e2 := Option.some.inj e; simp at e2; omega⟩, fun e => by simp at e⟩, hbf⟩
      have hfin := row_final a HN.out HR1S.out (Nat.le_refl k) HR1K.out
      rw [hr2.out] at hfin
      exact own_final a k HG3.out (by omega) (by simp [← HN.out]) (by omega) HR1S.out hfin
end Go.Proofs.YtmepjbjmjbpchaaGreatDoor
end
section
/- attrs.put into the empty list; attrs.put whatever the name. -/
namespace Go.Proofs.YtmepjbjmjbpchaaGreatDoor
open Go Go.RowKit Go.Sort
set_option linter.unusedVariables false
set_option linter.unusedSimpArgs false
attribute [local go_sem] Oper.semAt_some

set_option maxRecDepth 100000 in
set_option maxHeartbeats 8000000 in
theorem put_emp (a : Atr) (w : World) (ha : a.Lies w) (haf : a.Fits) (hoff : ∀ x, (a.ia = some x ∨ a.ta = some x) → x.block < w.heap.size) :
    Calls Tryz.prog 40 #[.slice none 0 0, a.val] w fun e w' => ∃ g, e = .returned (.slice (some ⟨g, 0, none⟩) 1 1) ∧ w.heap.size ≤ g ∧ AtrOwn w' w.heap.size (.slice (some ⟨g, 0, none⟩) 1 1) [a] ∧ Below w.heap.size w w' := by
  have HOFF := Lib.hid hoff
  have HA := Lib.hid ha
  have hmk : ∀ W, (Instr.makeSlice 22 (.int .i64 1) (.int .i64 1)).run Tryz.prog W = .ok (.slice (some ⟨W.heap.size, 0, none⟩) 1 1) (W.alloc (.cells (madeA 1) 27)) := make_attrs 0 (by omega)
  have hpos : ∀ W, Below w.heap.size w W → Calls Tryz.prog 63 #[.slice none 0 0, .string a.name, .func (.func 64) #[] #[]] W fun e w' => e = .returned (.tuple #[.int .i64 0, .bool false]) ∧ Below W.heap.size W w' := by
    intro W hb
    exact position_any none 0 [] a.name W ⟨.inl rfl, by simp, by simp⟩ (by simp) (fun i j hi hj => by simp at hj)
  have HPOS := Lib.hid hpos
  have hcp1 := fun W dp dl dc => run_copy_zero (P := Tryz.prog) W 22 22 3 27 dp none dl dc 0 0 6 Tryz.underlying22 attr_size (by show min 0 dl = 0; omega)
  clear hpos hoff ha
  refine (callsIn_wide (n := 6)).1 ?_
  refine callsIn_of_wp Tryz.func40 rfl trivial ?_ rfl
  simp only [Tryz.ntmps40, List.size_toArray, List.length_cons, List.length_nil, Nat.reduceAdd, Nat.reduceSub, Array.replicate_succ, Array.replicate_zero, List.push_toArray, List.append_toArray, List.nil_append, List.cons_append]
  gi_wp2_with (refine ⟨trivial, ?_⟩; gi_at_call 63; refine CallsIn.mono (callsIn_wide.2 (HPOS.out _ ?_)) ?_; (focus ((repeat (first | (with_reducible refine below_set ?_ (by first | exact Nat.le_refl _ | omega) _ _) | with_reducible exact Below.refl _ _ | with_reducible refine belowA ?_ _ | with_reducible refine belowD ?_ | with_reducible refine belowN ?_ _)); done)); rintro e w1 ⟨rfl, hb1⟩; have c0 := rdCell hb1 w.heap.size (by simp); have f0 := rdFree hb1 w.heap.size (by simp); have hzw1 : w.heap.size < w1.heap.size := (by have := Below.size hb1; simp at this; omega))
  refine wpIn_world (fun W => W.heap[w1.heap.size]? = some (.cells (madeA 1) 27 (0, 0)) ∧ Below w1.heap.size w1 W) ⟨heap_alloc_new _ _, (Below.refl _ _).alloc (Nat.le_refl _) _⟩ ?_
  rintro W2 ⟨hG2, hb2⟩
  have HG2 := Lib.hid hG2
  have HB2 := Lib.hid hb2
  clear hG2 hb2 c0 f0
  have hkw : IntKind.i64.wrap ((0 : Int) + 1) = 1 := rfl
  generalize hops : (#[_, _, _, _, _, _, _, _] : Array Oper) = ops
  refine wpIn_region_inv_tail 7 (fun i => match i with | 0 => .slice (some ⟨w1.heap.size, 0, none⟩) 1 1 | 1 => .int .i64 0 | 2 => .int .i64 1 | 3 => .slice (some ⟨w1.heap.size, 0, none⟩) 0 0 | 4 => .slice none 0 0 | 5 => .int .i64 0 | 6 => .slice none 0 0 | _ => undef)
    (fun _ Wy => Below W2.heap.size W2 Wy) (by kernel_rfl) (by rw [← hops]; kernel_rfl) (by rw [← hops]; kernel_rfl) (by rw [← hops]; kernel_rfl) (by rw [← hops]; decide) (by rw [← hops]; kernel_rfl) ((Below.refl _ _).drew) ?step ?tail
  case step =>
    intro i o listed a Wy ho hs hu hall ha hi hy hlt
    have old7 : a.eval (.tmp 7) = .slice (some ⟨w1.heap.size, 0, none⟩) 1 1 := by rw [ha.eval_old (noDst_spec (by rw [← hops]; kernel_rfl))]; rfl
    have old5 : a.eval (.tmp 5) = .int .i64 0 := by rw [ha.eval_old (noDst_spec (by rw [← hops]; kernel_rfl))]; rfl
    have old0 : a.eval (.tmp 0) = .slice none 0 0 := by rw [ha.eval_old (noDst_spec (by rw [← hops]; kernel_rfl))]; rfl
    have hcase : i = 0 ∨ i = 1 ∨ i = 2 ∨ i = 3 ∨ i = 4 ∨ i = 5 ∨ i = 6 := by omega
    rcases hcase with rfl | rfl | rfl | rfl | rfl | rfl | rfl
    all_goals (have ho' := ho; rw [← hops] at ho'; simp only [List.getElem?_toArray, List.getElem?_cons_zero, List.getElem?_cons_succ, Option.some.injEq] at ho'; subst ho')
    · refine step_none rfl ?_
      refine opIn_value wideAt_plain (fun c h => by cases h) (v := .slice (some ⟨w1.heap.size, 0, none⟩) 1 1) (W' := Wy) ?_ ⟨rfl, hi⟩
      simp only [execOp, old7]
      simp only [Sem.run_pure]
    · refine step_none rfl ?_
      refine opIn_value wideAt_plain (fun c h => by cases h) (v := .int .i64 0) (W' := Wy) ?_ ⟨rfl, hi⟩
      simp only [execOp, old5]
      simp only [Sem.run_pure]
    · refine step_none rfl ?_
      have h31 : a.eval (.tmp 31) = .int .i64 0 := ha.eval_got (j := 1) (by rw [← hops]; rfl) rfl (hall ⟨1, .data⟩ (by simp) rfl)
      refine opIn_value wideAt_plain (fun c h => by cases h) (v := .int .i64 1) (W' := Wy) ?_ ⟨rfl, hi⟩
      simp only [execOp, h31]
      simp [go_sem] <;> rfl
    · refine step_none rfl ?_
      have h30 : a.eval (.tmp 30) = .slice (some ⟨w1.heap.size, 0, none⟩) 1 1 := ha.eval_got (j := 0) (by rw [← hops]; rfl) rfl (hall ⟨0, .data⟩ (by simp) rfl)
      have h32 : a.eval (.tmp 32) = .int .i64 1 := ha.eval_got (j := 2) (by rw [← hops]; rfl) rfl (hall ⟨2, .data⟩ (by simp) rfl)
      have q_h30 := h30; simp only [Act.eval, Array.getD_eq_getD_getElem?] at q_h30
      have q_h32 := h32; simp only [Act.eval, Array.getD_eq_getD_getElem?] at q_h32
      refine opIn_value wideAt_plain (fun c h => by cases h) (v := .slice (some ⟨w1.heap.size, 0, none⟩) 0 0) (W' := Wy) ?_ ⟨rfl, hi⟩
      simp only [execOp, h30, h32]
      simp [go_sem, q_h30, q_h32, ]
    · refine step_none rfl ?_
      refine opIn_value wideAt_plain (fun c h => by cases h) (v := .slice none 0 0) (W' := Wy) ?_ ⟨rfl, hi⟩
      simp only [execOp, old0]
      simp only [Sem.run_pure]
    · refine step_none rfl ?_
      refine opIn_value wideAt_plain (fun c h => by cases h) (v := .int .i64 0) (W' := Wy) ?_ ⟨rfl, hi⟩
      simp only [execOp, old5]
      simp only [Sem.run_pure]
    · refine step_none rfl ?_
      have h34 : a.eval (.tmp 34) = .slice none 0 0 := ha.eval_got (j := 4) (by rw [← hops]; rfl) rfl (hall ⟨4, .data⟩ (by simp) rfl)
      have h35 : a.eval (.tmp 35) = .int .i64 0 := ha.eval_got (j := 5) (by rw [← hops]; rfl) rfl (hall ⟨5, .data⟩ (by simp) rfl)
      have q_h34 := h34; simp only [Act.eval, Array.getD_eq_getD_getElem?] at q_h34
      have q_h35 := h35; simp only [Act.eval, Array.getD_eq_getD_getElem?] at q_h35
      refine opIn_value wideAt_plain (fun c h => by cases h) (v := .slice none 0 0) (W' := Wy) ?_ ⟨rfl, hi⟩
      simp only [execOp, h34, h35]
      simp [go_sem, q_h34, q_h35, ]
  case tail =>
    intro Wz hz
    subst hops
    simp only [frameOf, Act.put, Option.bind_some, List.getElem?_toArray, List.getElem?_cons_zero, List.getElem?_cons_succ, List.setIfInBounds_toArray, List.set_cons_zero, List.set_cons_succ, List.drop_succ_cons, List.drop_zero]
    have hGz := (hz.block _ (blkLt HG2.out)).trans HG2.out
    have hb3 : Below w1.heap.size w1 Wz := HB2.out.trans (hz.mono HB2.out.size)
    have hc3 := fun j => (rdCell hb3 w.heap.size hzw1 j).trans (rdCell hb1 w.heap.size (by simp) j)
    have c4 := blkCell hGz
    have f4 := blkFree hGz
    have hms := madeA_size 1
    obtain ⟨y0, e0⟩ : ∃ y, (madeA 1)[0]? = some y := ⟨_, Array.getElem?_eq_getElem (by omega)⟩
    obtain ⟨y1, e1⟩ : ∃ y, (madeA 1)[1]? = some y := ⟨_, Array.getElem?_eq_getElem (by omega)⟩
    obtain ⟨y2, e2⟩ : ∃ y, (madeA 1)[2]? = some y := ⟨_, Array.getElem?_eq_getElem (by omega)⟩
    obtain ⟨y3, e3⟩ : ∃ y, (madeA 1)[3]? = some y := ⟨_, Array.getElem?_eq_getElem (by omega)⟩
    obtain ⟨y4, e4⟩ : ∃ y, (madeA 1)[4]? = some y := ⟨_, Array.getElem?_eq_getElem (by omega)⟩
    obtain ⟨y5, e5⟩ : ∃ y, (madeA 1)[5]? = some y := ⟨_, Array.getElem?_eq_getElem (by omega)⟩
    have HG3 := Lib.hid hGz
    have HB3 := Lib.hid hb3
    have HB1 := Lib.hid hb1
    clear hz hGz hb3 hb1 hms
    gi_wp2_with fail
    go_ret
    have hbw : Below w.heap.size w Wz := by (repeat (first | (with_reducible refine below_set ?_ (by first | exact Nat.le_refl _ | omega) _ _) | with_reducible exact Below.refl _ _ | with_reducible refine belowA ?_ _ | with_reducible refine below_own' ?_ HB3.out | with_reducible refine below_own' ?_ HB1.out | with_reducible refine belowD ?_ | with_reducible refine belowN ?_ _))
    have hgr := six_grown Wz w1.heap.size (0 * 6) a
    have hbf : Below w.heap.size w (six Wz w1.heap.size (0 * 6) a) := hbw.grown hgr hbw.size (fun t e => by cases e; omega)
    refine ⟨w1.heap.size, rfl, by omega, ⟨?_, fun b hb => (by rw [List.mem_singleton.1 hb]; exact HA.out.below hbf), fun b hb => (by rw [List.mem_singleton.1 hb]; exact haf), fun b hb x hx => (by rw [List.mem_singleton.1 hb] at hx; exact ⟨Nat.lt_of_lt_of_le (HOFF.out x hx) hbf.size, fun e => by have := HOFF.out x hx; have e2 := Option.some.inj e; simp at e2; omega⟩), fun e => by simp at e⟩, hbf⟩
    refine own_final (m := 1) (l := [a]) a 0 HG3.out (by omega) rfl (by omega) (madeA_size 1) ?_
    apply List.ext_getElem?
    intro t
    rw [set6_at _ _ _ _ _ _ _ _ _ (by rw [Array.length_toList, madeA_size]; omega)]
    by_cases hc : t < 6
    · rw [if_pos (by omega)]; simp [Atr.cells]
    · rw [if_neg (by omega), List.getElem?_eq_none (by rw [Array.length_toList, madeA_size]; omega), List.getElem?_eq_none (by rw [flat_len]; simp; omega)]
/-- What becomes of the blocks. -/
def PutBlk (w w' : World) (v v' : Value) : Prop := (v' = v ∧ ∃ g, v.ownBlock = some g ∧ w.grownBy w' (some g)) ∨ (∃ g, v'.ownBlock = some g ∧ w.heap.size ≤ g ∧ Below w.heap.size w w')
theorem put_any (v : Value) (l : List Atr) (base : Nat) (a : Atr) (w : World) (ho : AtrOwn w base v l) (hl : l.length ≤ 100000) (hr : Rises l) (ha : a.Lies w) (haf : a.Fits) (hbase : base ≤ w.heap.size)
    (hoff : ∀ x, (a.ia = some x ∨ a.ta = some x) → x.block < w.heap.size ∧ v.ownBlock ≠ some x.block) :
    Calls Tryz.prog 40 #[v, a.val] w fun e w' => ∃ v' l', e = .returned v' ∧ AtrOwn w' base v' l' ∧ l'.map Atr.dat = setD (l.map Atr.dat) a.dat ∧ (∀ b ∈ l', b ∈ l ∨ b = a) ∧ PutBlk w w' v v' := by
  cases hf : foundB l a.name with
  | true =>
    refine (put_found v l base a w ho hl hr hf ha haf hoff).mono ?_
    rintro e w' ⟨he, h1, h2⟩
    refine ⟨v, _, he, h1, ?_, fun b hb => List.mem_or_eq_of_mem_set hb, .inl ⟨rfl, h2⟩⟩
    unfold setD
    rw [show a.dat.name = a.name from rfl, ← foundD_eq, hf, if_pos rfl, ← lowerD_eq, List.map_set]
  | false =>
    have hd : (l.take (lowerB l a.name) ++ a :: l.drop (lowerB l a.name)).map Atr.dat = setD (l.map Atr.dat) a.dat := by
      unfold setD
      rw [show a.dat.name = a.name from rfl, ← foundD_eq, hf, if_neg (by simp), ← lowerD_eq]
      simp [List.map_take, List.map_drop]
    have hm : ∀ b ∈ l.take (lowerB l a.name) ++ a :: l.drop (lowerB l a.name), b ∈ l ∨ b = a := by
      intro b hb
      rcases List.mem_append.1 hb with hb | hb
      · exact .inl (List.mem_of_mem_take hb)
      · rcases List.mem_cons.1 hb with rfl | hb
        · exact .inr rfl
        · exact .inl (List.mem_of_mem_drop hb)
    have hown : ∀ {w' : World} {v' : Value} {l' : List Atr}, AtrOwn w' w.heap.size v' l' → AtrOwn w' base v' l' := fun h => ⟨⟨h.own.1, h.own.2.imp id fun ⟨g, cap, cur, a1, a2, r⟩ => ⟨g, cap, cur, a1, Nat.le_trans hbase a2, r⟩⟩, h.lies, h.fits, h.off, h.nil⟩
    rcases Nat.eq_zero_or_pos l.length with h0 | h0
    · obtain rfl := List.length_eq_zero_iff.1 h0
      obtain rfl := ho.nil rfl
      refine (put_emp a w ha haf (fun x hx => (hoff x hx).1)).mono ?_
      rintro e w' ⟨g, he, hg, h1, hb⟩
      exact ⟨_, _, he, hown h1, hd, hm, .inr ⟨g, rfl, hg, hb⟩⟩
    · rcases Nat.lt_or_ge (lowerB l a.name) l.length with h1 | h1
      · refine (put_mid v l base a w ho hl hr hf h1 ha haf (fun x hx => (hoff x hx).1)).mono ?_
        rintro e w' ⟨g, he, hg, h1, hb⟩
        exact ⟨_, _, he, hown h1, hd, hm, .inr ⟨g, rfl, hg, hb⟩⟩
      · refine (put_end v l base a w ho hl hr hf (by have := lower_le l a.name; omega) h0 ha haf (fun x hx => (hoff x hx).1)).mono ?_
        rintro e w' ⟨g, he, hg, h1, hb⟩
        exact ⟨_, _, he, hown h1, hd, hm, .inr ⟨g, rfl, hg, hb⟩⟩
end Go.Proofs.YtmepjbjmjbpchaaGreatDoor
end
section
/- Rising lists of data: setD keeps them so; the reference's way to set. -/
namespace Go.Proofs.YtmepjbjmjbpchaaGreatDoor
open Go Go.RowKit
set_option linter.unusedVariables false
set_option linter.unusedSimpArgs false

theorem risesD_pw (l : List Dat) : RisesD l ↔ l.Pairwise fun a b => nmLt a.name b.name = true := by
  rw [List.pairwise_iff_getElem]
  constructor
  · intro h i j hi hj hij; exact h i j hij hj
  · intro h i j hij hj; exact h i j (by omega) hj hij
theorem nm_ne_lt {s t : ByteArray} (h : nmLt t s = false) (hne : t ≠ s) : nmLt s t = true := by
  cases hx : nmLt s t with
  | true => rfl
  | false => exact absurd (nm_total h hx) hne
/-- The list with a name set, element by element. -/
def insD (d : Dat) : List Dat → List Dat
  | [] => [d]
  | a :: l => if nmLt a.name d.name then a :: insD d l else if a.name = d.name then d :: l else d :: a :: l
theorem setD_eq : ∀ (l : List Dat) (d : Dat), setD l d = insD d l
  | [], d => rfl
  | a :: l, d => by
    have ih := setD_eq l d
    unfold insD
    by_cases h : nmLt a.name d.name = true
    · rw [if_pos h, ← ih]
      have hl : lowerD (a :: l) d.name = lowerD l d.name + 1 := by unfold lowerD; simp [List.takeWhile_cons, h]
      have hf : foundD (a :: l) d.name = foundD l d.name := by unfold foundD; rw [hl]; simp
      unfold setD
      rw [hl, hf]
      split <;> simp
    · rw [if_neg h]
      have hl : lowerD (a :: l) d.name = 0 := by unfold lowerD; simp [List.takeWhile_cons, h]
      have hf : foundD (a :: l) d.name = decide (a.name = d.name) := by unfold foundD; rw [hl]; simp
      unfold setD
      rw [hl, hf]
      by_cases h2 : a.name = d.name
      · rw [if_pos h2, if_pos (by simpa using h2)]; simp
      · rw [if_neg h2, if_neg (by simpa using h2)]; simp
theorem insD_mem {d b : Dat} : ∀ {l : List Dat}, b ∈ insD d l → b = d ∨ b ∈ l
  | [], h => by simp [insD] at h; exact .inl h
  | a :: l, h => by
    unfold insD at h
    split at h
    · rcases List.mem_cons.1 h with rfl | h
      · exact .inr (List.mem_cons_self ..)
      · rcases insD_mem h with h | h
        · exact .inl h
        · exact .inr (List.mem_cons_of_mem _ h)
    · split at h
      · rcases List.mem_cons.1 h with rfl | h
        · exact .inl rfl
        · exact .inr (List.mem_cons_of_mem _ h)
      · rcases List.mem_cons.1 h with rfl | h
        · exact .inl rfl
        · exact .inr h
theorem insD_rises {d : Dat} : ∀ {l : List Dat}, RisesD l → RisesD (insD d l)
  | [], _ => fun i j hi hj => by simp [insD] at hj; omega
  | a :: l, h => by
    rw [risesD_pw] at h ⊢
    obtain ⟨h1, h2⟩ := List.pairwise_cons.1 h
    have ih := (risesD_pw _).1 (insD_rises (d := d) ((risesD_pw l).2 h2))
    unfold insD
    split
    · rename_i hlt
      refine List.pairwise_cons.2 ⟨fun b hb => ?_, ih⟩
      rcases insD_mem hb with rfl | hb
      · exact hlt
      · exact h1 b hb
    · rename_i hlt
      split
      · rename_i he
        exact List.pairwise_cons.2 ⟨fun b hb => by rw [← he]; exact h1 b hb, h2⟩
      · rename_i hne
        have hd : nmLt d.name a.name = true := nm_ne_lt (by simpa using hlt) hne
        refine List.pairwise_cons.2 ⟨fun b hb => ?_, h⟩
        rcases List.mem_cons.1 hb with rfl | hb
        · exact hd
        · exact nm_trans hd (h1 b hb)
theorem setD_rises {l : List Dat} (h : RisesD l) (d : Dat) : RisesD (setD l d) := by rw [setD_eq]; exact insD_rises h
theorem insD_len {d : Dat} : ∀ l : List Dat, (insD d l).length ≤ l.length + 1
  | [] => by simp [insD]
  | a :: l => by
    unfold insD
    have := insD_len (d := d) l
    split
    · simp; omega
    · split <;> simp
theorem setD_len (l : List Dat) (d : Dat) : (setD l d).length ≤ l.length + 1 := by rw [setD_eq]; exact insD_len l
def mergeD (l m : List Dat) : List Dat := m.foldl setD l
/-- The reference's loop: the elements up to some place, and whether the new one is in. -/
def rsetD (d : Dat) : List Dat → List Dat × Bool → List Dat × Bool
  | [], r => r
  | a :: l, (out, done) =>
    let p := if !done && !nmLt a.name d.name then (out ++ [d], true) else (out, done)
    rsetD d l (if a.name = d.name then p.1 else p.1 ++ [a], p.2)
def rsetAll (l : List Dat) (d : Dat) : List Dat := let r := rsetD d l ([], false); if r.2 then r.1 else r.1 ++ [d]
theorem rsetD_done {d : Dat} : ∀ (l out : List Dat), (∀ a ∈ l, a.name ≠ d.name) → rsetD d l (out, true) = (out ++ l, true)
  | [], out, _ => by simp [rsetD]
  | a :: l, out, h => by
    unfold rsetD
    simp only [Bool.not_true, Bool.false_and]
    rw [if_neg (h a (List.mem_cons_self ..))]
    simp only [Bool.false_eq_true, if_false]
    rw [rsetD_done l _ fun b hb => h b (List.mem_cons_of_mem _ hb)]
    simp
theorem rset_ins {d : Dat} : ∀ (l out : List Dat), RisesD l → (let r := rsetD d l (out, false); if r.2 then r.1 else r.1 ++ [d]) = out ++ insD d l
  | [], out, _ => by simp [rsetD, insD]
  | a :: l, out, h => by
    rw [risesD_pw] at h
    obtain ⟨h1, h2⟩ := List.pairwise_cons.1 h
    unfold rsetD insD
    by_cases hlt : nmLt a.name d.name = true
    · have hne : a.name ≠ d.name := fun e => by rw [e, nm_irrefl] at hlt; cases hlt
      simp only [hlt, Bool.not_false, Bool.not_true, Bool.and_false, Bool.false_eq_true, if_false, if_true, if_neg hne]
      rw [rset_ins l (out ++ [a]) ((risesD_pw l).2 h2)]
      simp
    · have hlt' : nmLt a.name d.name = false := by simpa using hlt
      simp only [hlt', Bool.not_false, Bool.and_self, if_true, Bool.false_eq_true, if_false]
      have hoff : ∀ b ∈ l, b.name ≠ d.name := by
        intro b hb e
        have h3 := h1 b hb
        rw [e, hlt'] at h3; cases h3
      by_cases he : a.name = d.name
      · rw [if_pos he, if_pos he, rsetD_done l _ hoff]; simp
      · rw [if_neg he, if_neg he, rsetD_done l _ hoff]; simp
theorem rsetAll_eq {l : List Dat} (h : RisesD l) (d : Dat) : rsetAll l d = setD l d := by
  rw [setD_eq]; have := rset_ins (d := d) l [] h; unfold rsetAll; simpa using this
end Go.Proofs.YtmepjbjmjbpchaaGreatDoor
end
section
/- attrs.Merge, attrs.Set. -/
namespace Go.Proofs.YtmepjbjmjbpchaaGreatDoor
open Go Go.RowKit Go.Sort
set_option linter.unusedVariables false
set_option linter.unusedSimpArgs false

theorem AtrOwn.mono {w : World} {base base' : Nat} {v : Value} {l : List Atr} (h : AtrOwn w base v l) (hb : base' ≤ base) : AtrOwn w base' v l :=
  ⟨⟨h.own.1, h.own.2.imp id fun ⟨g, cap, cur, a1, a2, r⟩ => ⟨g, cap, cur, a1, Nat.le_trans hb a2, r⟩⟩, h.lies, h.fits, h.off, h.nil⟩
theorem AtrOwn.grown {w w' : World} {base : Nat} {v : Value} {l : List Atr} {row : Option Nat} (h : AtrOwn w base v l) (hg : w.grownBy w' row) (hne : v.ownBlock = none ∨ v.ownBlock ≠ row)
    (hl : ∀ a ∈ l, ∀ x, (a.ia = some x ∨ a.ta = some x) → row ≠ some x.block) : AtrOwn w' base v l :=
  ⟨h.own.kept hg hne, fun a ha => (h.lies a ha).grown hg (hl a ha), h.fits, fun a ha x hx => ⟨Nat.lt_of_lt_of_le (h.off a ha x hx).1 hg.size, (h.off a ha x hx).2⟩, h.nil⟩
/-- The list v2 lies apart from the row of v. -/
def Apart (v v2 : Value) (m : List Atr) : Prop := ∀ g, v.ownBlock = some g → v2.ownBlock ≠ some g ∧ ∀ b ∈ m, ∀ x, (b.ia = some x ∨ b.ta = some x) → x.block ≠ g
theorem mergeD_rises : ∀ (m l : List Dat), RisesD l → RisesD (mergeD l m)
  | [], l, h => h
  | d :: m, l, h => mergeD_rises m (setD l d) (setD_rises h d)
theorem mergeD_len : ∀ (m l : List Dat), (mergeD l m).length ≤ l.length + m.length
  | [], l => Nat.le_refl _
  | d :: m, l => by
    have h1 := mergeD_len m (setD l d)
    have h2 := setD_len l d
    show (mergeD (setD l d) m).length ≤ _
    simp; omega
theorem mergeD_snoc (l m : List Dat) (d : Dat) : mergeD l (m ++ [d]) = setD (mergeD l m) d := by unfold mergeD; rw [List.foldl_append]; rfl
structure MgI (w : World) (l m : List Dat) (v2 : Value) (m1 : List Atr) (j : Nat) (v : Value) (l' : List Atr) (wr : World) : Prop where
  out : AtrOwn wr w.heap.size v l'
  arg : AtrOwn wr w.heap.size v2 m1
  off : Apart v v2 m1
  dat : l'.map Atr.dat = mergeD l (m.take j)
  below : Below w.heap.size w wr
theorem MgI.step {w W1 w5 : World} {l m : List Dat} {v2 v v' : Value} {m1 l' l'' : List Atr} {j : Nat} {a0 : Atr} (h : MgI w l m v2 m1 j v l' W1) (hm : m1.map Atr.dat = m) (hj : j < m1.length) (ha : a0 = m1[j])
    (ho : AtrOwn w5 w.heap.size v' l'') (hd : l''.map Atr.dat = setD (l'.map Atr.dat) a0.dat) (hp : PutBlk W1 w5 v v') : MgI w l m v2 m1 (j + 1) v' l'' w5 := by
  have hdat : l''.map Atr.dat = mergeD l (m.take (j + 1)) := by
    have hjm : j < m.length := by rw [← hm]; simpa using hj
    rw [List.take_succ_eq_append_getElem hjm, mergeD_snoc, hd, h.dat]
    congr 1
    subst hm; rw [ha]; simp
  rcases hp with ⟨rfl, g, hg, hgr⟩ | ⟨g, hg, hge, hb⟩
  · have hap := h.off g hg
    exact ⟨ho, h.arg.grown hgr (.inr hap.1) (fun b hb x hx e => hap.2 b hb x hx (Option.some.inj e).symm), h.off, hdat, h.below.grown hgr h.below.size (fun k hk => by cases hk; exact (h.out.own.lt _ hg).1)⟩
  · refine ⟨ho, h.arg.below hb, fun k hk => ?_, hdat, below_own' h.below hb⟩
    rw [hg] at hk; cases hk
    exact ⟨fun e => by have := (h.arg.own.lt _ e).2; omega, fun b hb x hx e => by have := (h.arg.off b hb x hx).1; omega⟩

def MgPost (l m : List Atr) (w : World) (e : Ending) (w' : World) : Prop :=
  Below w.heap.size w w' ∧ if rightL l && rightL m then (if 100 < (mergeD (l.map Atr.dat) (m.map Atr.dat)).length then e = .returned (.tuple #[.slice none 0 0, .int .i64 2]) else
    ∃ v l', e = .returned (.tuple #[v, .int .i64 0]) ∧ AtrOwn w' w.heap.size v l' ∧ l'.map Atr.dat = mergeD (l.map Atr.dat) (m.map Atr.dat)) else e = .returned (.tuple #[.slice none 0 0, .int .i64 20])

set_option maxRecDepth 100000 in
set_option maxHeartbeats 8000000 in
theorem merge_no (p q : Option Addr) (c d : Nat) (l m : List Atr) (w : World) (hs : AtrSl w p l) (hs2 : AtrSl w q m) (hl : l.length ≤ 100000000000000) (hm : m.length ≤ 100000000000000) (h : (rightL l && rightL m) = false) :
    Calls Tryz.prog 18 #[.slice p l.length c, .slice q m.length d] w (MgPost l m w) := by
  have HP : ∀ w', Below w.heap.size w w' → MgPost l m w (.returned (.tuple #[.slice none 0 0, .int .i64 20])) w' := fun w' hb => ⟨hb, by rw [h]; rfl⟩
  have HP' := Lib.hid HP
  have HC := Lib.hid (check_any' p c l w hs hl)
  have HS2 := Lib.hid hs2
  clear HP hs hs2
  cases hr : rightL l with
  | false =>
    have HR := Lib.hid hr
    clear h hr
    go_enter Tryz.func18, Tryz.ntmps18
    go_wp2_with (go_at_call 19; refine HC.out.mono ?_; rintro e w1 ⟨rfl, hb1⟩; rw [HR.out]; simp only [Bool.false_eq_true, if_false])
    go_ret2
    exact HP'.out _ hb1
  | true =>
    have HR := Lib.hid hr
    have HR2 : Hid (rightL m = false) := Lib.hid (by rw [hr] at h; simpa using h)
    clear h hr
    go_enter Tryz.func18, Tryz.ntmps18
    go_wp2_with (first
      | (go_at_call 19; have tok := tok1; clear tok tok1; refine (check_any' q d m w1 (HS2.out.below hb1) hm).mono ?_; rintro e w2 ⟨rfl, hb2⟩; rw [HR2.out]; simp only [Bool.false_eq_true, if_false])
      | (go_at_call 19; refine HC.out.mono ?_; rintro e w1 ⟨rfl, hb1⟩; rw [HR.out]; simp only [if_true]; have tok1 : True := trivial))
    go_ret2
    exact HP'.out _ (below_own' hb1 hb2)
theorem right_len {l : List Atr} (h : rightL l = true) : l.length ≤ 100 := by
  unfold rightL at h; rw [Bool.and_eq_true] at h; simpa using h.1
theorem dat_len {l l' : List Atr} (h : l'.map Atr.dat = l.map Atr.dat) : l'.length = l.length := by simpa using congrArg List.length h

set_option maxRecDepth 100000 in
set_option maxHeartbeats 8000000 in
theorem merge_yes (p q : Option Addr) (c d : Nat) (l m : List Atr) (w : World) (hs : AtrSl w p l) (hs2 : AtrSl w q m) (h1 : rightL l = true) (h2 : rightL m = true) :
    Calls Tryz.prog 18 #[.slice p l.length c, .slice q m.length d] w (MgPost l m w) := by
  have hl := right_len h1
  have hm := right_len h2
  have HC := Lib.hid (check_any' p c l w hs (by omega))
  have HS := Lib.hid hs
  have HS2 := Lib.hid hs2
  have HR := Lib.hid h1
  have HR2 := Lib.hid h2
  clear hs hs2 h1 h2
  go_enter Tryz.func18, Tryz.ntmps18
  go_wp2_with (first
    | (go_at_call 39; have tok := tok3; clear tok tok3; refine Calls.mono (attrs_any q d m _ (HS2.out.below (below_own' (below_own' HB1.out HB2.out) HB3.out)) (by omega)) ?_; rintro e w4 ⟨v2, m1, rfl, ho2, hd2, hfr2, hb4⟩; obtain ⟨pv2, pc2, rfl, -⟩ := own_form ho2.own; have HB4 := Lib.hid hb4; have HO2 := Lib.hid ho2; have HD2 := Lib.hid hd2; have HFR2 := Lib.hid hfr2; clear hb4 ho2 hd2 hfr2)
    | (go_at_call 39; have tok := tok2; clear tok tok2; refine Calls.mono (attrs_any p c l _ (HS.out.below (below_own' HB1.out HB2.out)) (by omega)) ?_; rintro e w3 ⟨v1, l1, rfl, ho1, hd1, -, hb3⟩; have HB3 := Lib.hid hb3; have HO1 := Lib.hid ho1; have HD1 := Lib.hid hd1; clear hb3 ho1 hd1; have tok3 : True := trivial)
    | (go_at_call 19; have tok := tok1; clear tok tok1; refine (check_any' q d m w1 (HS2.out.below HB1.out) (by omega)).mono ?_; rintro e w2 ⟨rfl, hb2⟩; rw [HR2.out]; simp only [if_true]; have HB2 := Lib.hid hb2; clear hb2; have tok2 : True := trivial)
    | (go_at_call 19; refine HC.out.mono ?_; rintro e w1 ⟨rfl, hb1⟩; rw [HR.out]; simp only [if_true]; have HB1 := Lib.hid hb1; clear hb1; have tok1 : True := trivial))
  obtain ⟨M, hM⟩ : ∃ M, M = m1.length := ⟨_, rfl⟩
  have hM2 : Hid (M = m.length) := Lib.hid (by rw [hM]; exact dat_len HD2.out)
  have hM3 : M ≤ 100 := by rw [hM2.out]; exact hm
  rw [← hM]
  have HM := Lib.hid hM
  clear hM
  go_loopw [6, 22] (fun v i wr => ∃ (j : Nat) (l' : List Atr), i = .int .i64 j ∧ j ≤ M ∧ MgI w (l.map Atr.dat) (m.map Atr.dat) (.slice pv2 m1.length pc2) m1 j v l' wr) (fun _ i _ => M - (intOf i).toNat)
  case atStart =>
    have hb4 : Below w.heap.size w w4 := below_own' (below_own' (below_own' HB1.out HB2.out) HB3.out) HB4.out
    have hb24 : w.heap.size ≤ w2.heap.size := (below_own' HB1.out HB2.out).size
    refine ⟨0, l1, rfl, Nat.zero_le _, (HO1.out.below HB4.out).mono hb24, HO2.out.mono (Nat.le_trans hb24 HB3.out.size), fun g hg => ?_, by rw [HD1.out]; rfl, hb4⟩
    have hg3 := (HO1.out.own.lt g hg).2
    refine ⟨fun e => ?_, fun b hb x hx e => ?_⟩
    · have := (HO2.out.own.lt g e).1; omega
    · have := HFR2.out b hb x hx; omega
  case round =>
    obtain ⟨j, l', rfl, hj, hi⟩ := hrel
    have HI := Lib.hid hi
    obtain ⟨pv, pc, rfl, -⟩ := own_form hi.out.own
    have hll := mergeD_len ((m.map Atr.dat).take j) (l.map Atr.dat)
    rw [← hi.dat] at hll
    have hll2 : l'.length ≤ 200 := by simp at hll; omega
    clear hi hll
    rcases Nat.lt_or_ge j M with hlt | hge
    · have hlt1 : j < m1.length := by rw [← HM.out]; exact hlt
      have hsl := HI.out.arg.sl
      obtain ⟨g, off, rfl, hzg, hrow⟩ := hsl.row hlt1
      obtain ⟨a0, ha0⟩ : ∃ a0, a0 = m1[j] := ⟨_, rfl⟩
      have hcj := hrow _ hlt1
      rw [← ha0] at hcj
      have hmem : a0 ∈ m1 := by rw [ha0]; exact List.getElem_mem _
      have HLI := Lib.hid (hsl.lies a0 hmem)
      have HFI := Lib.hid (hsl.fits a0 hmem)
      have HA0 := Lib.hid ha0
      have hri : Rises l' := (risesD_iff l').2 (by rw [HI.out.dat]; exact mergeD_rises _ _ ((risesD_iff l).1 (rises_of_right HR.out)))
      have hoff : ∀ x, (a0.ia = some x ∨ a0.ta = some x) → x.block < wr.heap.size ∧ (Value.slice pv l'.length pc).ownBlock ≠ some x.block := fun x hx => ⟨(HI.out.arg.off a0 hmem x hx).1, fun e => (HI.out.off _ e).2 a0 hmem x hx rfl⟩
      have HRI := Lib.hid hri
      have HOFF := Lib.hid hoff
      have hj0 : (0 : Int) ≤ (j : Int) := by omega
      have hjl : (j : Int) < (M : Int) := by omega
      clear ha0 hrow hsl hmem hri hoff
      obtain ⟨k0, k1, k2, k3, k4, k5⟩ := hcj
      have hb1 : Below wr.heap.size wr (wr.alloc (.cells (avCells a0.name a0.kind a0.num a0.text a0.ia a0.ints.length a0.ic a0.ta a0.texts.length a0.tc) 27)) := by (repeat (first | (with_reducible refine below_set ?_ (by first | exact Nat.le_refl _ | omega) _ _) | with_reducible exact Below.refl _ _ | with_reducible refine belowA ?_ _ | with_reducible refine belowD ?_ | with_reducible refine belowN ?_ _))
      have HPUT := Lib.hid (put_any (.slice pv l'.length pc) l' w.heap.size a0 _ (HI.out.out.below hb1) (by omega) HRI.out (HLI.out.below hb1) HFI.out (by have := HI.out.below.size; simp; omega) (fun x hx => ⟨Nat.lt_of_lt_of_le (HOFF.out x hx).1 hb1.size, (HOFF.out x hx).2⟩))
      have HI1 : Hid (MgI w (l.map Atr.dat) (m.map Atr.dat) (.slice (some ⟨g, off, none⟩) m1.length pc2) m1 j (.slice pv l'.length pc) l' (wr.alloc (.cells (avCells a0.name a0.kind a0.num a0.text a0.ia a0.ints.length a0.ic a0.ta a0.texts.length a0.tc) 27))) :=
        Lib.hid ⟨HI.out.out.below hb1, HI.out.arg.below hb1, HI.out.off, HI.out.dat, below_own' HI.out.below hb1⟩
      clear hb1
      go_wp2_with (go_at_call 40; refine HPUT.out.mono ?_; rintro e w5 ⟨v', l5, rfl, ho5, hd5, -, hp5⟩; have HI5 := Lib.hid (HI1.out.step HD2.out hlt1 HA0.out ho5 hd5 hp5); clear ho5 hd5 hp5)
      go_roundw
      case rel => exact ⟨j + 1, l5, by go_num, by omega, HI5.out⟩
      case measure => simp [intOf]; omega
    · obtain rfl : j = M := by omega
      have hdat : l'.map Atr.dat = mergeD (l.map Atr.dat) (m.map Atr.dat) := by
        rw [HI.out.dat, List.take_of_length_le (by rw [List.length_map, ← hM2.out]; omega)]
      have hlen : l'.length = (mergeD (l.map Atr.dat) (m.map Atr.dat)).length := by rw [← hdat, List.length_map]
      have HDAT := Lib.hid hdat
      have HLEN := Lib.hid hlen
      clear hdat hlen
      rcases Nat.lt_or_ge 100 l'.length with h100 | h100
      · have h1 : (100 : Int) < (l'.length : Int) := by omega
        go_wp2_with fail
        go_ret2
        refine ⟨HI.out.below, ?_⟩
        rw [HR.out, HR2.out, ← HLEN.out]
        simp only [Bool.and_self, if_true]
        rw [if_pos h100]
        rfl
      · have h1 : ¬ (100 : Int) < (l'.length : Int) := by omega
        go_wp2_with fail
        go_ret2
        refine ⟨HI.out.below, ?_⟩
        rw [HR.out, HR2.out, ← HLEN.out]
        simp only [Bool.and_self, if_true]
        rw [if_neg (by omega)]
        exact ⟨_, l', rfl, HI.out.out, HDAT.out⟩
theorem merge_any (p q : Option Addr) (c d : Nat) (l m : List Atr) (w : World) (hs : AtrSl w p l) (hs2 : AtrSl w q m) (hl : l.length ≤ 100000000000000) (hm : m.length ≤ 100000000000000) :
    Calls Tryz.prog 18 #[.slice p l.length c, .slice q m.length d] w (MgPost l m w) := by
  cases h : (rightL l && rightL m) with
  | false => exact merge_no p q c d l m w hs hs2 hl hm h
  | true =>
    rw [Bool.and_eq_true] at h
    exact merge_yes p q c d l m w hs hs2 h.1 h.2
end Go.Proofs.YtmepjbjmjbpchaaGreatDoor
end
section
/- attrs.Set, attrs.Get. -/
namespace Go.Proofs.YtmepjbjmjbpchaaGreatDoor
open Go Go.RowKit Go.Sort
set_option linter.unusedVariables false
set_option linter.unusedSimpArgs false

theorem atrSl_block {W : World} {G : Nat} {a : Atr} (h : W.heap[G]? = some (.cells (avCells a.name a.kind a.num a.text a.ia a.ints.length a.ic a.ta a.texts.length a.tc) 27 (0, 0))) (hl : a.Lies W) (hf : a.Fits) : AtrSl W (some ⟨G, 0, none⟩) [a] := by
  refine ⟨.inr ⟨G, 0, rfl, blkLt h, fun j hj i hi => ?_⟩, fun b hb => by rw [List.mem_singleton.1 hb]; exact hl, fun b hb => by rw [List.mem_singleton.1 hb]; exact hf⟩
  obtain rfl : j = 0 := by simpa using hj
  rw [blkCell h]
  have hi6 : i = 0 ∨ i = 1 ∨ i = 2 ∨ i = 3 ∨ i = 4 ∨ i = 5 := by omega
  rcases hi6 with rfl | rfl | rfl | rfl | rfl | rfl <;> rfl
theorem MgPost.back {l m : List Atr} {w W w' : World} {e : Ending} (h : MgPost l m W e w') (hb : Below w.heap.size w W) : MgPost l m w e w' := by
  refine ⟨below_own' hb h.1, ?_⟩
  have h2 := h.2
  split at h2
  · rw [if_pos (by assumption)]
    split at h2
    · rw [if_pos (by assumption)]; exact h2
    · rw [if_neg (by assumption)]
      obtain ⟨v, l', he, ho, hd⟩ := h2
      exact ⟨v, l', he, ho.mono hb.size, hd⟩
  · rw [if_neg (by assumption)]; exact h2
set_option maxRecDepth 100000 in
set_option maxHeartbeats 4000000 in
theorem set_any (p : Option Addr) (c : Nat) (l : List Atr) (a : Atr) (w : World) (hs : AtrSl w p l) (hl : l.length ≤ 100000000000000) (ha : a.Lies w) (hf : a.Fits) :
    Calls Tryz.prog 13 #[.slice p l.length c, a.val] w (MgPost l [a] w) := by
  have hb2 : Below w.heap.size w ((w.alloc (.cells (avCells a.name a.kind a.num a.text a.ia a.ints.length a.ic a.ta a.texts.length a.tc) 27)).alloc (.cells (avCells a.name a.kind a.num a.text a.ia a.ints.length a.ic a.ta a.texts.length a.tc) 27)) := by (repeat (first | (with_reducible refine below_set ?_ (by first | exact Nat.le_refl _ | omega) _ _) | with_reducible exact Below.refl _ _ | with_reducible refine belowA ?_ _ | with_reducible refine belowD ?_ | with_reducible refine belowN ?_ _))
  have HM := Lib.hid ((merge_any p (some ⟨w.heap.size + 1, 0, none⟩) c 1 l [a] _ (hs.below hb2) (atrSl_block (heap_alloc_new' _ _ (by simp)) (ha.below hb2) hf) hl (by simp)).mono fun e w' h => h.back hb2)
  clear hb2 hs ha
  go_enter Tryz.func13, Tryz.ntmps13
  have hfin : ∀ e w', MgPost l [a] w e w' → ∃ v n, e = .returned (.tuple #[v, .int .i64 n]) := by
    rintro e w' ⟨_, h⟩
    split at h
    · split at h
      · exact ⟨_, _, h⟩
      · obtain ⟨v, _, h, _⟩ := h; exact ⟨_, _, h⟩
    · exact ⟨_, _, h⟩
  have HFIN := Lib.hid hfin
  clear hfin
  go_wp2_with (go_at_call 18; refine HM.out.mono ?_; intro e w1 hp; obtain ⟨v, n, rfl⟩ := HFIN.out _ _ hp; have HP := Lib.hid hp; clear hp)
  go_ret2
  exact HP.out

def zAt : Value := .agg #[.string ⟨#[]⟩, .int .i64 0, .int .i64 0, .string ⟨#[]⟩, .slice none 0 0, .slice none 0 0]
def GetPost (l : List Atr) (s : ByteArray) (w : World) (e : Ending) (w' : World) : Prop :=
  Below w.heap.size w w' ∧ if rightL l then (if foundB l s then ∃ b : Atr, e = .returned (.tuple #[b.val, .int .i64 0]) ∧ b.Lies w' ∧ b.Fits ∧ (l.map Atr.dat)[lowerB l s]? = some b.dat else e = .returned (.tuple #[zAt, .int .i64 4])) else e = .returned (.tuple #[zAt, .int .i64 20])
set_option maxRecDepth 100000 in
set_option maxHeartbeats 4000000 in
theorem get_no (p : Option Addr) (c : Nat) (l : List Atr) (s : ByteArray) (w : World) (hs : AtrSl w p l) (hl : l.length ≤ 100000000000000) (h : rightL l = false ∨ (rightL l = true ∧ foundB l s = false)) :
    Calls Tryz.prog 34 #[.slice p l.length c, .string s] w (GetPost l s w) := by
  have hb0 : Below w.heap.size w (w.alloc (.cells #[.string ⟨#[]⟩, .int .i64 0, .int .i64 0, .string ⟨#[]⟩, .slice none 0 0, .slice none 0 0] 27)) := by (repeat (first | (with_reducible refine below_set ?_ (by first | exact Nat.le_refl _ | omega) _ _) | with_reducible exact Below.refl _ _ | with_reducible refine belowA ?_ _ | with_reducible refine belowD ?_ | with_reducible refine belowN ?_ _))
  have HC := Lib.hid (check_any' p c l _ (hs.below hb0) hl)
  have HS := Lib.hid hs
  clear hb0 hs
  rcases h with h | ⟨h, h2⟩
  · have HR := Lib.hid h
    have HP : Hid (∀ w', Below w.heap.size w w' → GetPost l s w (.returned (.tuple #[zAt, .int .i64 20])) w') := Lib.hid fun w' hb => ⟨hb, by rw [h]; rfl⟩
    clear h
    go_enter Tryz.func34, Tryz.ntmps34
    go_wp2_with (go_at_call 19; refine HC.out.mono ?_; rintro e w1 ⟨rfl, hb1⟩; rw [HR.out]; simp only [Bool.false_eq_true, if_false]; have c0 := rdCell hb1 w.heap.size (by simp); have f0 := rdFree hb1 w.heap.size (by simp); have hzw1 : w.heap.size < w1.heap.size := (by have := Below.size hb1; simp at this; omega))
    refine bodyPost_ret (v := .tuple #[zAt, .int .i64 20]) (by simp [results, Tryz.results34, go_sem, c0, hzw1, zAt]) rfl ?_
    refine HP.out _ ?_
    (repeat (first | (with_reducible refine below_set ?_ (by first | exact Nat.le_refl _ | omega) _ _) | with_reducible exact Below.refl _ _ | with_reducible refine belowA ?_ _ | with_reducible refine below_own' ?_ hb1 | with_reducible refine belowD ?_ | with_reducible refine belowN ?_ _))
  · have HR := Lib.hid h
    have HF := Lib.hid h2
    have HRI := Lib.hid (rises_of_right h)
    have HP : Hid (∀ w', Below w.heap.size w w' → GetPost l s w (.returned (.tuple #[zAt, .int .i64 4])) w') := Lib.hid fun w' hb => ⟨hb, by rw [h, h2]; rfl⟩
    clear h h2
    go_enter Tryz.func34, Tryz.ntmps34
    go_wp2_with (first
      | (go_at_call 63; refine Calls.mono (position_any p c l s _ (HS.out.below ?_) hl HRI.out) ?_; (focus ((repeat (first | (with_reducible refine below_set ?_ (by first | exact Nat.le_refl _ | omega) _ _) | with_reducible exact Below.refl _ _ | with_reducible refine belowA ?_ _ | with_reducible refine below_own' ?_ hb1 | with_reducible refine belowD ?_ | with_reducible refine belowN ?_ _)); done)); rintro e w2 ⟨rfl, hb2⟩; rw [HF.out]; have c2 := rdCell hb2 w.heap.size hzw1; have f2 := rdFree hb2 w.heap.size hzw1; have hzw2 : w.heap.size < w2.heap.size := Nat.lt_of_lt_of_le hzw1 hb2.size)
      | (go_at_call 19; refine HC.out.mono ?_; rintro e w1 ⟨rfl, hb1⟩; rw [HR.out]; simp only [if_true]; have c0 := rdCell hb1 w.heap.size (by simp); have f0 := rdFree hb1 w.heap.size (by simp); have hzw1 : w.heap.size < w1.heap.size := (by have := Below.size hb1; simp at this; omega)))
    refine bodyPost_ret (v := .tuple #[zAt, .int .i64 4]) (by simp [results, Tryz.results34, go_sem, c0, c2, hzw2, zAt]) rfl ?_
    refine HP.out _ ?_
    (repeat (first | (with_reducible refine below_set ?_ (by first | exact Nat.le_refl _ | omega) _ _) | with_reducible exact Below.refl _ _ | with_reducible refine belowA ?_ _ | with_reducible refine below_own' ?_ hb2 | with_reducible refine below_own' ?_ hb1 | with_reducible refine belowD ?_ | with_reducible refine belowN ?_ _))
theorem found_at {l : List Atr} {s : ByteArray} (h : foundB l s = true) : ∃ hlt : lowerB l s < l.length, (l[lowerB l s]'hlt).name = s := by
  unfold foundB at h
  cases hx : l[lowerB l s]? with
  | none => rw [hx] at h; cases h
  | some a =>
    rw [hx] at h
    obtain ⟨h1, rfl⟩ := List.getElem?_eq_some_iff.1 hx
    exact ⟨h1, by simpa using h⟩
theorem atrSl_sub {W : World} {g off : Nat} {l : List Atr} (h : AtrSl W (some ⟨g, off, none⟩) l) {i : Nat} (hi : i < l.length) : AtrSl W (some ⟨g, off + i * 6, none⟩) [l[i]] := by
  refine ⟨?_, fun b hb => h.lies b (by rw [List.mem_singleton.1 hb]; exact List.getElem_mem _), fun b hb => h.fits b (by rw [List.mem_singleton.1 hb]; exact List.getElem_mem _)⟩
  rcases h.at' with h | ⟨g', off', he, h2, h3⟩
  · subst h; simp at hi
  · cases he
    refine .inr ⟨g, off + i * 6, rfl, h2, fun j hj k hk => ?_⟩
    obtain rfl : j = 0 := by simpa using hj
    have := h3 i hi k hk
    simpa using this
theorem one_of {l : List Atr} {a : Atr} (h : l.map Atr.dat = [a].map Atr.dat) : ∃ b, l = [b] := by
  have : l.length = 1 := by simpa using congrArg List.length h
  exact List.length_eq_one_iff.1 this
theorem AtrOwn.one {w : World} {base : Nat} {v : Value} {b : Atr} (h : AtrOwn w base v [b]) : ∃ g c, v = .slice (some ⟨g, 0, none⟩) 1 c ∧ w.cell? ⟨g, 0, none⟩ = some (.string b.name) ∧ w.cell? ⟨g, 0 + 1, none⟩ = some (.int .i64 b.kind) ∧ w.cell? ⟨g, 0 + 2, none⟩ = some (.int .i64 b.num) ∧ w.cell? ⟨g, 0 + 3, none⟩ = some (.string b.text) ∧ w.cell? ⟨g, 0 + 4, none⟩ = some (.slice b.ia b.ints.length b.ic) ∧ w.cell? ⟨g, 0 + 5, none⟩ = some (.slice b.ta b.texts.length b.tc) := by
  obtain ⟨g, c, cur, rfl, -⟩ := h.form (by simp)
  obtain ⟨g', off, he, -, hrow⟩ := h.sl.row (j := 0) (by simp)
  cases he
  have := hrow 0 (by simp)
  exact ⟨g, c, rfl, this.c0, this.c1, this.c2, this.c3, this.c4, this.c5⟩
set_option maxRecDepth 100000 in
set_option maxHeartbeats 8000000 in
theorem get_yes (p : Option Addr) (c : Nat) (l : List Atr) (s : ByteArray) (w : World) (hs : AtrSl w p l) (hc : l.length ≤ c) (hr : rightL l = true) (hf : foundB l s = true) :
    Calls Tryz.prog 34 #[.slice p l.length c, .string s] w (GetPost l s w) := by
  have hl := right_len hr
  have hb0 : Below w.heap.size w (w.alloc (.cells #[.string ⟨#[]⟩, .int .i64 0, .int .i64 0, .string ⟨#[]⟩, .slice none 0 0, .slice none 0 0] 27)) := by (repeat (first | (with_reducible refine below_set ?_ (by first | exact Nat.le_refl _ | omega) _ _) | with_reducible exact Below.refl _ _ | with_reducible refine belowA ?_ _ | with_reducible refine belowD ?_ | with_reducible refine belowN ?_ _))
  have HC := Lib.hid (check_any' p c l _ (hs.below hb0) (by omega))
  have HS := Lib.hid hs
  have HR := Lib.hid hr
  have HF := Lib.hid hf
  have HRI := Lib.hid (rises_of_right hr)
  obtain ⟨hlt, hnm⟩ := found_at hf
  obtain ⟨g, off, rfl, hzg, hrow⟩ := hs.row hlt
  obtain ⟨k, hk⟩ : ∃ k, k = lowerB l s := ⟨_, rfl⟩
  have HK := Lib.hid hk
  rw [← hk] at hlt
  have hk0 : (0 : Int) ≤ (k : Int) := by omega
  have hk1 : (k : Int) < (l.length : Int) := by omega
  have hkc : (k : Int) < (c : Int) := by omega
  have hkc2 : (k : Int) + 1 ≤ (c : Int) := by omega
  have hkcn : ¬ c = k := by omega
  have hkt : ((k : Int) + 1).toNat = k + 1 := by omega
  clear hb0 hs hr hf hk hnm hrow
  go_enter Tryz.func34, Tryz.ntmps34
  go_wp2_with (first
    | (go_at_call 39; refine Calls.mono (attrs_any (some ⟨g, off + k * 6, none⟩) 1 [l[k]] _ (atrSl_sub (HS.out.below ?_) hlt) (by simp)) ?_; (focus ((repeat (first | (with_reducible refine below_set ?_ (by first | exact Nat.le_refl _ | omega) _ _) | with_reducible exact Below.refl _ _ | with_reducible refine belowA ?_ _ | with_reducible refine below_own' ?_ HB2.out | with_reducible refine below_own' ?_ HB1.out | with_reducible refine belowD ?_ | with_reducible refine belowN ?_ _)); done)); rintro e w3 ⟨v3, l3, rfl, ho3, hd3, hfr3, hb3⟩; obtain ⟨b, rfl⟩ := one_of hd3; obtain ⟨g3, c3, rfl, q0, q1, q2, q3, q4, q5⟩ := ho3.one; have c0 := fun j => (rdCell hb3 w.heap.size hzw2 j).trans ((rdCell HB2.out w.heap.size hzw1 j).trans (rdCell HB1.out w.heap.size (by simp) j)); have f0 := fun j => (rdFree hb3 w.heap.size hzw2 j).trans ((rdFree HB2.out w.heap.size hzw1 j).trans (rdFree HB1.out w.heap.size (by simp) j)); have hzw3 : w.heap.size < w3.heap.size := Nat.lt_of_lt_of_le hzw2 hb3.size; have HB3 := Lib.hid hb3; have HO3 := Lib.hid ho3; have HD3 := Lib.hid hd3; have HFR3 := Lib.hid hfr3; clear hb3 ho3 hd3 hfr3)
    | (go_at_call 63; refine Calls.mono (position_any _ c l s _ (HS.out.below ?_) (by omega) HRI.out) ?_; (focus ((repeat (first | (with_reducible refine below_set ?_ (by first | exact Nat.le_refl _ | omega) _ _) | with_reducible exact Below.refl _ _ | with_reducible refine belowA ?_ _ | with_reducible refine below_own' ?_ HB1.out | with_reducible refine belowD ?_ | with_reducible refine belowN ?_ _)); done)); rintro e w2 ⟨rfl, hb2⟩; rw [HF.out, ← HK.out]; have hzw2 : w.heap.size < w2.heap.size := Nat.lt_of_lt_of_le hzw1 hb2.size; have HB2 := Lib.hid hb2; clear hb2)
    | (go_at_call 19; refine HC.out.mono ?_; rintro e w1 ⟨rfl, hb1⟩; rw [HR.out]; simp only [if_true]; have hzw1 : w.heap.size < w1.heap.size := (by have := Below.size hb1; simp at this; omega); have HB1 := Lib.hid hb1; clear hb1))
  refine bodyPost_ret (v := .tuple #[b.val, .int .i64 0]) (by simp [results, Tryz.results34, go_sem, c0, hzw3]) rfl ?_
  have hbw : Below w.heap.size w w3 := by (repeat (first | (with_reducible refine below_set ?_ (by first | exact Nat.le_refl _ | omega) _ _) | with_reducible exact Below.refl _ _ | with_reducible refine belowA ?_ _ | with_reducible refine below_own' ?_ HB3.out | with_reducible refine below_own' ?_ HB2.out | with_reducible refine below_own' ?_ HB1.out | with_reducible refine belowD ?_ | with_reducible refine belowN ?_ _))
  have hgr := six_grown w3 w.heap.size 0 b
  have hbf : Below w.heap.size w (six w3 w.heap.size 0 b) := hbw.grown hgr hbw.size (fun t e => by cases e; exact Nat.le_refl _)
  refine ⟨hbf, ?_⟩
  rw [HR.out, HF.out]
  simp only [if_true]
  refine ⟨b, rfl, (HO3.out.lies b (by simp)).grown hgr (fun x hx e => ?_), HO3.out.fits b (by simp), ?_⟩
  · have h1 := HFR3.out b (by simp) x hx
    have h2 := Option.some.inj e
    omega
  · have h3 := HD3.out
    rw [← HK.out, List.getElem?_map, List.getElem?_eq_getElem hlt]
    simp at h3
    rw [h3]; rfl
theorem get_any (p : Option Addr) (c : Nat) (l : List Atr) (s : ByteArray) (w : World) (hs : AtrSl w p l) (hc : l.length ≤ c) (hl : l.length ≤ 100000000000000) :
    Calls Tryz.prog 34 #[.slice p l.length c, .string s] w (GetPost l s w) := by
  cases hr : rightL l with
  | false => exact get_no p c l s w hs hl (.inl hr)
  | true =>
    cases hf : foundB l s with
    | false => exact get_no p c l s w hs hl (.inr ⟨hr, hf⟩)
    | true => exact get_yes p c l s w hs hc hr hf
end Go.Proofs.YtmepjbjmjbpchaaGreatDoor
end
section
/- Strings between quotation marks: plain law. -/
namespace Go.Proofs.YtmepjbjmjbpchaaGreatDoor
open Go Go.RowKit

/-- The digit of a number below 16. -/
def hexOf (n : Nat) : UInt8 := if n < 10 then UInt8.ofNat (48 + n) else UInt8.ofNat (87 + n)
def escOf (c : UInt8) : List UInt8 :=
  if c = 34 then [92, 34] else if c = 92 then [92, 92] else if c = 10 then [92, 110] else
  if c.toNat < 32 ∨ 126 < c.toNat then [92, 120, hexOf (c.toNat / 16), hexOf (c.toNat % 16)] else [c]
def escL : List UInt8 → List UInt8
  | [] => []
  | c :: r => escOf c ++ escL r
theorem escL_append (l m : List UInt8) : escL (l ++ m) = escL l ++ escL m := by
  induction l with
  | nil => rfl
  | cons c r ih => simp [escL, ih]
theorem escL_snoc {l : List UInt8} {i : Nat} (h : i < l.length) : escL (l.take (i + 1)) = escL (l.take i) ++ escOf l[i] := by
  rw [List.take_add_one, List.getElem?_eq_getElem h, Option.toList_some, escL_append]; simp [escL]
theorem escOf_len (c : UInt8) : (escOf c).length ≤ 4 := by
  unfold escOf; repeat (first | (split) | simp)
theorem escL_len (l : List UInt8) : (escL l).length ≤ 4 * l.length := by
  induction l with
  | nil => simp [escL]
  | cons c r ih => have := escOf_len c; simp [escL]; omega
def quoteL (l : List UInt8) : List UInt8 := 34 :: (escL l ++ [34])
theorem quoteL_len (l : List UInt8) : (quoteL l).length ≤ 4 * l.length + 2 := by
  have := escL_len l
  simp [quoteL]; omega
end Go.Proofs.YtmepjbjmjbpchaaGreatDoor
end
section
/- The writing methods of strings.Builder at this program (turned from the library's own proofs). -/
namespace Go.Proofs.YtmepjbjmjbpchaaGreatDoor
open Go Go.RowKit
set_option linter.unusedVariables false
set_option linter.unusedSimpArgs false

theorem bldExtra : (Tryz.prog.info? 136).map (·.size) = some 2 ∧ liesAt Tryz.prog Tryz.prog.depth 136 (2 / Tryz.prog.cellsOf 136) 0 136 1 = true ∧ (Tryz.prog.info? 5).map (fun i => (i.zero, i.size, i.bytes)) = some (some (.int .u8 0), 1, 1) :=
  ⟨by kernel_rfl, by kernel_rfl, by kernel_rfl⟩

set_option maxHeartbeats 1000000 in
set_option maxRecDepth 100000 in
theorem bld_check_used (b : Nat) (w : World) (h0 : w.cell? ⟨b, 0, none⟩ = some (.pointer (some ⟨b, 0, none⟩))) :
    Calls Tryz.prog 125 #[.pointer (some ⟨b, 0, none⟩)] w fun e w' => e = .returned (.tuple #[]) ∧ w' = w := by
  obtain ⟨j, hj, _⟩ := Option.map_eq_some_iff.1 bldExtra.1
  go_enter Tryz.func125, Tryz.ntmps125
  go_wp2
  rw [Lib.run_neq_ptr_same w _ Tryz.underlying134 hj]
  go_wp2
  go_end0
  exact ⟨rfl, rfl⟩

set_option maxHeartbeats 1000000 in
set_option maxRecDepth 100000 in
theorem bld_check_fresh (b : Nat) (w : World) (h0 : w.cell? ⟨b, 0, none⟩ = some (.pointer none)) (hsh : w.shape? b = some (136, 2)) (hfz : w.frozen? ⟨b, 0, none⟩ = false) :
    Calls Tryz.prog 125 #[.pointer (some ⟨b, 0, none⟩)] w fun e w' => e = .returned (.tuple #[]) ∧ w' = w.setCell ⟨b, 0, none⟩ (.pointer (some ⟨b, 0, none⟩)) := by
  obtain ⟨j, hj, hjs⟩ := Option.map_eq_some_iff.1 bldExtra.1
  go_enter Tryz.func125, Tryz.ntmps125
  go_wp2
  rw [Lib.run_to_unsafe w ⟨b, 0, none⟩ Tryz.underlying134 Tryz.underlying172 hj (by rw [hjs]; decide) hsh (Nat.zero_lt_succ 1)]
  simp only [Result.andThen]
  rw [Oper.upon_value]
  go_wp2
  rw [run_callFunc_extern Tryz.func149 (by kernel_rfl) (by kernel_rfl) (by kernel_rfl) (e := Extern.AbiNoEscape.same) (by kernel_rfl)]
  rw [Lib.run_noEscape]
  simp only [Result.andThen]
  rw [Oper.upon_value]
  go_wp2
  rw [Lib.run_from_unsafe w ⟨b, 0, none⟩ Tryz.underlying172 Tryz.underlying134 hj hsh bldExtra.2.1]
  simp only [Result.andThen]
  rw [Oper.upon_value]
  go_wp2
  go_end0
  exact ⟨rfl, rfl⟩

abbrev IsB (B b : Nat) (bs : List Value) (w : World) : Prop := Lib.IsBuilder 136 5 B b bs w
theorem bld_check (B b : Nat) (bs : List Value) (w : World) (h : IsB B b bs w) :
    Calls Tryz.prog 125 #[.pointer (some ⟨b, 0, none⟩)] w fun e w' => e = .returned (.tuple #[]) ∧ (Lib.BuilderAt 136 5 B b (.pointer (some ⟨b, 0, none⟩)) bs w' ∧ Below B w w') := by
  rcases h with h | h
  · refine (bld_check_fresh b w h.cell0 h.shape h.frozen0).mono ?_
    rintro e w' ⟨rfl, rfl⟩
    exact ⟨rfl, h.used _, (Below.refl B w).setCell (p := ⟨b, 0, none⟩) h.1 _⟩
  · refine (bld_check_used b w h.cell0).mono ?_
    rintro e w' ⟨rfl, rfl⟩
    exact ⟨rfl, h, Below.refl B _⟩

set_option maxHeartbeats 2000000 in
set_option maxRecDepth 100000 in
theorem bld_write (B b : Nat) (bs : List Value) (s : ByteArray) (w : World) (h : IsB B b bs w) (hlen : bs.length + s.size ≤ 140737488355328) (hBw : B ≤ w.heap.size) :
    Calls Tryz.prog 118 #[.pointer (some ⟨b, 0, none⟩), .string s] w fun e w' => e = .returned (.tuple #[.int .i64 s.size, .nilIface]) ∧ (IsB B b (bs ++ Lib.strCells s) w' ∧ Below B w w') := by
  obtain ⟨i0, hi, hz0, hz1, hz2⟩ := info_parts bldExtra.2.2
  go_enter Tryz.func118, Tryz.ntmps118
  go_wp2_with (go_at_call 125; refine (bld_check B b bs _ h).mono ?_)
  rintro e w1 ⟨rfl, h1, hb1⟩
  obtain ⟨hB, v, hbk, hown, hne⟩ := h1
  have c0 : w1.cell? ⟨b, 0, none⟩ = some (.pointer (some ⟨b, 0, none⟩)) := by rw [Lib.cell_of_heap hbk]; rfl
  have c1 : w1.cell? ⟨b, 1, none⟩ = some v := by rw [Lib.cell_of_heap hbk]; rfl
  go_wp2_with (at_builtin; refine Lib.wpList_append_own_string _ rfl _ _ 60 9 rfl B 5 i0 Tryz.underlying60 Tryz.underlying9 hi hz0 hz1 hz2 _ _ _ rfl hown s rfl ?c3 ?c4 ?c5 ?_)
  case c3 => unfold maxLen; omega
  case c4 => omega
  case c5 => have := hb1.size; omega
  intro v' w2 hown' hgrow _
  have hlt : b < w1.heap.size := by
    rcases Nat.lt_or_ge b w1.heap.size with h' | h'
    · exact h'
    · simp [Array.getElem?_eq_none h'] at hbk
  have hb2 : w2.heap[b]? = some (.cells #[.pointer (some ⟨b, 0, none⟩), v] 136 (0, 0)) := by
    rw [hgrow.block b hlt (fun e => hne e.symm)]
    exact hbk
  have d0 : w2.cell? ⟨b, 0, none⟩ = some (.pointer (some ⟨b, 0, none⟩)) := by rw [Lib.cell_of_heap hb2]; rfl
  have d1 : w2.cell? ⟨b, 1, none⟩ = some v := by rw [Lib.cell_of_heap hb2]; rfl
  have f1 : w2.frozen? ⟨b, 1, none⟩ = false := Lib.frozen_of_heap hb2 1
  obtain ⟨ao, n', cap, rfl⟩ : ∃ ao n' cap, v' = .slice ao n' cap := by
    rcases hown'.2 with ⟨hv, _⟩ | ⟨g, cap, cur, hv, _⟩
    · exact ⟨_, _, _, hv⟩
    · exact ⟨_, _, _, hv⟩
  go_wp2
  go_ret2
  refine ⟨rfl, .inr ?_, ?_⟩
  · exact Lib.BuilderAt.put (T := 136) (e := 5) hB hb2 (bs' := bs ++ Lib.strCells s) (by simpa [Lib.strCells_length] using hown') (by decide)
  · exact (hb1.grown hgrow (by have := hb1.size; omega) (fun k hk => (hown.lt k hk).1)).setCell (p := ⟨b, 1, none⟩) hB _
end Go.Proofs.YtmepjbjmjbpchaaGreatDoor
end
section
/- WriteByte of strings.Builder at this program (turned from the library's own proof). -/
namespace Go.Proofs.YtmepjbjmjbpchaaGreatDoor
open Go Go.RowKit
set_option linter.unusedVariables false
set_option linter.unusedSimpArgs false

set_option maxHeartbeats 2000000 in
set_option maxRecDepth 100000 in
theorem bld_byte (B b : Nat) (bs : List Value) (c : Int) (w : World) (h : IsB B b bs w) (hlen : bs.length + 1 ≤ 140737488355328) (hBw : B ≤ w.heap.size) :
    Calls Tryz.prog 92 #[.pointer (some ⟨b, 0, none⟩), .int .u8 c] w fun e w' => e = .returned .nilIface ∧ (IsB B b (bs ++ [.int .u8 c]) w' ∧ Below B w w') := by
  obtain ⟨i0, hi, hz0, hz1, hz2⟩ := info_parts bldExtra.2.2
  go_enter Tryz.func92, Tryz.ntmps92
  go_wp2_with (go_at_call 125; refine (bld_check B b bs _ h).mono ?_)
  rintro e w1 ⟨rfl, h1, hb1⟩
  obtain ⟨hB, v, hbk, hown, hne⟩ := h1
  have c0 : w1.cell? ⟨b, 0, none⟩ = some (.pointer (some ⟨b, 0, none⟩)) := by rw [Lib.cell_of_heap hbk]; rfl
  have c1 : w1.cell? ⟨b, 1, none⟩ = some v := by rw [Lib.cell_of_heap hbk]; rfl
  go_wp2_with (at_builtin; refine wpList_append_own _ rfl _ _ 60 rfl B 5 i0 (.int .u8 0) 1 1 Tryz.underlying60 hi hz0 hz1 hz2 rfl (by decide) _ _ _ rfl (hown.alloc _) ⟨w1.heap.size, 0, none⟩ 1 1 [.int .u8 c] rfl rfl ?c1 ?c2 ?c3 ?c4 ?c5 ?_)
  case c1 =>
    intro j u hj
    match j, hj with
    | 0, hj => simp at hj; subst hj; simp [Addr.add]
  case c2 => intro u hu; simp at hu; subst hu; rfl
  case c3 => unfold maxLen; omega
  case c4 => omega
  case c5 => have := hb1.size; simp; omega
  intro v' w2 hown' hgrow _
  have hlt : b < w1.heap.size := by
    rcases Nat.lt_or_ge b w1.heap.size with h' | h'
    · exact h'
    · simp [Array.getElem?_eq_none h'] at hbk
  have hb2 : w2.heap[b]? = some (.cells #[.pointer (some ⟨b, 0, none⟩), v] 136 (0, 0)) := by
    rw [hgrow.block b (by simp; omega) (fun e => hne e.symm), Lib.alloc_old w1 _ b hlt]
    exact hbk
  have d0 : w2.cell? ⟨b, 0, none⟩ = some (.pointer (some ⟨b, 0, none⟩)) := by rw [Lib.cell_of_heap hb2]; rfl
  have d1 : w2.cell? ⟨b, 1, none⟩ = some v := by rw [Lib.cell_of_heap hb2]; rfl
  have f1 : w2.frozen? ⟨b, 1, none⟩ = false := Lib.frozen_of_heap hb2 1
  obtain ⟨g, cap, rfl⟩ : ∃ g cap, v' = .slice (some ⟨g, 0, none⟩) (bs.length + 1) cap := by
    rcases hown'.2 with ⟨_, h0⟩ | ⟨g, cap, cur, hv, _⟩
    · omega
    · exact ⟨g, cap, hv⟩
  go_wp2
  go_ret
  refine ⟨rfl, .inr ?_, ?_⟩
  · exact Lib.BuilderAt.put (T := 136) (e := 5) hB hb2 (bs' := bs ++ [.int .u8 c]) (by simpa using hown') (by decide)
  · exact ((hb1.alloc (by have := hb1.size; omega) _).grown hgrow (by have := hb1.size; simp; omega) (fun k hk => (hown.lt k hk).1)).setCell (p := ⟨b, 1, none⟩) hB _
end Go.Proofs.YtmepjbjmjbpchaaGreatDoor
end
section
/- types.text. -/
namespace Go.Proofs.YtmepjbjmjbpchaaGreatDoor
open Go Go.RowKit Go.Sort
set_option linter.unusedVariables false
set_option linter.unusedSimpArgs false

/-- strconv's table of powers of ten lies in the heap. -/
abbrev Pow (w : World) : Prop := Lib.TabIs Tryz.prog w "internal/strconv.uint64pow10" .u64 Lib.pow10Tab
theorem pow_below {w w' : World} (h : Pow w) (hb : Below w.heap.size w w') : Pow w' := Lib.tabBelow_of_tabIs h w' hb
theorem below_grow (w : World) (k : Nat) (os : Array Obj) : Below w.heap.size w (grow (w.drewN k) os) :=
  ⟨rfl, rfl, rfl, Lib.size_grow w k os, fun j hj => by
    show (w.heap ++ os)[j]? = _
    rw [Array.getElem?_append_left hj]⟩

theorem isB_below {B b : Nat} {bs : List Value} {W W' : World} (h : IsB B b bs W) (hb : Below W.heap.size W W') : IsB B b bs W' := by
  have key : ∀ p, Lib.BuilderAt 136 5 B b p bs W → Lib.BuilderAt 136 5 B b p bs W' := by
    rintro p ⟨hB, v, hbk, hown, hne⟩
    refine ⟨hB, v, blkBelow hbk hb, ⟨hown.1, ?_⟩, hne⟩
    rcases hown.2 with h1 | ⟨g, cap, cur, e1, e2, e3, e4⟩
    · exact .inl h1
    · exact .inr ⟨g, cap, cur, e1, e2, blkBelow e3 hb, e4⟩
  rcases h with h | h
  · exact .inl (key _ h)
  · exact .inr (key _ h)

def extStr (zs : List Int) : List UInt8 := zs.flatMap fun n => Lib.itoa n ++ [120]
def kwStr (k : Int) : List UInt8 := if k = 2 then [109, 101, 109, 60] else [97, 114, 114, 60]
/-- A type with cells. -/
def textOf (k : Int) (zs : List Int) (el : List UInt8) : List UInt8 := kwStr k ++ extStr zs ++ el ++ [62]
theorem extStr_snoc {zs : List Int} {i : Nat} (h : i < zs.length) : extStr (zs.take (i + 1)) = extStr (zs.take i) ++ (Lib.itoa (zs.getD i 0) ++ [120]) := by
  rw [List.take_add_one, List.getElem?_eq_getElem h]
  unfold extStr
  rw [List.flatMap_append]
  simp [h]
theorem digs_le : ∀ (d n : Nat), n < 10 ^ (d + 1) → Lib.nDigits n ≤ d + 1
  | 0, n, h => by unfold Lib.nDigits; rw [dif_pos (by simpa using h)]; omega
  | d + 1, n, h => by
    unfold Lib.nDigits
    split
    · omega
    · have := digs_le d (n / 10) (by rw [Nat.div_lt_iff_lt_mul (by decide)]; rw [Nat.pow_succ] at h; exact h)
      omega
theorem itoa_len {n : Int} (h0 : 0 ≤ n) (h1 : n ≤ 1000) : (Lib.itoa n).length ≤ 4 := by
  unfold Lib.itoa
  rw [if_neg (by omega), Lib.decDigits_length]
  exact digs_le 3 n.toNat (by omega)
theorem extStr_len : ∀ (zs : List Int), (∀ z ∈ zs, 0 ≤ z ∧ z ≤ 1000) → (extStr zs).length ≤ 5 * zs.length
  | [], _ => by simp [extStr]
  | z :: zs, h => by
    have h1 := itoa_len (h z (by simp)).1 (h z (by simp)).2
    have h2 := extStr_len zs fun x hx => h x (by simp [hx])
    have : extStr (z :: zs) = Lib.itoa z ++ [120] ++ extStr zs := by simp [extStr]
    rw [this]
    simp
    omega
theorem itoa_str (n : Int) (h0 : 0 ≤ n) (h1 : n ≤ 1000) (w : World) (hp : Pow w) :
    Calls Tryz.prog 148 #[.int .i64 n] w fun e w' => ∃ t : ByteArray, e = .returned (.string t) ∧ Hid (t.data.toList = Lib.itoa n) ∧ t.size ≤ 4 ∧ Below w.heap.size w w' :=
  (Tryz.strconv_Itoa n (by omega) (by omega) w hp).mono fun e w' ⟨he, k, os, hw⟩ => ⟨_, he, rfl, by have := itoa_len h0 h1; simpa [ByteArray.size] using this, by rw [hw]; exact below_grow w k os⟩
theorem words_lookup (k : Nat) (hk : k = 2 ∨ k = 3) {W : World} {m : Nat} (h : W.heap[m]? = some (.map wordEs 2)) :
    (Instr.lookup 185 (.map (some m)) (.int .i64 k) false).run Tryz.prog W = .ok (.string ⟨(kwStr k).toArray⟩) W := by
  rcases hk with rfl | rfl
  · rw [run_lookup_hit (i := 0) (v := .string ⟨(kwStr 2).toArray⟩) Tryz.underlying185 Tryz.underlying157 (fun b => run_checkKey_int Tryz.underlying157 b _ _) rfl h]; rfl
  · rw [run_lookup_hit (i := 1) (v := .string ⟨(kwStr 3).toArray⟩) Tryz.underlying185 Tryz.underlying157 (fun b => run_checkKey_int Tryz.underlying157 b _ _) rfl h]; rfl
structure TxI (w : World) (pre : List UInt8) (W : World) : Prop where
  bld : IsB w.heap.size w.heap.size (Lib.byteCells pre) W
  below : Below w.heap.size w W

end Go.Proofs.YtmepjbjmjbpchaaGreatDoor
end
