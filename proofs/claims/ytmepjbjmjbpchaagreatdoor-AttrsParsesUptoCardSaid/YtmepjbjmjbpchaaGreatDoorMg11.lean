/- Texts of this claim, laid together: Ac1, At7, At8, Copy, Ac2. -/
import Derived.Maps.AppendAt
import Derived.Deep.AppendLies
import Derived.Laws.CopyOwn
import Derived.Laws.MakeOwn
import Derived.WalkKit
import Derived.Laws.OwnMore
import Derived.Test.YtmepjbjmjbpchaaGreatDoorMg4
import Derived.Test.YtmepjbjmjbpchaaGreatDoorMg10
section
/- graph.Attrs: attributes in new memory. -/
namespace Go.Proofs.YtmepjbjmjbpchaaGreatDoor
open Go Go.RowKit Go.Sort
set_option linter.unusedVariables false
set_option linter.unusedSimpArgs false

/-- The data of an attribute, wherever its lists lie. -/
structure Dat where
  name : ByteArray
  kind : Int
  num : Int
  text : ByteArray
  ints : List Int
  texts : List ByteArray
deriving DecidableEq
def Atr.dat (a : Atr) : Dat := ⟨a.name, a.kind, a.num, a.text, a.ints, a.texts⟩
theorem IntSl.grown {w w' : World} {row : Option Nat} {a : Option Addr} {zs : List Int} (h : IntSl w a zs) (hg : w.grownBy w' row) (hne : ∀ x, a = some x → row ≠ some x.block) : IntSl w' a zs := by
  rcases h with h | ⟨g, off, rfl, h2, h3⟩
  · exact .inl h
  · refine .inr ⟨g, off, rfl, Nat.lt_of_lt_of_le h2 hg.size, fun j hj => ?_⟩
    rw [← h3 j hj]
    unfold World.cell?
    rw [hg.block g h2 (fun e => hne _ rfl e.symm)]
theorem StrSl.grown {w w' : World} {row : Option Nat} {a : Option Addr} {zs : List ByteArray} (h : StrSl w a zs) (hg : w.grownBy w' row) (hne : ∀ x, a = some x → row ≠ some x.block) : StrSl w' a zs := by
  rcases h with h | ⟨g, off, rfl, h2, h3⟩
  · exact .inl h
  · refine .inr ⟨g, off, rfl, Nat.lt_of_lt_of_le h2 hg.size, fun j hj => ?_⟩
    rw [← h3 j hj]
    unfold World.cell?
    rw [hg.block g h2 (fun e => hne _ rfl e.symm)]
/-- A slice of attributes in a row of its own, the lists of its elements in other blocks. -/
structure AtrOwn (w : World) (base : Nat) (v : Value) (l : List Atr) : Prop where
  own : w.ownsRow base 27 6 v l.length (l.flatMap Atr.cells)
  lies : ∀ a ∈ l, a.Lies w
  fits : ∀ a ∈ l, a.Fits
  off : ∀ a ∈ l, ∀ x, (a.ia = some x ∨ a.ta = some x) → x.block < w.heap.size ∧ v.ownBlock ≠ some x.block
  nil : l = [] → v = .slice none 0 0
theorem AtrOwn.emp (w : World) (base : Nat) : AtrOwn w base (.slice none 0 0) [] := ⟨World.ownsRow_nil _ _ _ _, by simp, by simp, by simp, fun _ => rfl⟩
theorem AtrOwn.below {w w1 : World} {base : Nat} {v : Value} {l : List Atr} (h : AtrOwn w base v l) (hb : Below w.heap.size w w1) : AtrOwn w1 base v l :=
  ⟨h.own.kept (grown_below hb) (by cases hv : v.ownBlock <;> simp), fun a ha => (h.lies a ha).below hb, h.fits, fun a ha x hx => ⟨Nat.lt_of_lt_of_le (h.off a ha x hx).1 hb.size, (h.off a ha x hx).2⟩, h.nil⟩
theorem Atr.Lies.grown {w w' : World} {row : Option Nat} {a : Atr} (h : a.Lies w) (hg : w.grownBy w' row) (hne : ∀ x, (a.ia = some x ∨ a.ta = some x) → row ≠ some x.block) : a.Lies w' :=
  ⟨h.ints.grown hg (fun x hx => hne x (.inl hx)), h.texts.grown hg (fun x hx => hne x (.inr hx))⟩
theorem AtrOwn.snoc {w w' : World} {base : Nat} {v v' : Value} {l : List Atr} {a : Atr} (h : AtrOwn w base v l) (hl : a.Lies w) (hf : a.Fits) (ho : ∀ x, (a.ia = some x ∨ a.ta = some x) → x.block < w.heap.size ∧ v.ownBlock ≠ some x.block)
    (hown : w'.ownsRow base 27 6 v' (l.length + 1) (l.flatMap Atr.cells ++ a.cells)) (hg : w.grownBy w' v.ownBlock) {H : Nat} (hat : v'.ownBlock = v.ownBlock ∨ v'.ownBlock = some H) (hH : H = w.heap.size) : AtrOwn w' base v' (l ++ [a]) := by
  have key : ∀ b, (b ∈ l ∨ b = a) → b.Lies w ∧ b.Fits ∧ ∀ x, (b.ia = some x ∨ b.ta = some x) → x.block < w.heap.size ∧ v.ownBlock ≠ some x.block := by
    rintro b (hb | rfl)
    · exact ⟨h.lies b hb, h.fits b hb, h.off b hb⟩
    · exact ⟨hl, hf, ho⟩
  refine ⟨by simpa using hown, fun b hb => ?_, fun b hb => (key b (by simpa using hb)).2.1, fun b hb x hx => ?_, fun e => by simp at e⟩
  · obtain ⟨h1, _, h3⟩ := key b (by simpa using hb)
    exact h1.grown hg (fun x hx => (h3 x hx).2)
  · obtain ⟨_, _, h3⟩ := key b (by simpa using hb)
    have h4 := h3 x hx
    refine ⟨Nat.lt_of_lt_of_le h4.1 hg.size, ?_⟩
    rcases hat with e | e
    · rw [e]; exact h4.2
    · rw [e]; intro e2; have := Option.some.inj e2; omega
theorem flat_at {l : List Atr} {j i : Nat} (hj : j < l.length) (hi : i < 6) : (l.flatMap Atr.cells)[j * 6 + i]? = l[j].cells[i]? := by
  induction l generalizing j with
  | nil => simp at hj
  | cons a l ih =>
    rw [List.flatMap_cons]
    cases j with
    | zero => rw [List.getElem?_append_left (by rw [cells_len]; omega)]; simp
    | succ k =>
      rw [List.getElem?_append_right (by rw [cells_len]; omega), cells_len, show (k + 1) * 6 + i - 6 = k * 6 + i by omega, ih (by simpa using hj)]
      simp
theorem AtrOwn.sl {w : World} {base : Nat} {p : Option Addr} {n c : Nat} {l : List Atr} (h : AtrOwn w base (.slice p n c) l) : AtrSl w p l := by
  refine ⟨?_, h.lies, h.fits⟩
  rcases h.own.2 with ⟨h1, h2⟩ | ⟨g, cap, cur, h1, hb, h2, h4, h5, h6, h7⟩
  · exact .inl (List.length_eq_zero_iff.1 h2)
  · cases h1
    refine .inr ⟨g, 0, rfl, blkLt h2, fun j hj i hi => ?_⟩
    rw [blkCell h2, Nat.zero_add, ← flat_at hj hi, ← h7, List.getElem?_take, if_pos (by omega)]
    simp
theorem grownBy_setOff (w : World) (B i : Nat) (v : Value) : w.grownBy (w.setCell ⟨B, i, none⟩ v) (some B) :=
  ⟨rfl, rfl, rfl, by simp [World.setCell], fun k hk hne => heap_setCell_other _ _ _ _ (fun e => hne (by rw [e]))⟩
def zAttr : Value := .agg #[.string ⟨#[]⟩, .int .i64 0, .int .i64 0, .string ⟨#[]⟩, .slice none 0 0, .slice none 0 0]

set_option maxRecDepth 100000 in
set_option maxHeartbeats 8000000 in
theorem attrs_any (p : Option Addr) (c : Nat) (l : List Atr) (w : World) (hs : AtrSl w p l) (hl : l.length ≤ 100000) :
    Calls Tryz.prog 39 #[.slice p l.length c] w fun e w' => ∃ v l', e = .returned v ∧ AtrOwn w' w.heap.size v l' ∧ l'.map Atr.dat = l.map Atr.dat ∧ (∀ a ∈ l', ∀ x, (a.ia = some x ∨ a.ta = some x) → w.heap.size ≤ x.block) ∧ Below w.heap.size w w' := by
  obtain ⟨i0, hin, hz0, hz1, hz2⟩ := info_parts (show (Tryz.prog.info? 27).map (fun i => (i.zero, i.size, i.bytes)) = some (some zAttr, 6, 96) by kernel_rfl)
  have HS := Lib.hid hs
  clear hs
  go_enter Tryz.func39, Tryz.ntmps39
  go_wp2_with fail
  go_loopw [3, 8] (fun v i wr => ∃ (j : Nat) (l' : List Atr), i = .int .i64 j ∧ j ≤ l.length ∧ l'.map Atr.dat = (l.take j).map Atr.dat ∧ AtrOwn wr w.heap.size v l' ∧ (∀ a ∈ l', ∀ x, (a.ia = some x ∨ a.ta = some x) → w.heap.size ≤ x.block) ∧ Below w.heap.size w wr) (fun _ i _ => l.length - (intOf i).toNat)
  case atStart => exact ⟨0, [], rfl, Nat.zero_le _, by simp, AtrOwn.emp _ _, by simp, Below.refl _ _⟩
  case round =>
    obtain ⟨j, l', rfl, hj, hd, ho, hfr, hb⟩ := hrel
    have HFR := Lib.hid hfr
    have HB := Lib.hid hb
    have HD := Lib.hid hd
    have HO := Lib.hid ho
    have hsw := HS.out.below HB.out
    have hlen : Hid (l'.length = j) := Lib.hid (by have := congrArg List.length hd; simpa [Nat.min_eq_left hj] using this)
    clear hb hd ho hfr
    rcases Nat.lt_or_ge j l.length with hlt | hge
    · obtain ⟨g, off, rfl, hzg, hrow⟩ := hsw.row hlt
      obtain ⟨a0, ha0⟩ : ∃ a0, a0 = l[j] := ⟨_, rfl⟩
      have hcj := hrow _ hlt
      rw [← ha0] at hcj
      have HA0 := Lib.hid ha0
      have HLI := Lib.hid (fun (W : World) (hb : Below wr.heap.size wr W) => (hsw.lies a0 (by rw [ha0]; exact List.getElem_mem _)).below hb)
      have HFI := Lib.hid (hsw.fits a0 (by rw [ha0]; exact List.getElem_mem _))
      clear ha0 hrow hsw
      obtain ⟨k0, k1, k2, k3, k4, k5⟩ := hcj
      obtain ⟨pv, pc, rfl, -⟩ := own_form HO.out.own
      go_wp2_with (first
        | (at_builtin; refine wpList_append_own_at _ rfl _ _ 22 rfl w.heap.size 27 i0 zAttr 6 96 Tryz.underlying22 hin hz0 hz1 hz2 rfl (by decide) _ _ _ rfl (by exact (HO.out.below (by (repeat (first | (with_reducible refine below_set ?_ (by first | exact Nat.le_refl _ | omega) _ _) | with_reducible exact Below.refl _ _ | with_reducible refine belowA ?_ _ | with_reducible refine below_own' ?_ hb4 | with_reducible refine below_own' ?_ hb2 | with_reducible refine belowD ?_ | with_reducible refine belowN ?_ _)))).own) ⟨w4.heap.size, 0, none⟩ 1 1 [.string a0.name, .int .i64 a0.kind, .int .i64 a0.num, .string a0.text, .slice ia' a0.ints.length ic', .slice ta' a0.texts.length tc'] rfl rfl ?c1 ?c2 ?c3 ?c4 ?c5 ?_)
        | (go_at_call 68; refine Calls.mono (cloneS_any _ _ a0.texts _ HFI.out.tl ?_) ?_; (focus (exact (HLI.out _ (by (repeat (first | (with_reducible refine below_set ?_ (by first | exact Nat.le_refl _ | omega) _ _) | with_reducible exact Below.refl _ _ | with_reducible refine belowA ?_ _ | with_reducible refine below_own' ?_ hb2 | with_reducible refine belowD ?_ | with_reducible refine belowN ?_ _)))).texts)); rintro e w4 ⟨ta', tc', rfl, hsl4, hcap4, hfr4, hb4⟩; have c4 := rdCell hb4 wr.heap.size (by first | (simp; done) | (simp; omega)); have f4 := rdFree hb4 wr.heap.size (by first | (simp; done) | (simp; omega)); have hzw4 : wr.heap.size < w4.heap.size := (by have := Below.size hb4; simp at this; omega))
        | (go_at_call 67; refine Calls.mono (cloneI_any _ _ a0.ints _ HFI.out.il ?_) ?_; (focus (exact (HLI.out _ (by (repeat (first | (with_reducible refine below_set ?_ (by first | exact Nat.le_refl _ | omega) _ _) | with_reducible exact Below.refl _ _ | with_reducible refine belowA ?_ _ | with_reducible refine belowD ?_ | with_reducible refine belowN ?_ _)))).ints)); rintro e w2 ⟨ia', ic', rfl, hsl2, hcap2, hfr2, hb2⟩; have c2 := rdCell hb2 wr.heap.size (by first | (simp; done) | (simp; omega)); have f2 := rdFree hb2 wr.heap.size (by first | (simp; done) | (simp; omega)); have hzw2 : wr.heap.size < w2.heap.size := (by have := Below.size hb2; simp at this; omega)))
      case c1 =>
        intro t u hj
        have hlt6 : t < 6 := by have := (List.getElem?_eq_some_iff.1 hj).1; simpa using this
        have hadd : (⟨w4.heap.size, 0, none⟩ : Addr).add t = ⟨w4.heap.size, 0 + t, none⟩ := by
          unfold Addr.add; split
          · rename_i h; subst h; rfl
          · rfl
        rw [hadd, Nat.zero_add, blkCell (heap_alloc_new' _ _ (by simp [World.setCell]))]
        have ht : t = 0 ∨ t = 1 ∨ t = 2 ∨ t = 3 ∨ t = 4 ∨ t = 5 := by omega
        rcases ht with rfl | rfl | rfl | rfl | rfl | rfl <;> simpa using hj
      case c2 =>
        intro u hu
        simp only [List.mem_cons, List.not_mem_nil, or_false] at hu
        rcases hu with rfl | rfl | rfl | rfl | rfl | rfl <;> rfl
      case c3 => have := hlen.out; unfold maxLen; omega
      case c4 => have := hlen.out; omega
      case c5 => have := HB.out.size; simp [World.setCell]; omega
      intro v' w7 hown' hgrow _ hat
      have hb6 : Below wr.heap.size wr ((w4.setCell ⟨wr.heap.size, 5, none⟩ (.slice ta' a0.texts.length tc')).alloc (.cells #[.string a0.name, .int .i64 a0.kind, .int .i64 a0.num, .string a0.text, .slice ia' a0.ints.length ic', .slice ta' a0.texts.length tc'] 27)) := by (repeat (first | (with_reducible refine below_set ?_ (by first | exact Nat.le_refl _ | omega) _ _) | with_reducible exact Below.refl _ _ | with_reducible refine belowA ?_ _ | with_reducible refine below_own' ?_ hb4 | with_reducible refine below_own' ?_ hb2 | with_reducible refine belowD ?_ | with_reducible refine belowN ?_ _))
      have ho6 := HO.out.below hb6
      have hbk : ∀ B, (Value.slice pv l'.length pc).ownBlock = some B → B < wr.heap.size := fun B hB => (HO.out.own.lt B hB).2
      have hI5 : IntSl (w4.setCell ⟨wr.heap.size, 5, none⟩ (.slice ta' a0.texts.length tc')) ia' a0.ints :=
        (((hsl2.grown (grownBy_setOff w2 wr.heap.size 4 _) (fun x hx e => by have h1 := (hfr2 x hx).1; have h2 := Option.some.inj e; simp at h1; omega)).below hb4).grown (grownBy_setOff w4 wr.heap.size 5 _) (fun x hx e => by have h1 := (hfr2 x hx).1; have h2 := Option.some.inj e; simp at h1; omega))
      have hS5 : StrSl (w4.setCell ⟨wr.heap.size, 5, none⟩ (.slice ta' a0.texts.length tc')) ta' a0.texts :=
        hsl4.grown (grownBy_setOff w4 wr.heap.size 5 _) (fun x hx e => by have h1 := (hfr4 x hx).1; have h2 := Option.some.inj e; simp [World.setCell] at h1; omega)
      have hb56 := (Below.refl (w4.setCell ⟨wr.heap.size, 5, none⟩ (.slice ta' a0.texts.length tc')).heap.size (w4.setCell ⟨wr.heap.size, 5, none⟩ (.slice ta' a0.texts.length tc'))).alloc (Nat.le_refl _) (.cells #[.string a0.name, .int .i64 a0.kind, .int .i64 a0.num, .string a0.text, .slice ia' a0.ints.length ic', .slice ta' a0.texts.length tc'] 27)
      have hnew := AtrOwn.snoc (a := { a0 with ia := ia', ic := ic', ta := ta', tc := tc' }) ho6 ⟨hI5.below hb56, hS5.below hb56⟩ ⟨HFI.out.name, HFI.out.text, HFI.out.num, HFI.out.kind, hcap2, HFI.out.ints, HFI.out.il, hcap4, HFI.out.texts, HFI.out.tl⟩
        (fun x hx => ⟨by
          rcases hx with hx | hx
          · have := (hfr2 x hx).2; have := hb4.size; simp [World.setCell] at *; omega
          · have := (hfr4 x hx).2; simp [World.setCell] at *; omega, fun e => by
          have h1 := hbk _ e
          rcases hx with hx | hx
          · have := (hfr2 x hx).1; simp at this; omega
          · have := (hfr4 x hx).1; simp [World.setCell] at this; omega⟩) hown' hgrow hat (by simp [World.setCell])
      have HNEW := Lib.hid hnew
      have hfr' : ∀ b ∈ l' ++ [{ a0 with ia := ia', ic := ic', ta := ta', tc := tc' }], ∀ x, (b.ia = some x ∨ b.ta = some x) → w.heap.size ≤ x.block := by
        intro b hb x hx
        rcases List.mem_append.1 hb with hb | hb
        · exact HFR.out b hb x hx
        · rw [List.mem_singleton.1 hb] at hx
          have hbs := HB.out.size
          rcases hx with hx | hx
          · have := (hfr2 x hx).1; simp at this; omega
          · have := (hfr4 x hx).1; simp [World.setCell] at this; omega
      have HFR' := Lib.hid hfr'
      clear hfr'
      have HB7 := Lib.hid ((below_own' HB.out hb6).grown hgrow (below_own' HB.out hb6).size (fun k hk => (HO.out.own.lt k hk).1))
      clear hnew hown' hgrow hat hb6 ho6 hb56 hI5 hS5 hbk hsl2 hsl4 hfr2 hfr4
      go_wp2_with fail
      go_roundw
      case rel => exact ⟨j + 1, l' ++ [{ a0 with ia := ia', ic := ic', ta := ta', tc := tc' }], by go_num, by omega, by
        rw [List.map_append, HD.out, List.take_succ_eq_append_getElem hlt, List.map_append, ← HA0.out]; rfl, HNEW.out, HFR'.out, HB7.out⟩
      case measure => simp [intOf]; omega
    · obtain rfl : j = l.length := by omega
      obtain ⟨pv, pc, rfl, -⟩ := own_form HO.out.own
      clear hsw
      go_wp2_with fail
      go_ret
      exact ⟨_, l', rfl, HO.out, by rw [HD.out, List.take_length], HFR.out, HB.out⟩
end Go.Proofs.YtmepjbjmjbpchaaGreatDoor
end
section
/- attrs.position: the place of a name in a rising list. -/
namespace Go.Proofs.YtmepjbjmjbpchaaGreatDoor
open Go Go.RowKit
set_option linter.unusedVariables false
set_option linter.unusedSimpArgs false

/-- The names of a list rise. -/
def Rises (l : List Atr) : Prop := ∀ i j (hi : i < j) (hj : j < l.length), nmLt (l[i]'(by omega)).name l[j].name = true
theorem rises_of_okAt {l : List Atr} (h : (List.range l.length).all (okAt l) = true) : Rises l := by
  have hs : ∀ k (hk : k + 1 < l.length), nmLt (l[k]'(by omega)).name l[k + 1].name = true := by
    intro k hk
    have := List.all_eq_true.1 h (k + 1) (List.mem_range.2 hk)
    unfold okAt at this
    rw [List.getElem?_eq_getElem hk] at this
    simp only [List.getElem?_eq_getElem (show k < l.length by omega), Bool.and_eq_true] at this
    exact this.2
  intro i j hi hj
  obtain ⟨d, rfl⟩ : ∃ d, j = i + 1 + d := ⟨j - i - 1, by omega⟩
  induction d with
  | zero => exact hs i hj
  | succ d ih => exact nm_trans (ih (by omega) (by omega)) (hs (i + 1 + d) hj)
theorem rises_of_right {l : List Atr} (h : rightL l = true) : Rises l := by
  unfold rightL at h; rw [Bool.and_eq_true] at h; exact rises_of_okAt h.2
theorem mem_tw {α : Type} {P : α → Bool} {a : α} : ∀ {l : List α}, a ∈ l.takeWhile P → P a = true
  | [], h => by simp at h
  | b :: l, h => by
    by_cases hb : P b = true
    · simp only [List.takeWhile_cons, hb, if_true] at h
      rcases List.mem_cons.1 h with rfl | h
      · exact hb
      · exact mem_tw h
    · simp [List.takeWhile_cons, hb] at h
/-- How many names come ahead of a name. -/
def lowerB (l : List Atr) (s : ByteArray) : Nat := (l.takeWhile fun a => nmLt a.name s).length
theorem lower_le (l : List Atr) (s : ByteArray) : lowerB l s ≤ l.length := (List.takeWhile_prefix _).length_le
theorem lower_lt {l : List Atr} {s : ByteArray} {j : Nat} (h : j < lowerB l s) : nmLt (l[j]'(by have := lower_le l s; omega)).name s = true := by
  have h1 : (l.takeWhile fun a => nmLt a.name s)[j]'h = l[j]'(by have := lower_le l s; omega) := by
    have := List.takeWhile_prefix (l := l) (fun a => nmLt a.name s)
    exact this.getElem h
  have := mem_tw (List.getElem_mem h)
  rw [h1] at this
  exact this
theorem lower_at {l : List Atr} {s : ByteArray} (h : lowerB l s < l.length) : nmLt (l[lowerB l s]'h).name s = false := by
  unfold lowerB at h ⊢
  induction l with
  | nil => simp at h
  | cons a l ih =>
    by_cases ha : nmLt a.name s = true
    · simp only [List.takeWhile_cons, ha, if_true, List.length_cons] at h ⊢
      simpa using ih (by simpa using h)
    · simp only [List.takeWhile_cons, ha]
      simpa using ha
theorem lower_uniq {l : List Atr} (hr : Rises l) {s : ByteArray} {i : Nat} (hi : i ≤ l.length) (h1 : ∀ j (h : j < i) (hl : j < l.length), nmLt l[j].name s = true) (h2 : ∀ j (h : i ≤ j) (hl : j < l.length), nmLt l[j].name s = false) : i = lowerB l s := by
  rcases Nat.lt_trichotomy i (lowerB l s) with h | h | h
  · have := lower_lt h
    rw [h2 i (Nat.le_refl _) (by have := lower_le l s; omega)] at this; cases this
  · exact h
  · have := h1 _ h (by omega)
    rw [lower_at (by omega)] at this; cases this
def foundB (l : List Atr) (s : ByteArray) : Bool := match l[lowerB l s]? with | some a => decide (a.name = s) | none => false

theorem nameOf_any (a : Atr) (w : World) : Calls Tryz.prog 64 #[a.val] w fun e w' => e = .returned (.string a.name) ∧ Below w.heap.size w w' := by
  go_enter Tryz.func64, Tryz.ntmps64
  go_wp2_with fail
  go_ret
  exact ⟨rfl, by (repeat (first | (with_reducible refine below_set ?_ (by first | exact Nat.le_refl _ | omega) _ _) | with_reducible exact Below.refl _ _ | with_reducible refine belowA ?_ _ | with_reducible refine belowD ?_ | with_reducible refine belowN ?_ _))⟩
/-- The closure, its captured variable in block c. -/
theorem pos1_any (a : Atr) (s : ByteArray) (c : Nat) (w : World) (hc : w.heap[c]? = some (.cells #[.func (.func 64) #[] #[]] 59 (0, 0))) :
    Calls Tryz.prog 85 #[a.val, .string s, .pointer (some ⟨c, 0, none⟩)] w fun e w' => e = .returned (.int .i64 (nmCmp a.name s)) ∧ Below w.heap.size w w' := by
  have c0 := blkCell hc
  have hlt := blkLt hc
  have hin := fun args w => callFunc_enters Tryz.func64 (by kernel_rfl) rfl args w
  clear hc
  go_enter Tryz.func85, Tryz.ntmps85
  go_wp2_with (first
    | (go_at_call 64; refine (nameOf_any a _).mono ?_; rintro e w1 ⟨rfl, hb1⟩)
    | (go_at_call 56; refine (compare_any _ _ _).mono ?_; rintro e w2 ⟨rfl, rfl⟩))
  go_ret
  exact ⟨rfl, by (repeat (first | (with_reducible refine below_set ?_ (by first | exact Nat.le_refl _ | omega) _ _) | with_reducible exact Below.refl _ _ | with_reducible refine belowA ?_ _ | with_reducible refine below_own' ?_ hb1 | with_reducible refine belowD ?_ | with_reducible refine belowN ?_ _))⟩
end Go.Proofs.YtmepjbjmjbpchaaGreatDoor
end
section
/- slices.BinarySearchFunc at a rising list of attributes; attrs.position. -/
namespace Go.Proofs.YtmepjbjmjbpchaaGreatDoor
open Go Go.RowKit
set_option linter.unusedVariables false
set_option linter.unusedSimpArgs false

abbrev posF (cb : Nat) : Value := .func (.func 85) #[] #[.pointer (some ⟨cb, 0, none⟩)]
abbrev PosC (cb : Nat) (w : World) : Prop := w.heap[cb]? = some (.cells #[.func (.func 64) #[] #[]] 59 (0, 0))

set_option maxRecDepth 100000 in
set_option maxHeartbeats 8000000 in
theorem bsf_any (p : Option Addr) (c : Nat) (l : List Atr) (s : ByteArray) (cb : Nat) (w : World) (hs : AtrSl w p l) (hl : l.length ≤ 100000000000000) (hr : Rises l) (hc : PosC cb w) :
    Calls Tryz.prog 84 #[.slice p l.length c, .string s, posF cb] w fun e w' => e = .returned (.tuple #[.int .i64 (lowerB l s), .bool (foundB l s)]) ∧ Below w.heap.size w w' := by
  have HS := Lib.hid hs
  have HR := Lib.hid hr
  have HC := Lib.hid hc
  have hin := fun args w => callFunc_enters Tryz.func85 (by kernel_rfl) rfl args w
  clear hs hr hc
  go_enter Tryz.func84, Tryz.ntmps84
  go_wp2_with fail
  go_loopw [9, 10] (fun i j wr => ∃ x y : Nat, i = .int .i64 x ∧ j = .int .i64 y ∧ x ≤ y ∧ y ≤ l.length ∧ Below w.heap.size w wr ∧ (∀ t (h : t < x) (hl : t < l.length), nmLt l[t].name s = true) ∧ (∀ t (h : y ≤ t) (hl : t < l.length), nmLt l[t].name s = false)) (fun i j _ => (intOf j).toNat - (intOf i).toNat)
  case atStart => exact ⟨0, l.length, rfl, rfl, by omega, by omega, Below.refl _ _, fun t h => by omega, fun t h hl => by omega⟩
  case round =>
    obtain ⟨x, y, rfl, rfl, hxy, hyl, hb, hlo, hhi⟩ := hrel
    have HB := Lib.hid hb
    have HLO := Lib.hid hlo
    have HHI := Lib.hid hhi
    clear hb hlo hhi
    have hsw := HS.out.below HB.out
    rcases Nat.lt_or_ge x y with hlt | hge
    · have hdl : (x + y) / 2 < l.length := by omega
      obtain ⟨g, off, rfl, hzg, hrow⟩ := hsw.row hdl
      obtain ⟨a0, ha0⟩ : ∃ a0, a0 = l[(x + y) / 2]'hdl := ⟨_, rfl⟩
      have hcj := hrow _ hdl
      rw [← ha0] at hcj
      have HA0 := Lib.hid ha0
      have hpc : PosC cb wr := (HB.out.block _ (blkLt HC.out)).trans HC.out
      have HPC := Lib.hid hpc
      clear ha0 hrow hsw hpc
      obtain ⟨k0, k1, k2, k3, k4, k5⟩ := hcj
      cases hq : nmLt a0.name s with
      | true =>
        have HQ := Lib.hid hq
        have HV : Hid (nmCmp a0.name s = -1) := Lib.hid (by unfold nmCmp; rw [if_pos hq])
        clear hq
        go_wp2_with (go_at_call 85; refine (pos1_any a0 s cb _ HPC.out).mono ?_; rintro e w2 ⟨rfl, hb2⟩; rw [HV.out])
        go_roundw
        case rel => exact ⟨(x + y) / 2 + 1, y, by go_num, rfl, by omega, by omega, below_own' HB.out hb2, fun t h hl => by
          rcases Nat.lt_or_ge t ((x + y) / 2) with h2 | h2
          · exact nm_trans (HR.out _ _ h2 hdl) (by rw [← HA0.out]; exact HQ.out)
          · obtain rfl : t = (x + y) / 2 := by omega
            rw [← HA0.out]; exact HQ.out, HHI.out⟩
        case measure => simp [intOf]; omega
      | false =>
        have HQ := Lib.hid hq
        obtain ⟨v, hv⟩ : ∃ v, v = nmCmp a0.name s := ⟨_, rfl⟩
        have hv0 : ¬ v < 0 := by rw [hv]; unfold nmCmp; rw [if_neg (by rw [hq]; simp)]; split <;> omega
        have HV := Lib.hid hv
        clear hq hv
        go_wp2_with (go_at_call 85; refine (pos1_any a0 s cb _ HPC.out).mono ?_; rintro e w2 ⟨rfl, hb2⟩; rw [← HV.out])
        go_roundw
        case rel => exact ⟨x, (x + y) / 2, rfl, by go_num, by omega, by omega, below_own' HB.out hb2, HLO.out, fun t h hl => by
          rcases Nat.lt_or_ge ((x + y) / 2) t with h2 | h2
          · cases hx : nmLt l[t].name s with
            | false => rfl
            | true =>
              have := nm_trans (HR.out _ _ h2 hl) hx
              rw [← HA0.out, HQ.out] at this; cases this
          · obtain rfl : t = (x + y) / 2 := by omega
            rw [← HA0.out]; exact HQ.out⟩
        case measure => simp [intOf]; omega
    · obtain rfl : x = y := by omega
      have hxl : x = lowerB l s := lower_uniq HR.out hyl HLO.out HHI.out
      have HXL := Lib.hid hxl
      clear hxl
      rcases Nat.lt_or_ge x l.length with hlt2 | hge2
      · obtain ⟨g, off, rfl, hzg, hrow⟩ := hsw.row hlt2
        obtain ⟨a0, ha0⟩ : ∃ a0, a0 = l[x] := ⟨_, rfl⟩
        have hcj := hrow _ hlt2
        rw [← ha0] at hcj
        have hpc : PosC cb wr := (HB.out.block _ (blkLt HC.out)).trans HC.out
        have HPC := Lib.hid hpc
        have hq : nmLt a0.name s = false := by rw [ha0]; exact HHI.out x (Nat.le_refl _) hlt2
        obtain ⟨v, hv⟩ : ∃ v, v = nmCmp a0.name s := ⟨_, rfl⟩
        have HF : Hid (foundB l s = (v == 0)) := Lib.hid (by
          unfold foundB
          rw [← HXL.out, List.getElem?_eq_getElem hlt2, ← ha0, hv]
          unfold nmCmp
          rw [if_neg (by rw [hq]; simp)]
          cases hx : nmLt s a0.name with
          | true =>
            have : ¬ a0.name = s := by rintro rfl; rw [nm_irrefl] at hx; cases hx
            simp [this]
          | false => simp [nm_total hq hx])
        have HV := Lib.hid hv
        have hx0 : (0 : Int) ≤ (x : Int) := by omega
        have hxl : (x : Int) < (l.length : Int) := by omega
        clear ha0 hrow hsw hpc hq hv
        obtain ⟨k0, k1, k2, k3, k4, k5⟩ := hcj
        go_wp2_with (go_at_call 85; refine (pos1_any a0 s cb _ HPC.out).mono ?_; rintro e w2 ⟨rfl, hb2⟩; rw [← HV.out])
        go_ret2
        exact ⟨by rw [HF.out, ← HXL.out]; rfl, below_own' HB.out hb2⟩
      · have HF : Hid (foundB l s = false) := Lib.hid (by unfold foundB; rw [← HXL.out, List.getElem?_eq_none (by omega)])
        have hxl : ¬ (x : Int) < (l.length : Int) := by omega
        clear hsw
        go_wp2_with fail
        go_ret2
        exact ⟨by rw [HF.out, ← HXL.out]; rfl, HB.out⟩

theorem position_any (p : Option Addr) (c : Nat) (l : List Atr) (s : ByteArray) (w : World) (hs : AtrSl w p l) (hl : l.length ≤ 100000000000000) (hr : Rises l) :
    Calls Tryz.prog 63 #[.slice p l.length c, .string s, .func (.func 64) #[] #[]] w fun e w' => e = .returned (.tuple #[.int .i64 (lowerB l s), .bool (foundB l s)]) ∧ Below w.heap.size w w' := by
  have HS := Lib.hid hs
  have HR := Lib.hid hr
  clear hs hr
  go_enter Tryz.func63, Tryz.ntmps63
  have HB0 := Lib.hid (bsf_any p c l s w.heap.size (w.alloc (.cells #[.func (.func 64) #[] #[]] 59)) (HS.out.below (by (repeat (first | (with_reducible refine below_set ?_ (by first | exact Nat.le_refl _ | omega) _ _) | with_reducible exact Below.refl _ _ | with_reducible refine belowA ?_ _ | with_reducible refine belowD ?_ | with_reducible refine belowN ?_ _)))) hl HR.out (heap_alloc_new _ _))
  go_wp2_with (go_at_call 84; refine HB0.out.mono ?_; rintro e w1 ⟨rfl, hb1⟩)
  go_ret2
  exact ⟨rfl, by (repeat (first | (with_reducible refine below_set ?_ (by first | exact Nat.le_refl _ | omega) _ _) | with_reducible exact Below.refl _ _ | with_reducible refine belowA ?_ _ | with_reducible refine below_own' ?_ hb1 | with_reducible refine belowD ?_ | with_reducible refine belowN ?_ _))⟩
end Go.Proofs.YtmepjbjmjbpchaaGreatDoor
end
section
/- The builtin copy of elements of several cells. -/
namespace Go.Proofs.YtmepjbjmjbpchaaGreatDoor
open Go Go.RowKit
set_option linter.unusedVariables false
set_option linter.unusedSimpArgs false
section
variable {P : Program}
theorem run_copy_rowN (w : World) (dT sT ty elem : TypeId) (g o dLen dCap : Nat) (a : Addr) (sLen sCap : Nat) (cur : Array Value) (t : TypeId) (cs : List Value) (sz : Nat)
    (hu : P.underlying dT = some (.slice elem)) (hs : (P.info? elem).map (·.size) = some sz)
    (hg : w.heap[g]? = some (.cells cur t (0, 0))) (hn : cs.length = Nat.min sLen dLen * sz)
    (hsrc : ∀ j v, cs[j]? = some v → w.cell? (a.add j) = some v) (hfit : o + cs.length ≤ cur.size) (h1 : ∀ v ∈ cs, v.oneCell' = true) :
    (Builtin.copy_ #[dT, sT] ty #[.slice (some ⟨g, o, none⟩) dLen dCap, .slice (some a) sLen sCap]).run P w =
      .ok (goInt (Nat.min sLen dLen)) (w.setRow g (cur.toList.take o ++ cs ++ cur.toList.drop (o + cs.length)).toArray) := by
  have hl := run_loadCells_list (P := P) w a cs hsrc
  have hst := run_storeCells_at P g o t cs 0 cur w hg (by simpa using hfit) h1
  cases hq : P.info? elem with
  | none => simp [hq] at hs
  | some i =>
    have hi : i.size = sz := by simpa [hq] using hs
    simp [Builtin.copy_, run_underlying hu, Builtin.lenOf, Builtin.firstCells, sizeOf, typeInfo, hq, hi, ← hn, hl, hst]
theorem run_copy_zero (w : World) (dT sT ty elem : TypeId) (dp sp : Option Addr) (dLen dCap sLen sCap : Nat) (sz : Nat)
    (hu : P.underlying dT = some (.slice elem)) (hs : (P.info? elem).map (·.size) = some sz) (hn : Nat.min sLen dLen = 0) :
    (Builtin.copy_ #[dT, sT] ty #[.slice dp dLen dCap, .slice sp sLen sCap]).run P w = .ok (goInt 0) w := by
  cases hq : P.info? elem with
  | none => simp [hq] at hs
  | some i =>
    cases sp with
    | none => cases dp <;> simp [Builtin.copy_, run_underlying hu, Builtin.lenOf, Builtin.firstCells, sizeOf, typeInfo, hq, hn, storeCells]
    | some a =>
      have hl := run_loadCells_list (P := P) w a [] (fun j v h => by simp at h)
      cases dp <;> simp [Builtin.copy_, run_underlying hu, Builtin.lenOf, Builtin.firstCells, sizeOf, typeInfo, hq, hn, storeCells] <;> first | (simp_all; done) | (simp only [List.length_nil] at hl; simp [hl, storeCells])
end
end Go.Proofs.YtmepjbjmjbpchaaGreatDoor
end
section
/- attrs.put. -/
namespace Go.Proofs.YtmepjbjmjbpchaaGreatDoor
open Go Go.RowKit Go.Sort
set_option linter.unusedVariables false
set_option linter.unusedSimpArgs false

/-! ### Lists of data -/
def lowerD (l : List Dat) (s : ByteArray) : Nat := (l.takeWhile fun a => nmLt a.name s).length
def foundD (l : List Dat) (s : ByteArray) : Bool := match l[lowerD l s]? with | some a => decide (a.name = s) | none => false
theorem takeWhile_map' {α β : Type} (f : α → β) (P : β → Bool) : ∀ l : List α, (l.map f).takeWhile P = (l.takeWhile fun x => P (f x)).map f
  | [] => rfl
  | a :: l => by
    simp only [List.map_cons, List.takeWhile_cons]
    split <;> simp [takeWhile_map' f P l]
theorem lowerD_eq (l : List Atr) (s : ByteArray) : lowerB l s = lowerD (l.map Atr.dat) s := by
  unfold lowerB lowerD
  rw [takeWhile_map', List.length_map]; rfl
theorem foundD_eq (l : List Atr) (s : ByteArray) : foundB l s = foundD (l.map Atr.dat) s := by
  unfold foundB foundD
  rw [← lowerD_eq, List.getElem?_map]
  cases l[lowerB l s]? <;> rfl
/-- A list with an attribute. -/
def setD (l : List Dat) (d : Dat) : List Dat := if foundD l d.name then l.set (lowerD l d.name) d else l.take (lowerD l d.name) ++ d :: l.drop (lowerD l d.name)
def RisesD (l : List Dat) : Prop := ∀ i j (hi : i < j) (hj : j < l.length), nmLt (l[i]'(by omega)).name l[j].name = true
theorem risesD_iff (l : List Atr) : Rises l ↔ RisesD (l.map Atr.dat) := by
  constructor
  · intro h i j hi hj
    have := h i j hi (by simpa using hj)
    simpa [Atr.dat] using this
  · intro h i j hi hj
    have := h i j hi (by simpa using hj)
    simpa [Atr.dat] using this

theorem AtrOwn.form {w : World} {base : Nat} {v : Value} {l : List Atr} (h : AtrOwn w base v l) (hn : 0 < l.length) : ∃ g c cur, v = .slice (some ⟨g, 0, none⟩) l.length c ∧ base ≤ g ∧ w.heap[g]? = some (.cells cur 27 (0, 0)) ∧ l.length ≤ c ∧ cur.size = c * 6 ∧ cur.toList.take (l.length * 6) = l.flatMap Atr.cells := by
  rcases h.own.2 with ⟨h1, h2⟩ | ⟨g, cap, cur, h1, hb, h2, h4, h5, h6, h7⟩
  · omega
  · exact ⟨g, cap, cur, h1, hb, h2, h4, h6, h7⟩

abbrev six (w : World) (g o : Nat) (a : Atr) : World := (((((w.setCell ⟨g, o, none⟩ (.string a.name)).setCell ⟨g, o + 1, none⟩ (.int .i64 a.kind)).setCell ⟨g, o + 2, none⟩ (.int .i64 a.num)).setCell ⟨g, o + 3, none⟩ (.string a.text)).setCell ⟨g, o + 4, none⟩ (.slice a.ia a.ints.length a.ic)).setCell ⟨g, o + 5, none⟩ (.slice a.ta a.texts.length a.tc)
theorem flat_len (l : List Atr) : (l.flatMap Atr.cells).length = l.length * 6 := by
  induction l with
  | nil => rfl
  | cons a l ih => rw [List.flatMap_cons, List.length_append, ih, cells_len, List.length_cons]; omega
theorem set6_at {α : Type} (x : List α) (o : Nat) (v0 v1 v2 v3 v4 v5 : α) (t : Nat) (h : o + 6 ≤ x.length) : ((((((x.set o v0).set (o + 1) v1).set (o + 2) v2).set (o + 3) v3).set (o + 4) v4).set (o + 5) v5)[t]? = if o ≤ t ∧ t < o + 6 then [v0, v1, v2, v3, v4, v5][t - o]? else x[t]? := by
  by_cases hc : o ≤ t ∧ t < o + 6
  · rw [if_pos hc]
    obtain ⟨d, rfl⟩ : ∃ d, t = o + d := ⟨t - o, by omega⟩
    have : d = 0 ∨ d = 1 ∨ d = 2 ∨ d = 3 ∨ d = 4 ∨ d = 5 := by omega
    rcases this with rfl | rfl | rfl | rfl | rfl | rfl <;> simp [List.getElem?_set] <;> omega
  · rw [if_neg hc]
    simp only [List.getElem?_set]
    repeat (rw [if_neg (by omega)])
theorem flat_set (l : List Atr) (k : Nat) (a : Atr) (hk : k < l.length) : (((((((l.flatMap Atr.cells).set (k * 6) (.string a.name)).set (k * 6 + 1) (.int .i64 a.kind)).set (k * 6 + 2) (.int .i64 a.num)).set (k * 6 + 3) (.string a.text)).set (k * 6 + 4) (.slice a.ia a.ints.length a.ic)).set (k * 6 + 5) (.slice a.ta a.texts.length a.tc)) = (l.set k a).flatMap Atr.cells := by
  apply List.ext_getElem?
  intro t
  rw [set6_at _ _ _ _ _ _ _ _ _ (by rw [flat_len]; omega)]
  rcases Nat.lt_or_ge t (l.length * 6) with ht | ht
  · obtain ⟨j, i, hi, rfl⟩ : ∃ j i, i < 6 ∧ t = j * 6 + i := ⟨t / 6, t % 6, Nat.mod_lt _ (by omega), by omega⟩
    have hj : j < l.length := by omega
    rw [flat_at (l := l.set k a) (by simpa using hj) hi]
    by_cases hjk : j = k
    · subst hjk
      rw [if_pos (by omega), show j * 6 + i - j * 6 = i by omega]
      simp [Atr.cells]
    · rw [if_neg (by omega), flat_at hj hi]
      rw [List.getElem_set_ne (fun e => hjk e.symm)]
  · rw [if_neg (by omega), List.getElem?_eq_none (by rw [flat_len]; exact ht), List.getElem?_eq_none (by rw [flat_len]; simpa using ht)]
theorem grown_step {A B C : World} {r : Option Nat} (h : A.grownBy B r) (k : B.grownBy C r) : A.grownBy C r :=
  ⟨k.os.trans h.os, k.tape.trans h.tape, k.output.trans h.output, Nat.le_trans h.size k.size, fun t ht hne => (k.block t (Nat.lt_of_lt_of_le ht h.size) hne).trans (h.block t ht hne)⟩
theorem six_grown (w : World) (g o : Nat) (a : Atr) : w.grownBy (six w g o a) (some g) :=
  grown_step (grown_step (grown_step (grown_step (grown_step (grownBy_setOff _ _ _ _) (grownBy_setOff _ _ _ _)) (grownBy_setOff _ _ _ _)) (grownBy_setOff _ _ _ _)) (grownBy_setOff _ _ _ _)) (grownBy_setOff _ _ _ _)
theorem AtrOwn.store {w : World} {base g c : Nat} {l : List Atr} (h : AtrOwn w base (.slice (some ⟨g, 0, none⟩) l.length c) l) {k : Nat} (hk : k < l.length) {a : Atr} (ha : a.Lies w) (haf : a.Fits)
    (hoff : ∀ x, (a.ia = some x ∨ a.ta = some x) → x.block < w.heap.size ∧ g ≠ x.block) : AtrOwn (six w g (k * 6) a) base (.slice (some ⟨g, 0, none⟩) l.length c) (l.set k a) := by
  have hg := six_grown w g (k * 6) a
  have key : ∀ b ∈ l.set k a, b.Lies w ∧ b.Fits ∧ ∀ x, (b.ia = some x ∨ b.ta = some x) → x.block < w.heap.size ∧ g ≠ x.block := by
    intro b hb
    rcases List.mem_or_eq_of_mem_set hb with hb | rfl
    · exact ⟨h.lies b hb, h.fits b hb, fun x hx => ⟨(h.off b hb x hx).1, fun e => (h.off b hb x hx).2 (by rw [← e]; rfl)⟩⟩
    · exact ⟨ha, haf, hoff⟩
  refine ⟨?_, fun b hb => (key b hb).1.grown hg (fun x hx e => ((key b hb).2.2 x hx).2 (Option.some.inj e)), fun b hb => (key b hb).2.1, fun b hb x hx => ⟨by simpa [World.setCell] using ((key b hb).2.2 x hx).1, fun e => ((key b hb).2.2 x hx).2 (Option.some.inj e)⟩, fun e => by have := congrArg List.length e; simp at this; subst this; simp at hk⟩
  have h0 := (h.own.stored (k * 6) (.string a.name)).1
  have h1 := (h0.stored (k * 6 + 1) (.int .i64 a.kind)).1
  have h2 := (h1.stored (k * 6 + 2) (.int .i64 a.num)).1
  have h3 := (h2.stored (k * 6 + 3) (.string a.text)).1
  have h4 := (h3.stored (k * 6 + 4) (.slice a.ia a.ints.length a.ic)).1
  have h5 := (h4.stored (k * 6 + 5) (.slice a.ta a.texts.length a.tc)).1
  rw [flat_set l k a hk] at h5
  simpa using h5

set_option maxRecDepth 100000 in
set_option maxHeartbeats 8000000 in
theorem put_found (v : Value) (l : List Atr) (base : Nat) (a : Atr) (w : World) (ho : AtrOwn w base v l) (hl : l.length ≤ 100000) (hr : Rises l) (hf : foundB l a.name = true) (ha : a.Lies w) (haf : a.Fits)
    (hoff : ∀ x, (a.ia = some x ∨ a.ta = some x) → x.block < w.heap.size ∧ v.ownBlock ≠ some x.block) :
    Calls Tryz.prog 40 #[v, a.val] w fun e w' => e = .returned v ∧ AtrOwn w' base v (l.set (lowerB l a.name) a) ∧ (∃ g, v.ownBlock = some g ∧ w.grownBy w' (some g)) := by
  have hlt : lowerB l a.name < l.length := by
    rcases Nat.lt_or_ge (lowerB l a.name) l.length with h | h
    · exact h
    · unfold foundB at hf; rw [List.getElem?_eq_none h] at hf; cases hf
  obtain ⟨g, c, cur, rfl, hbg, hgc, hcap, hcs, htk⟩ := ho.form (by omega)
  have hz := blkLt hgc
  have HOS := Lib.hid ho.sl
  have HO := Lib.hid ho
  have HR := Lib.hid hr
  have HF := Lib.hid hf
  have HOFF := Lib.hid hoff
  have HTK := Lib.hid htk
  have HA := Lib.hid ha
  have HGC := Lib.hid hgc
  obtain ⟨k, hk⟩ : ∃ k, k = lowerB l a.name := ⟨_, rfl⟩
  rw [← hk] at hlt ⊢
  have HK := Lib.hid hk
  have hk0 : (0 : Int) ≤ (k : Int) := by omega
  have hkl : (k : Int) < (l.length : Int) := by omega
  obtain ⟨y0, e0⟩ : ∃ y, cur[k * 6]? = some y := ⟨_, Array.getElem?_eq_getElem (by omega)⟩
  obtain ⟨y1, e1⟩ : ∃ y, cur[k * 6 + 1]? = some y := ⟨_, Array.getElem?_eq_getElem (by omega)⟩
  obtain ⟨y2, e2⟩ : ∃ y, cur[k * 6 + 2]? = some y := ⟨_, Array.getElem?_eq_getElem (by omega)⟩
  obtain ⟨y3, e3⟩ : ∃ y, cur[k * 6 + 3]? = some y := ⟨_, Array.getElem?_eq_getElem (by omega)⟩
  obtain ⟨y4, e4⟩ : ∃ y, cur[k * 6 + 4]? = some y := ⟨_, Array.getElem?_eq_getElem (by omega)⟩
  obtain ⟨y5, e5⟩ : ∃ y, cur[k * 6 + 5]? = some y := ⟨_, Array.getElem?_eq_getElem (by omega)⟩
  clear ho hr hf hoff htk ha hk hgc
  go_enter Tryz.func40, Tryz.ntmps40
  go_wp2_with (go_at_call 63; refine Calls.mono (position_any _ _ l a.name _ (HOS.out.below (by (repeat (first | (with_reducible refine below_set ?_ (by first | exact Nat.le_refl _ | omega) _ _) | with_reducible exact Below.refl _ _ | with_reducible refine belowA ?_ _ | with_reducible refine belowD ?_ | with_reducible refine belowN ?_ _)))) (by omega) HR.out) ?_; rintro e w1 ⟨rfl, hb1⟩; rw [HF.out, ← HK.out]; have c0 := rdCell hb1 w.heap.size (by simp); have f0 := rdFree hb1 w.heap.size (by simp); have c1 := blkCell ((hb1.block g (by simp; omega)).trans (heap_alloc_old HGC.out _)); have f1 := blkFree ((hb1.block g (by simp; omega)).trans (heap_alloc_old HGC.out _)))
  go_ret
  have hbx : Below w.heap.size w w1 := by (repeat (first | (with_reducible refine below_set ?_ (by first | exact Nat.le_refl _ | omega) _ _) | with_reducible exact Below.refl _ _ | with_reducible refine belowA ?_ _ | with_reducible refine below_own' ?_ hb1 | with_reducible refine belowD ?_ | with_reducible refine belowN ?_ _))
  refine ⟨rfl, (HO.out.below hbx).store hlt (HA.out.below hbx) haf (fun x hx => ⟨Nat.lt_of_lt_of_le (HOFF.out x hx).1 hbx.size, fun e => (HOFF.out x hx).2 (by rw [← e]; rfl)⟩), g, rfl, ?_⟩
  have hgr := six_grown w1 g (k * 6) a
  exact ⟨hgr.os.trans hbx.os, hgr.tape.trans hbx.tape, hgr.output.trans hbx.output, Nat.le_trans hbx.size hgr.size, fun t ht hne => (hgr.block t (Nat.lt_of_lt_of_le ht hbx.size) hne).trans (hbx.block t ht)⟩
end Go.Proofs.YtmepjbjmjbpchaaGreatDoor
end
