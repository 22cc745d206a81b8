/- Texts of this claim, laid together: At5, Ar2, Ac1, At7, At8, Copy. -/
import Derived.WalkLawsBesides
import Derived.Maps.AppendAt
import Derived.Deep.AppendLies
import Derived.Laws.CopyOwn
import Derived.Laws.MakeOwn
import Derived.WalkKit
import Derived.Test.YtmepjbjmjbpchaaGreatDoorMg4
import Derived.Test.YtmepjbjmjbpchaaGreatDoorMg5
import Derived.Test.YtmepjbjmjbpchaaGreatDoorMg6
section
/- attrs.Check. -/
namespace Go.Proofs.YtmepjbjmjbpchaaGreatDoor
open Go Go.RowKit
set_option linter.unusedVariables false
set_option linter.unusedSimpArgs false
attribute [local go_sem] Oper.semAt_some

theorem cell_put_keep {W : World} {k : Nat} {o o' : Obj} (h : W.heap[k]? = some o) (hc : o.isCells = false) {a : Addr} {v : Value} (ha : W.cell? a = some v) : (W.putObj k o').cell? a = some v := by
  by_cases hk : a.block = k
  · subst hk
    unfold World.cell? at ha
    rw [h] at ha
    cases o <;> simp [Obj.isCells] at hc ha
  · unfold World.cell? at ha ⊢
    rw [World.putObj_heap_other (w := W) (r := k) (k := a.block) (fun e => hk e)]
    exact ha
structure KeepsCells (W W' : World) : Prop where
  size : W.heap.size ≤ W'.heap.size
  cell : ∀ a v, W.cell? a = some v → W'.cell? a = some v
theorem IntSl.keeps {W W' : World} {a : Option Addr} {zs : List Int} (h : IntSl W a zs) (hk : KeepsCells W W') : IntSl W' a zs := by
  rcases h with h | ⟨g, off, h1, h2, h3⟩
  · exact .inl h
  · exact .inr ⟨g, off, h1, Nat.lt_of_lt_of_le h2 hk.size, fun j hj => hk.cell _ _ (h3 j hj)⟩
theorem StrSl.keeps {W W' : World} {a : Option Addr} {zs : List ByteArray} (h : StrSl W a zs) (hk : KeepsCells W W') : StrSl W' a zs := by
  rcases h with h | ⟨g, off, h1, h2, h3⟩
  · exact .inl h
  · exact .inr ⟨g, off, h1, Nat.lt_of_lt_of_le h2 hk.size, fun j hj => hk.cell _ _ (h3 j hj)⟩
theorem cells_len (a : Atr) : a.cells.length = 6 := rfl
theorem AtrSl.keeps {W W' : World} {p : Option Addr} {l : List Atr} (h : AtrSl W p l) (hk : KeepsCells W W') : AtrSl W' p l := by
  refine ⟨?_, fun a ha => ⟨(h.lies a ha).ints.keeps hk, (h.lies a ha).texts.keeps hk⟩, h.fits⟩
  rcases h.at' with h | ⟨g, off, h1, h2, h3⟩
  · exact .inl h
  · refine .inr ⟨g, off, h1, Nat.lt_of_lt_of_le h2 hk.size, fun j hj i hi => ?_⟩
    have := h3 j hj i hi
    have hx : l[j].cells[i]? = some (l[j].cells[i]'(by rw [cells_len]; exact hi)) := List.getElem?_eq_getElem _
    rw [hx] at this ⊢
    exact hk.cell _ _ this
theorem keeps_put {W : World} {k : Nat} {o o' : Obj} (h : W.heap[k]? = some o) (hc : o.isCells = false) : KeepsCells W (W.putObj k o') :=
  ⟨by simp [World.putObj], fun a v ha => cell_put_keep h hc ha⟩

theorem heap_alloc_new' (w : World) (o : Obj) {k : Nat} (h : k = w.heap.size) : (w.alloc o).heap[k]? = some o := by subst h; exact heap_alloc_new w o
def CkPost (l : List Atr) (w : World) (e : Ending) (w' : World) : Prop := e = .returned (.int .i64 (if rightL l then 0 else 20)) ∧ Below w.heap.size w w'
structure CkI (w : World) (l : List Atr) (pre : List Nat) (W : World) : Prop where
  all : ∀ x ∈ pre, okAt l x = true
  res : W.heap[w.heap.size]? = some (.cells #[.int .i64 0] 28 (0, 0))
  below : Below w.heap.size w W
structure CkX (w : World) (l : List Atr) (W : World) : Prop where
  bad : (List.range l.length).all (okAt l) = false
  res : W.heap[w.heap.size]? = some (.cells #[.int .i64 20] 28 (0, 0))
  below : Below w.heap.size w W

set_option maxRecDepth 100000 in
set_option maxHeartbeats 4000000 in
theorem check_any' (p : Option Addr) (c : Nat) (l : List Atr) (w : World) (hs : AtrSl w p l) (hl : l.length ≤ 100000000000000) :
    Calls Tryz.prog 19 #[.slice p l.length c] w (CkPost l w) := by
  by_cases h100 : 100 < l.length
  · have hr : rightL l = false := by unfold rightL; simp; omega
    have HR := Lib.hid hr
    have h1 : (100 : Int) < (l.length : Int) := by omega
    clear hr
    go_enter Tryz.func19, Tryz.ntmps19
    go_wp2_with fail
    go_step3
    go_wp2_with fail
    rw [Exit.noGoto_ret]
    refine bodyPost_ret (v := .int .i64 20) (by simp [results, Tryz.results19, go_sem]) rfl ⟨by rw [HR.out]; rfl, ?_⟩
    (repeat (first | (with_reducible refine below_set ?_ (by first | exact Nat.le_refl _ | omega) _ _) | with_reducible exact Below.refl _ _ | with_reducible refine belowA ?_ _ | with_reducible refine belowD ?_ | with_reducible refine belowN ?_ _))
  · have h1 : ((l.length : Int)) ≤ 100 := by omega
    have h1d : decide ((100 : Int) < (l.length : Int)) = false := by simp; omega
    have HS := Lib.hid hs
    clear hs
    refine (callsIn_wide (n := 6)).1 ?_
    refine callsIn_of_wp_marks Tryz.func19 rfl trivial ?_ rfl
    simp only [Tryz.ntmps19, List.size_toArray, List.length_cons, List.length_nil, Nat.reduceAdd, Nat.reduceSub, Array.replicate_succ, Array.replicate_zero, List.push_toArray, List.append_toArray, List.nil_append, List.cons_append]
    gi_wp2_with fail
    refine wpIn_scope ?_
    gi_wp2_with fail
    refine wpIn_label ?_
    gi_wp2_with (refine ⟨trivial, ?_⟩; gi_at_call 41; refine (callsIn_wide.2 (rising_any _ _ _ _)).mono ?_; rintro e w' ⟨rfl, rfl⟩)
    refine wpIn_range_outer rfl (by omega) (gf := 69) (lb := #[.pointer (some ⟨w.heap.size + 1, 0, none⟩)]) rfl trivial (enters_of Tryz.func69 (by kernel_rfl) rfl)
      (rising_seq 5 (w.heap.size + 1) p c l hl (by omega)) (fun W r h => h.elim) ?pre (fun h k hp => k (h hp)) ?kb (fun _ => rfl)
      (fun pre W => CkI w l pre W) (fun c pre W => c = .ret ∧ CkX w l W) ?hI ?hIx ?h0
      (fun x a' _ => a' = { tmps := #[.slice p l.length c, undef, .pointer (some ⟨w.heap.size, 0, none⟩), undef, .bool (okAt l x), .slice p l.length c, .int .i64 l.length, .bool false, .slice p l.length c, .func (.func 69) #[] #[.pointer (some ⟨w.heap.size + 1, 0, none⟩)], (l[x]?.map Atr.val).getD undef, .bool (okAt l x), undef], defers := [] }) (fun x a' _ _ _ _ h _ _ => h) ?assign ?body ?done ?stop
    case pre => exact fun W1 hb => ⟨(hb.block _ (by simp)).trans (heap_alloc_new' _ _ (by simp)), HS.out.below (((((Below.refl _ w).alloc (Nat.le_refl _) _).alloc (by simp) _).trans (hb.mono (by simp <;> omega))))⟩
    case kb => exact fun W m o o' hm ho hc _ hp => ⟨(World.putObj_heap_other (by simp at hm; omega)).trans hp.box, hp.lst.keeps (keeps_put ho hc)⟩
    case hI =>
      rintro pre W W' row h hg hr
      exact ⟨h.all, turn_keeps hg hr (fun _ _ h => h.elim) h.res, turn_below h.below hg hr (fun _ _ h => h.elim) (Nat.le_refl _) (by simp; omega)⟩
    case hIx =>
      rintro c pre W W' row ⟨hc, h⟩ hg hr
      exact ⟨hc, h.bad, turn_keeps hg hr (fun _ _ h => h.elim) h.res, turn_below h.below hg hr (fun _ _ h => h.elim) (Nat.le_refl _) (by simp; omega)⟩
    case h0 =>
      refine ⟨by simp, ?_, ?_⟩
      · exact allocPast _ (heap_alloc_new _ _) (by simp)
      · (repeat (first | (with_reducible refine below_set ?_ (by first | exact Nat.le_refl _ | omega) _ _) | with_reducible exact Below.refl _ _ | with_reducible refine belowA ?_ _ | with_reducible refine belowD ?_ | with_reducible refine belowN ?_ _))
    case assign =>
      intro yl pre x W K hi hK
      gi_wp2_with fail
      exact hK _ _ (KeepsFrom.refl _ _) (fun h => h) hi rfl
    case body =>
      rintro yl pre x a' W hyl hrec hi rfl ⟨rfl, hlt⟩
      cases ho : okAt l x with
      | true =>
        have HO := Lib.hid ho
        have HI := Lib.hid hi
        clear ho hi
        gi_wp2_with fail
        exact ⟨KeepsFrom.refl _ _, fun h => h, fun y hy => by
          rcases List.mem_append.1 hy with hy | hy
          · exact HI.out.all y hy
          · rw [List.mem_singleton.1 hy]; exact HO.out, HI.out.res, HI.out.below⟩
      | false =>
        have HO := Lib.hid ho
        have c0 := blkCell hi.res; have f0 := blkFree hi.res
        have HI := Lib.hid hi
        clear ho hi
        gi_wp2_with fail
        exact ⟨(KeepsOthers.setCell _ _ _).from _, rfl, by
          rw [List.all_eq_false]; exact ⟨x, List.mem_range.2 hlt, by rw [HO.out]; simp⟩, one_setCell HI.out.res, below_set HI.out.below (Nat.le_refl _) _ _⟩
    case done =>
      rintro D xs W hD rfl hi hK
      have c0 := blkCell hi.res; have f0 := blkFree hi.res
      have HI := Lib.hid hi
      have HK : Hid ((W.setCell ⟨w.heap.size, 0, none⟩ (.int .i64 0)).heap[D]? = some (.deferred (some []))) := (heap_setCell_other _ _ _ _ (by simp at hD ⊢; omega)).trans hK
      have HR : Hid (rightL l = true) := by
        unfold Hid rightL
        rw [Bool.and_eq_true]
        exact ⟨by simp; omega, List.all_eq_true.2 hi.all⟩
      clear hi hK
      gi_wp2
      rw [Exit.noGoto_ret]
      have c1 := one_setCell (u := .int .i64 0) HI.out.res
      have c2 := blkCell ((World.putObj_heap_other (by simp at hD; omega)).trans c1 : ((W.setCell ⟨w.heap.size, 0, none⟩ (.int .i64 0)).putObj D (.deferred none)).heap[w.heap.size]? = _)
      refine ⟨by simp, .inl ⟨_, _, rfl, run_takeDeferred HK.out, ?_⟩⟩
      refine ⟨.int .i64 0, ?_, by rw [HR.out]; rfl, ?_⟩
      · simp [results, Tryz.results19, go_sem, c2]
      · exact (below_set HI.out.below (Nat.le_refl _) 0 (.int .i64 0)).grown (grownBy_putObj' _ D _) (by simpa [World.setCell] using HI.out.below.size) (fun k e => by cases e; simp at hD; omega)
    case stop =>
      rintro D c pre W hD _ ⟨rfl, hx⟩ hK
      have hx0 : (W.putObj D (.deferred none)).heap[w.heap.size]? = _ := (World.putObj_heap_other (by simp at hD; omega)).trans hx.res
      have HX := Lib.hid hx
      have c0 := blkCell hx0
      have HK := Lib.hid hK
      have HB : Hid (Below w.heap.size w (W.putObj D (.deferred none))) := hx.below.grown (grownBy_putObj' W D _) hx.below.size (fun k e => by cases e; simp at hD; omega)
      have HR : Hid (rightL l = false) := by
        unfold Hid rightL
        rw [hx.bad]; simp
      clear hx hx0 hK
      gi_wp2
      rw [Exit.noGoto_ret]
      refine ⟨by simp, .inl ⟨_, _, rfl, run_takeDeferred HK.out, ?_⟩⟩
      refine ⟨.int .i64 20, ?_, by rw [HR.out]; rfl, HB.out⟩
      simp [results, Tryz.results19, go_sem, c0]
end Go.Proofs.YtmepjbjmjbpchaaGreatDoor
end
section
/- The reference: Right at an attribute, RightList. -/
namespace Go.Proofs.YtmepjbjmjbpchaaGreatDoor
open Go Go.RowKit
set_option linter.unusedVariables false
set_option linter.unusedSimpArgs false
attribute [local go_sem] Oper.semAt_some

/-- The six cells of an attribute. -/
structure AtCells (w : World) (g o : Nat) (a : Atr) : Prop where
  c0 : w.cell? ⟨g, o, none⟩ = some (.string a.name)
  c1 : w.cell? ⟨g, o + 1, none⟩ = some (.int .i64 a.kind)
  c2 : w.cell? ⟨g, o + 2, none⟩ = some (.int .i64 a.num)
  c3 : w.cell? ⟨g, o + 3, none⟩ = some (.string a.text)
  c4 : w.cell? ⟨g, o + 4, none⟩ = some (.slice a.ia a.ints.length a.ic)
  c5 : w.cell? ⟨g, o + 5, none⟩ = some (.slice a.ta a.texts.length a.tc)
theorem AtrSl.row {w : World} {p : Option Addr} {l : List Atr} (h : AtrSl w p l) {j : Nat} (hj : j < l.length) : ∃ g off, p = some ⟨g, off, none⟩ ∧ g < w.heap.size ∧ ∀ k (hk : k < l.length), AtCells w g (off + k * 6) l[k] := by
  rcases h.at' with h | ⟨g, off, h1, h2, h3⟩
  · subst h; simp at hj
  · exact ⟨g, off, h1, h2, fun k hk => ⟨h3 k hk 0 (by omega), h3 k hk 1 (by omega), h3 k hk 2 (by omega), h3 k hk 3 (by omega), h3 k hk 4 (by omega), h3 k hk 5 (by omega)⟩⟩
theorem AtCells.below {w w1 : World} {g o : Nat} {a : Atr} (h : AtCells w g o a) (hg : g < w.heap.size) (hb : Below w.heap.size w w1) : AtCells w1 g o a :=
  ⟨(rdCell hb g hg _).trans h.c0, (rdCell hb g hg _).trans h.c1, (rdCell hb g hg _).trans h.c2, (rdCell hb g hg _).trans h.c3, (rdCell hb g hg _).trans h.c4, (rdCell hb g hg _).trans h.c5⟩

theorem all_range_succ (P : Nat → Bool) (j : Nat) : (List.range (j + 1)).all P = ((List.range j).all P && P j) := by
  rw [List.range_succ, List.all_append]; simp
theorem all_range_false {P : Nat → Bool} {n j : Nat} (hj : j < n) (h : P j = false) : (List.range n).all P = false := by
  rw [List.all_eq_false]; exact ⟨j, List.mem_range.2 hj, by rw [h]; simp⟩

end Go.Proofs.YtmepjbjmjbpchaaGreatDoor
end
section
/- graph.Attrs: attributes in new memory. -/
namespace Go.Proofs.YtmepjbjmjbpchaaGreatDoor
open Go Go.RowKit Go.Sort
set_option linter.unusedVariables false
set_option linter.unusedSimpArgs false

/-- The data of an attribute, wherever its lists lie. -/
structure Dat where
  name : ByteArray
  kind : Int
  num : Int
  text : ByteArray
  ints : List Int
  texts : List ByteArray
deriving DecidableEq
def Atr.dat (a : Atr) : Dat := ⟨a.name, a.kind, a.num, a.text, a.ints, a.texts⟩
theorem IntSl.grown {w w' : World} {row : Option Nat} {a : Option Addr} {zs : List Int} (h : IntSl w a zs) (hg : w.grownBy w' row) (hne : ∀ x, a = some x → row ≠ some x.block) : IntSl w' a zs := by
  rcases h with h | ⟨g, off, rfl, h2, h3⟩
  · exact .inl h
  · refine .inr ⟨g, off, rfl, Nat.lt_of_lt_of_le h2 hg.size, fun j hj => ?_⟩
    rw [← h3 j hj]
    unfold World.cell?
    rw [hg.block g h2 (fun e => hne _ rfl e.symm)]
theorem StrSl.grown {w w' : World} {row : Option Nat} {a : Option Addr} {zs : List ByteArray} (h : StrSl w a zs) (hg : w.grownBy w' row) (hne : ∀ x, a = some x → row ≠ some x.block) : StrSl w' a zs := by
  rcases h with h | ⟨g, off, rfl, h2, h3⟩
  · exact .inl h
  · refine .inr ⟨g, off, rfl, Nat.lt_of_lt_of_le h2 hg.size, fun j hj => ?_⟩
    rw [← h3 j hj]
    unfold World.cell?
    rw [hg.block g h2 (fun e => hne _ rfl e.symm)]
/-- A slice of attributes in a row of its own, the lists of its elements in other blocks. -/
structure AtrOwn (w : World) (base : Nat) (v : Value) (l : List Atr) : Prop where
  own : w.ownsRow base 27 6 v l.length (l.flatMap Atr.cells)
  lies : ∀ a ∈ l, a.Lies w
  fits : ∀ a ∈ l, a.Fits
  off : ∀ a ∈ l, ∀ x, (a.ia = some x ∨ a.ta = some x) → x.block < w.heap.size ∧ v.ownBlock ≠ some x.block
  nil : l = [] → v = .slice none 0 0
theorem AtrOwn.emp (w : World) (base : Nat) : AtrOwn w base (.slice none 0 0) [] := ⟨World.ownsRow_nil _ _ _ _, by simp, by simp, by simp, fun _ => rfl⟩
theorem AtrOwn.below {w w1 : World} {base : Nat} {v : Value} {l : List Atr} (h : AtrOwn w base v l) (hb : Below w.heap.size w w1) : AtrOwn w1 base v l :=
  ⟨h.own.kept (grown_below hb) (by cases hv : v.ownBlock <;> simp), fun a ha => (h.lies a ha).below hb, h.fits, fun a ha x hx => ⟨Nat.lt_of_lt_of_le (h.off a ha x hx).1 hb.size, (h.off a ha x hx).2⟩, h.nil⟩
theorem Atr.Lies.grown {w w' : World} {row : Option Nat} {a : Atr} (h : a.Lies w) (hg : w.grownBy w' row) (hne : ∀ x, (a.ia = some x ∨ a.ta = some x) → row ≠ some x.block) : a.Lies w' :=
  ⟨h.ints.grown hg (fun x hx => hne x (.inl hx)), h.texts.grown hg (fun x hx => hne x (.inr hx))⟩
theorem AtrOwn.snoc {w w' : World} {base : Nat} {v v' : Value} {l : List Atr} {a : Atr} (h : AtrOwn w base v l) (hl : a.Lies w) (hf : a.Fits) (ho : ∀ x, (a.ia = some x ∨ a.ta = some x) → x.block < w.heap.size ∧ v.ownBlock ≠ some x.block)
    (hown : w'.ownsRow base 27 6 v' (l.length + 1) (l.flatMap Atr.cells ++ a.cells)) (hg : w.grownBy w' v.ownBlock) {H : Nat} (hat : v'.ownBlock = v.ownBlock ∨ v'.ownBlock = some H) (hH : H = w.heap.size) : AtrOwn w' base v' (l ++ [a]) := by
  have key : ∀ b, (b ∈ l ∨ b = a) → b.Lies w ∧ b.Fits ∧ ∀ x, (b.ia = some x ∨ b.ta = some x) → x.block < w.heap.size ∧ v.ownBlock ≠ some x.block := by
    rintro b (hb | rfl)
    · exact ⟨h.lies b hb, h.fits b hb, h.off b hb⟩
    · exact ⟨hl, hf, ho⟩
  refine ⟨by simpa using hown, fun b hb => ?_, fun b hb => (key b (by simpa using hb)).2.1, fun b hb x hx => ?_, fun e => by simp at e⟩
  · obtain ⟨h1, _, h3⟩ := key b (by simpa using hb)
    exact h1.grown hg (fun x hx => (h3 x hx).2)
  · obtain ⟨_, _, h3⟩ := key b (by simpa using hb)
    have h4 := h3 x hx
    refine ⟨Nat.lt_of_lt_of_le h4.1 hg.size, ?_⟩
    rcases hat with e | e
    · rw [e]; exact h4.2
    · rw [e]; intro e2; have := Option.some.inj e2; omega
theorem flat_at {l : List Atr} {j i : Nat} (hj : j < l.length) (hi : i < 6) : (l.flatMap Atr.cells)[j * 6 + i]? = l[j].cells[i]? := by
  induction l generalizing j with
  | nil => simp at hj
  | cons a l ih =>
    rw [List.flatMap_cons]
    cases j with
    | zero => rw [List.getElem?_append_left (by rw [cells_len]; omega)]; simp
    | succ k =>
      rw [List.getElem?_append_right (by rw [cells_len]; omega), cells_len, show (k + 1) * 6 + i - 6 = k * 6 + i by omega, ih (by simpa using hj)]
      simp
theorem AtrOwn.sl {w : World} {base : Nat} {p : Option Addr} {n c : Nat} {l : List Atr} (h : AtrOwn w base (.slice p n c) l) : AtrSl w p l := by
  refine ⟨?_, h.lies, h.fits⟩
  rcases h.own.2 with ⟨h1, h2⟩ | ⟨g, cap, cur, h1, hb, h2, h4, h5, h6, h7⟩
  · exact .inl (List.length_eq_zero_iff.1 h2)
  · cases h1
    refine .inr ⟨g, 0, rfl, blkLt h2, fun j hj i hi => ?_⟩
    rw [blkCell h2, Nat.zero_add, ← flat_at hj hi, ← h7, List.getElem?_take, if_pos (by omega)]
    simp
theorem grownBy_setOff (w : World) (B i : Nat) (v : Value) : w.grownBy (w.setCell ⟨B, i, none⟩ v) (some B) :=
  ⟨rfl, rfl, rfl, by simp [World.setCell], fun k hk hne => heap_setCell_other _ _ _ _ (fun e => hne (by rw [e]))⟩
def zAttr : Value := .agg #[.string ⟨#[]⟩, .int .i64 0, .int .i64 0, .string ⟨#[]⟩, .slice none 0 0, .slice none 0 0]

set_option maxRecDepth 100000 in
set_option maxHeartbeats 8000000 in
theorem attrs_any (p : Option Addr) (c : Nat) (l : List Atr) (w : World) (hs : AtrSl w p l) (hl : l.length ≤ 100000) :
    Calls Tryz.prog 39 #[.slice p l.length c] w fun e w' => ∃ v l', e = .returned v ∧ AtrOwn w' w.heap.size v l' ∧ l'.map Atr.dat = l.map Atr.dat ∧ (∀ a ∈ l', ∀ x, (a.ia = some x ∨ a.ta = some x) → w.heap.size ≤ x.block) ∧ Below w.heap.size w w' := by
  obtain ⟨i0, hin, hz0, hz1, hz2⟩ := info_parts (show (Tryz.prog.info? 27).map (fun i => (i.zero, i.size, i.bytes)) = some (some zAttr, 6, 96) by kernel_rfl)
  have HS := Lib.hid hs
  clear hs
  go_enter Tryz.func39, Tryz.ntmps39
  go_wp2_with fail
  go_loopw [3, 8] (fun v i wr => ∃ (j : Nat) (l' : List Atr), i = .int .i64 j ∧ j ≤ l.length ∧ l'.map Atr.dat = (l.take j).map Atr.dat ∧ AtrOwn wr w.heap.size v l' ∧ (∀ a ∈ l', ∀ x, (a.ia = some x ∨ a.ta = some x) → w.heap.size ≤ x.block) ∧ Below w.heap.size w wr) (fun _ i _ => l.length - (intOf i).toNat)
  case atStart => exact ⟨0, [], rfl, Nat.zero_le _, by simp, AtrOwn.emp _ _, by simp, Below.refl _ _⟩
  case round =>
    obtain ⟨j, l', rfl, hj, hd, ho, hfr, hb⟩ := hrel
    have HFR := Lib.hid hfr
    have HB := Lib.hid hb
    have HD := Lib.hid hd
    have HO := Lib.hid ho
    have hsw := HS.out.below HB.out
    have hlen : Hid (l'.length = j) := Lib.hid (by have := congrArg List.length hd; simpa [Nat.min_eq_left hj] using this)
    clear hb hd ho hfr
    rcases Nat.lt_or_ge j l.length with hlt | hge
    · obtain ⟨g, off, rfl, hzg, hrow⟩ := hsw.row hlt
      obtain ⟨a0, ha0⟩ : ∃ a0, a0 = l[j] := ⟨_, rfl⟩
      have hcj := hrow _ hlt
      rw [← ha0] at hcj
      have HA0 := Lib.hid ha0
      have HLI := Lib.hid (fun (W : World) (hb : Below wr.heap.size wr W) => (hsw.lies a0 (by rw [ha0]; exact List.getElem_mem _)).below hb)
      have HFI := Lib.hid (hsw.fits a0 (by rw [ha0]; exact List.getElem_mem _))
      clear ha0 hrow hsw
      obtain ⟨k0, k1, k2, k3, k4, k5⟩ := hcj
      obtain ⟨pv, pc, rfl, -⟩ := own_form HO.out.own
      go_wp2_with (first
        | (at_builtin; refine wpList_append_own_at _ rfl _ _ 22 rfl w.heap.size 27 i0 zAttr 6 96 Tryz.underlying22 hin hz0 hz1 hz2 rfl (by decide) _ _ _ rfl (by exact (HO.out.below (by (repeat (first | (with_reducible refine below_set ?_ (by first | exact Nat.le_refl _ | omega) _ _) | with_reducible exact Below.refl _ _ | with_reducible refine belowA ?_ _ | with_reducible refine below_own' ?_ hb4 | with_reducible refine below_own' ?_ hb2 | with_reducible refine belowD ?_ | with_reducible refine belowN ?_ _)))).own) ⟨w4.heap.size, 0, none⟩ 1 1 [.string a0.name, .int .i64 a0.kind, .int .i64 a0.num, .string a0.text, .slice ia' a0.ints.length ic', .slice ta' a0.texts.length tc'] rfl rfl ?c1 ?c2 ?c3 ?c4 ?c5 ?_)
        | (go_at_call 68; refine Calls.mono (cloneS_any _ _ a0.texts _ HFI.out.tl ?_) ?_; (focus (exact (HLI.out _ (by (repeat (first | (with_reducible refine below_set ?_ (by first | exact Nat.le_refl _ | omega) _ _) | with_reducible exact Below.refl _ _ | with_reducible refine belowA ?_ _ | with_reducible refine below_own' ?_ hb2 | with_reducible refine belowD ?_ | with_reducible refine belowN ?_ _)))).texts)); rintro e w4 ⟨ta', tc', rfl, hsl4, hcap4, hfr4, hb4⟩; have c4 := rdCell hb4 wr.heap.size (by first | (simp; done) | (simp; omega)); have f4 := rdFree hb4 wr.heap.size (by first | (simp; done) | (simp; omega)); have hzw4 : wr.heap.size < w4.heap.size := (by have := Below.size hb4; simp at this; omega))
        | (go_at_call 67; refine Calls.mono (cloneI_any _ _ a0.ints _ HFI.out.il ?_) ?_; (focus (exact (HLI.out _ (by (repeat (first | (with_reducible refine below_set ?_ (by first | exact Nat.le_refl _ | omega) _ _) | with_reducible exact Below.refl _ _ | with_reducible refine belowA ?_ _ | with_reducible refine belowD ?_ | with_reducible refine belowN ?_ _)))).ints)); rintro e w2 ⟨ia', ic', rfl, hsl2, hcap2, hfr2, hb2⟩; have c2 := rdCell hb2 wr.heap.size (by first | (simp; done) | (simp; omega)); have f2 := rdFree hb2 wr.heap.size (by first | (simp; done) | (simp; omega)); have hzw2 : wr.heap.size < w2.heap.size := (by have := Below.size hb2; simp at this; omega)))
      case c1 =>
        intro t u hj
        have hlt6 : t < 6 := by have := (List.getElem?_eq_some_iff.1 hj).1; simpa using this
        have hadd : (⟨w4.heap.size, 0, none⟩ : Addr).add t = ⟨w4.heap.size, 0 + t, none⟩ := by
          unfold Addr.add; split
          · rename_i h; subst h; rfl
          · rfl
        rw [hadd, Nat.zero_add, blkCell (heap_alloc_new' _ _ (by simp [World.setCell]))]
        have ht : t = 0 ∨ t = 1 ∨ t = 2 ∨ t = 3 ∨ t = 4 ∨ t = 5 := by omega
        rcases ht with rfl | rfl | rfl | rfl | rfl | rfl <;> simpa using hj
      case c2 =>
        intro u hu
        simp only [List.mem_cons, List.not_mem_nil, or_false] at hu
        rcases hu with rfl | rfl | rfl | rfl | rfl | rfl <;> rfl
      case c3 => have := hlen.out; unfold maxLen; omega
      case c4 => have := hlen.out; omega
      case c5 => have := HB.out.size; simp [World.setCell]; omega
      intro v' w7 hown' hgrow _ hat
      have hb6 : Below wr.heap.size wr ((w4.setCell ⟨wr.heap.size, 5, none⟩ (.slice ta' a0.texts.length tc')).alloc (.cells #[.string a0.name, .int .i64 a0.kind, .int .i64 a0.num, .string a0.text, .slice ia' a0.ints.length ic', .slice ta' a0.texts.length tc'] 27)) := by (repeat (first | (with_reducible refine below_set ?_ (by first | exact Nat.le_refl _ | omega) _ _) | with_reducible exact Below.refl _ _ | with_reducible refine belowA ?_ _ | with_reducible refine below_own' ?_ hb4 | with_reducible refine below_own' ?_ hb2 | with_reducible refine belowD ?_ | with_reducible refine belowN ?_ _))
      have ho6 := HO.out.below hb6
      have hbk : ∀ B, (Value.slice pv l'.length pc).ownBlock = some B → B < wr.heap.size := fun B hB => (HO.out.own.lt B hB).2
      have hI5 : IntSl (w4.setCell ⟨wr.heap.size, 5, none⟩ (.slice ta' a0.texts.length tc')) ia' a0.ints :=
        (((hsl2.grown (grownBy_setOff w2 wr.heap.size 4 _) (fun x hx e => by have h1 := (hfr2 x hx).1; have h2 := Option.some.inj e; simp at h1; omega)).below hb4).grown (grownBy_setOff w4 wr.heap.size 5 _) (fun x hx e => by have h1 := (hfr2 x hx).1; have h2 := Option.some.inj e; simp at h1; omega))
      have hS5 : StrSl (w4.setCell ⟨wr.heap.size, 5, none⟩ (.slice ta' a0.texts.length tc')) ta' a0.texts :=
        hsl4.grown (grownBy_setOff w4 wr.heap.size 5 _) (fun x hx e => by have h1 := (hfr4 x hx).1; have h2 := Option.some.inj e; simp [World.setCell] at h1; omega)
      have hb56 := (Below.refl (w4.setCell ⟨wr.heap.size, 5, none⟩ (.slice ta' a0.texts.length tc')).heap.size (w4.setCell ⟨wr.heap.size, 5, none⟩ (.slice ta' a0.texts.length tc'))).alloc (Nat.le_refl _) (.cells #[.string a0.name, .int .i64 a0.kind, .int .i64 a0.num, .string a0.text, .slice ia' a0.ints.length ic', .slice ta' a0.texts.length tc'] 27)
      have hnew := AtrOwn.snoc (a := { a0 with ia := ia', ic := ic', ta := ta', tc := tc' }) ho6 ⟨hI5.below hb56, hS5.below hb56⟩ ⟨HFI.out.name, HFI.out.text, HFI.out.num, HFI.out.kind, hcap2, HFI.out.ints, HFI.out.il, hcap4, HFI.out.texts, HFI.out.tl⟩
        (fun x hx => ⟨by
          rcases hx with hx | hx
          · have := (hfr2 x hx).2; have := hb4.size; simp [World.setCell] at *; omega
          · have := (hfr4 x hx).2; simp [World.setCell] at *; omega, fun e => by
          have h1 := hbk _ e
          rcases hx with hx | hx
          · have := (hfr2 x hx).1; simp at this; omega
          · have := (hfr4 x hx).1; simp [World.setCell] at this; omega⟩) hown' hgrow hat (by simp [World.setCell])
      have HNEW := Lib.hid hnew
      have hfr' : ∀ b ∈ l' ++ [{ a0 with ia := ia', ic := ic', ta := ta', tc := tc' }], ∀ x, (b.ia = some x ∨ b.ta = some x) → w.heap.size ≤ x.block := by
        intro b hb x hx
        rcases List.mem_append.1 hb with hb | hb
        · exact HFR.out b hb x hx
        · rw [List.mem_singleton.1 hb] at hx
          have hbs := HB.out.size
          rcases hx with hx | hx
          · have := (hfr2 x hx).1; simp at this; omega
          · have := (hfr4 x hx).1; simp [World.setCell] at this; omega
      have HFR' := Lib.hid hfr'
      clear hfr'
      have HB7 := Lib.hid ((below_own' HB.out hb6).grown hgrow (below_own' HB.out hb6).size (fun k hk => (HO.out.own.lt k hk).1))
      clear hnew hown' hgrow hat hb6 ho6 hb56 hI5 hS5 hbk hsl2 hsl4 hfr2 hfr4
      go_wp2_with fail
      go_roundw
      case rel => exact ⟨j + 1, l' ++ [{ a0 with ia := ia', ic := ic', ta := ta', tc := tc' }], by go_num, by omega, by
        rw [List.map_append, HD.out, List.take_succ_eq_append_getElem hlt, List.map_append, ← HA0.out]; rfl, HNEW.out, HFR'.out, HB7.out⟩
      case measure => simp [intOf]; omega
    · obtain rfl : j = l.length := by omega
      obtain ⟨pv, pc, rfl, -⟩ := own_form HO.out.own
      clear hsw
      go_wp2_with fail
      go_ret
      exact ⟨_, l', rfl, HO.out, by rw [HD.out, List.take_length], HFR.out, HB.out⟩
end Go.Proofs.YtmepjbjmjbpchaaGreatDoor
end
section
/- attrs.position: the place of a name in a rising list. -/
namespace Go.Proofs.YtmepjbjmjbpchaaGreatDoor
open Go Go.RowKit
set_option linter.unusedVariables false
set_option linter.unusedSimpArgs false

/-- The names of a list rise. -/
def Rises (l : List Atr) : Prop := ∀ i j (hi : i < j) (hj : j < l.length), nmLt (l[i]'(by omega)).name l[j].name = true
theorem rises_of_okAt {l : List Atr} (h : (List.range l.length).all (okAt l) = true) : Rises l := by
  have hs : ∀ k (hk : k + 1 < l.length), nmLt (l[k]'(by omega)).name l[k + 1].name = true := by
    intro k hk
    have := List.all_eq_true.1 h (k + 1) (List.mem_range.2 hk)
    unfold okAt at this
    rw [List.getElem?_eq_getElem hk] at this
    simp only [List.getElem?_eq_getElem (show k < l.length by omega), Bool.and_eq_true] at this
    exact this.2
  intro i j hi hj
  obtain ⟨d, rfl⟩ : ∃ d, j = i + 1 + d := ⟨j - i - 1, by omega⟩
  induction d with
  | zero => exact hs i hj
  | succ d ih => exact nm_trans (ih (by omega) (by omega)) (hs (i + 1 + d) hj)
theorem rises_of_right {l : List Atr} (h : rightL l = true) : Rises l := by
  unfold rightL at h; rw [Bool.and_eq_true] at h; exact rises_of_okAt h.2
theorem mem_tw {α : Type} {P : α → Bool} {a : α} : ∀ {l : List α}, a ∈ l.takeWhile P → P a = true
  | [], h => by simp at h
  | b :: l, h => by
    by_cases hb : P b = true
    · simp only [List.takeWhile_cons, hb, if_true] at h
      rcases List.mem_cons.1 h with rfl | h
      · exact hb
      · exact mem_tw h
    · simp [List.takeWhile_cons, hb] at h
/-- How many names come ahead of a name. -/
def lowerB (l : List Atr) (s : ByteArray) : Nat := (l.takeWhile fun a => nmLt a.name s).length
theorem lower_le (l : List Atr) (s : ByteArray) : lowerB l s ≤ l.length := (List.takeWhile_prefix _).length_le
theorem lower_lt {l : List Atr} {s : ByteArray} {j : Nat} (h : j < lowerB l s) : nmLt (l[j]'(by have := lower_le l s; omega)).name s = true := by
  have h1 : (l.takeWhile fun a => nmLt a.name s)[j]'h = l[j]'(by have := lower_le l s; omega) := by
    have := List.takeWhile_prefix (l := l) (fun a => nmLt a.name s)
    exact this.getElem h
  have := mem_tw (List.getElem_mem h)
  rw [h1] at this
  exact this
theorem lower_at {l : List Atr} {s : ByteArray} (h : lowerB l s < l.length) : nmLt (l[lowerB l s]'h).name s = false := by
  unfold lowerB at h ⊢
  induction l with
  | nil => simp at h
  | cons a l ih =>
    by_cases ha : nmLt a.name s = true
    · simp only [List.takeWhile_cons, ha, if_true, List.length_cons] at h ⊢
      simpa using ih (by simpa using h)
    · simp only [List.takeWhile_cons, ha]
      simpa using ha
theorem lower_uniq {l : List Atr} (hr : Rises l) {s : ByteArray} {i : Nat} (hi : i ≤ l.length) (h1 : ∀ j (h : j < i) (hl : j < l.length), nmLt l[j].name s = true) (h2 : ∀ j (h : i ≤ j) (hl : j < l.length), nmLt l[j].name s = false) : i = lowerB l s := by
  rcases Nat.lt_trichotomy i (lowerB l s) with h | h | h
  · have := lower_lt h
    rw [h2 i (Nat.le_refl _) (by have := lower_le l s; omega)] at this; cases this
  · exact h
  · have := h1 _ h (by omega)
    rw [lower_at (by omega)] at this; cases this
def foundB (l : List Atr) (s : ByteArray) : Bool := match l[lowerB l s]? with | some a => decide (a.name = s) | none => false

theorem nameOf_any (a : Atr) (w : World) : Calls Tryz.prog 64 #[a.val] w fun e w' => e = .returned (.string a.name) ∧ Below w.heap.size w w' := by
  go_enter Tryz.func64, Tryz.ntmps64
  go_wp2_with fail
  go_ret
  exact ⟨rfl, by (repeat (first | (with_reducible refine below_set ?_ (by first | exact Nat.le_refl _ | omega) _ _) | with_reducible exact Below.refl _ _ | with_reducible refine belowA ?_ _ | with_reducible refine belowD ?_ | with_reducible refine belowN ?_ _))⟩
/-- The closure, its captured variable in block c. -/
theorem pos1_any (a : Atr) (s : ByteArray) (c : Nat) (w : World) (hc : w.heap[c]? = some (.cells #[.func (.func 64) #[] #[]] 59 (0, 0))) :
    Calls Tryz.prog 85 #[a.val, .string s, .pointer (some ⟨c, 0, none⟩)] w fun e w' => e = .returned (.int .i64 (nmCmp a.name s)) ∧ Below w.heap.size w w' := by
  have c0 := blkCell hc
  have hlt := blkLt hc
  have hin := fun args w => callFunc_enters Tryz.func64 (by kernel_rfl) rfl args w
  clear hc
  go_enter Tryz.func85, Tryz.ntmps85
  go_wp2_with (first
    | (go_at_call 64; refine (nameOf_any a _).mono ?_; rintro e w1 ⟨rfl, hb1⟩)
    | (go_at_call 56; refine (compare_any _ _ _).mono ?_; rintro e w2 ⟨rfl, rfl⟩))
  go_ret
  exact ⟨rfl, by (repeat (first | (with_reducible refine below_set ?_ (by first | exact Nat.le_refl _ | omega) _ _) | with_reducible exact Below.refl _ _ | with_reducible refine belowA ?_ _ | with_reducible refine below_own' ?_ hb1 | with_reducible refine belowD ?_ | with_reducible refine belowN ?_ _))⟩
end Go.Proofs.YtmepjbjmjbpchaaGreatDoor
end
section
/- slices.BinarySearchFunc at a rising list of attributes; attrs.position. -/
namespace Go.Proofs.YtmepjbjmjbpchaaGreatDoor
open Go Go.RowKit
set_option linter.unusedVariables false
set_option linter.unusedSimpArgs false

abbrev posF (cb : Nat) : Value := .func (.func 85) #[] #[.pointer (some ⟨cb, 0, none⟩)]
abbrev PosC (cb : Nat) (w : World) : Prop := w.heap[cb]? = some (.cells #[.func (.func 64) #[] #[]] 59 (0, 0))

set_option maxRecDepth 100000 in
set_option maxHeartbeats 8000000 in
theorem bsf_any (p : Option Addr) (c : Nat) (l : List Atr) (s : ByteArray) (cb : Nat) (w : World) (hs : AtrSl w p l) (hl : l.length ≤ 100000000000000) (hr : Rises l) (hc : PosC cb w) :
    Calls Tryz.prog 84 #[.slice p l.length c, .string s, posF cb] w fun e w' => e = .returned (.tuple #[.int .i64 (lowerB l s), .bool (foundB l s)]) ∧ Below w.heap.size w w' := by
  have HS := Lib.hid hs
  have HR := Lib.hid hr
  have HC := Lib.hid hc
  have hin := fun args w => callFunc_enters Tryz.func85 (by kernel_rfl) rfl args w
  clear hs hr hc
  go_enter Tryz.func84, Tryz.ntmps84
  go_wp2_with fail
  go_loopw [9, 10] (fun i j wr => ∃ x y : Nat, i = .int .i64 x ∧ j = .int .i64 y ∧ x ≤ y ∧ y ≤ l.length ∧ Below w.heap.size w wr ∧ (∀ t (h : t < x) (hl : t < l.length), nmLt l[t].name s = true) ∧ (∀ t (h : y ≤ t) (hl : t < l.length), nmLt l[t].name s = false)) (fun i j _ => (intOf j).toNat - (intOf i).toNat)
  case atStart => exact ⟨0, l.length, rfl, rfl, by omega, by omega, Below.refl _ _, fun t h => by omega, fun t h hl => by omega⟩
  case round =>
    obtain ⟨x, y, rfl, rfl, hxy, hyl, hb, hlo, hhi⟩ := hrel
    have HB := Lib.hid hb
    have HLO := Lib.hid hlo
    have HHI := Lib.hid hhi
    clear hb hlo hhi
    have hsw := HS.out.below HB.out
    rcases Nat.lt_or_ge x y with hlt | hge
    · have hdl : (x + y) / 2 < l.length := by omega
      obtain ⟨g, off, rfl, hzg, hrow⟩ := hsw.row hdl
      obtain ⟨a0, ha0⟩ : ∃ a0, a0 = l[(x + y) / 2]'hdl := ⟨_, rfl⟩
      have hcj := hrow _ hdl
      rw [← ha0] at hcj
      have HA0 := Lib.hid ha0
      have hpc : PosC cb wr := (HB.out.block _ (blkLt HC.out)).trans HC.out
      have HPC := Lib.hid hpc
      clear ha0 hrow hsw hpc
      obtain ⟨k0, k1, k2, k3, k4, k5⟩ := hcj
      cases hq : nmLt a0.name s with
      | true =>
        have HQ := Lib.hid hq
        have HV : Hid (nmCmp a0.name s = -1) := Lib.hid (by unfold nmCmp; rw [if_pos hq])
        clear hq
        go_wp2_with (go_at_call 85; refine (pos1_any a0 s cb _ HPC.out).mono ?_; rintro e w2 ⟨rfl, hb2⟩; rw [HV.out])
        go_roundw
        case rel => exact ⟨(x + y) / 2 + 1, y, by go_num, rfl, by omega, by omega, below_own' HB.out hb2, fun t h hl => by
          rcases Nat.lt_or_ge t ((x + y) / 2) with h2 | h2
          · exact nm_trans (HR.out _ _ h2 hdl) (by rw [← HA0.out]; exact HQ.out)
          · obtain rfl : t = (x + y) / 2 := by omega
            rw [← HA0.out]; exact HQ.out, HHI.out⟩
        case measure => simp [intOf]; omega
      | false =>
        have HQ := Lib.hid hq
        obtain ⟨v, hv⟩ : ∃ v, v = nmCmp a0.name s := ⟨_, rfl⟩
        have hv0 : ¬ v < 0 := by rw [hv]; unfold nmCmp; rw [if_neg (by rw [hq]; simp)]; split <;> omega
        have HV := Lib.hid hv
        clear hq hv
        go_wp2_with (go_at_call 85; refine (pos1_any a0 s cb _ HPC.out).mono ?_; rintro e w2 ⟨rfl, hb2⟩; rw [← HV.out])
        go_roundw
        case rel => exact ⟨x, (x + y) / 2, rfl, by go_num, by omega, by omega, below_own' HB.out hb2, HLO.out, fun t h hl => by
          rcases Nat.lt_or_ge ((x + y) / 2) t with h2 | h2
          · cases hx : nmLt l[t].name s with
            | false => rfl
            | true =>
              have := nm_trans (HR.out _ _ h2 hl) hx
              rw [← HA0.out, HQ.out] at this; cases this
          · obtain rfl : t = (x + y) / 2 := by omega
            rw [← HA0.out]; exact HQ.out⟩
        case measure => simp [intOf]; omega
    · obtain rfl : x = y := by omega
      have hxl : x = lowerB l s := lower_uniq HR.out hyl HLO.out HHI.out
      have HXL := Lib.hid hxl
      clear hxl
      rcases Nat.lt_or_ge x l.length with hlt2 | hge2
      · obtain ⟨g, off, rfl, hzg, hrow⟩ := hsw.row hlt2
        obtain ⟨a0, ha0⟩ : ∃ a0, a0 = l[x] := ⟨_, rfl⟩
        have hcj := hrow _ hlt2
        rw [← ha0] at hcj
        have hpc : PosC cb wr := (HB.out.block _ (blkLt HC.out)).trans HC.out
        have HPC := Lib.hid hpc
        have hq : nmLt a0.name s = false := by rw [ha0]; exact HHI.out x (Nat.le_refl _) hlt2
        obtain ⟨v, hv⟩ : ∃ v, v = nmCmp a0.name s := ⟨_, rfl⟩
        have HF : Hid (foundB l s = (v == 0)) := Lib.hid (by
          unfold foundB
          rw [← HXL.out, List.getElem?_eq_getElem hlt2, ← ha0, hv]
          unfold nmCmp
          rw [if_neg (by rw [hq]; simp)]
          cases hx : nmLt s a0.name with
          | true =>
            have : ¬ a0.name = s := by rintro rfl; rw [nm_irrefl] at hx; cases hx
            simp [this]
          | false => simp [nm_total hq hx])
        have HV := Lib.hid hv
        have hx0 : (0 : Int) ≤ (x : Int) := by omega
        have hxl : (x : Int) < (l.length : Int) := by omega
        clear ha0 hrow hsw hpc hq hv
        obtain ⟨k0, k1, k2, k3, k4, k5⟩ := hcj
        go_wp2_with (go_at_call 85; refine (pos1_any a0 s cb _ HPC.out).mono ?_; rintro e w2 ⟨rfl, hb2⟩; rw [← HV.out])
        go_ret2
        exact ⟨by rw [HF.out, ← HXL.out]; rfl, below_own' HB.out hb2⟩
      · have HF : Hid (foundB l s = false) := Lib.hid (by unfold foundB; rw [← HXL.out, List.getElem?_eq_none (by omega)])
        have hxl : ¬ (x : Int) < (l.length : Int) := by omega
        clear hsw
        go_wp2_with fail
        go_ret2
        exact ⟨by rw [HF.out, ← HXL.out]; rfl, HB.out⟩

theorem position_any (p : Option Addr) (c : Nat) (l : List Atr) (s : ByteArray) (w : World) (hs : AtrSl w p l) (hl : l.length ≤ 100000000000000) (hr : Rises l) :
    Calls Tryz.prog 63 #[.slice p l.length c, .string s, .func (.func 64) #[] #[]] w fun e w' => e = .returned (.tuple #[.int .i64 (lowerB l s), .bool (foundB l s)]) ∧ Below w.heap.size w w' := by
  have HS := Lib.hid hs
  have HR := Lib.hid hr
  clear hs hr
  go_enter Tryz.func63, Tryz.ntmps63
  have HB0 := Lib.hid (bsf_any p c l s w.heap.size (w.alloc (.cells #[.func (.func 64) #[] #[]] 59)) (HS.out.below (by (repeat (first | (with_reducible refine below_set ?_ (by first | exact Nat.le_refl _ | omega) _ _) | with_reducible exact Below.refl _ _ | with_reducible refine belowA ?_ _ | with_reducible refine belowD ?_ | with_reducible refine belowN ?_ _)))) hl HR.out (heap_alloc_new _ _))
  go_wp2_with (go_at_call 84; refine HB0.out.mono ?_; rintro e w1 ⟨rfl, hb1⟩)
  go_ret2
  exact ⟨rfl, by (repeat (first | (with_reducible refine below_set ?_ (by first | exact Nat.le_refl _ | omega) _ _) | with_reducible exact Below.refl _ _ | with_reducible refine belowA ?_ _ | with_reducible refine below_own' ?_ hb1 | with_reducible refine belowD ?_ | with_reducible refine belowN ?_ _))⟩
end Go.Proofs.YtmepjbjmjbpchaaGreatDoor
end
section
/- The builtin copy of elements of several cells. -/
namespace Go.Proofs.YtmepjbjmjbpchaaGreatDoor
open Go Go.RowKit
set_option linter.unusedVariables false
set_option linter.unusedSimpArgs false
section
variable {P : Program}
theorem run_copy_rowN (w : World) (dT sT ty elem : TypeId) (g o dLen dCap : Nat) (a : Addr) (sLen sCap : Nat) (cur : Array Value) (t : TypeId) (cs : List Value) (sz : Nat)
    (hu : P.underlying dT = some (.slice elem)) (hs : (P.info? elem).map (·.size) = some sz)
    (hg : w.heap[g]? = some (.cells cur t (0, 0))) (hn : cs.length = Nat.min sLen dLen * sz)
    (hsrc : ∀ j v, cs[j]? = some v → w.cell? (a.add j) = some v) (hfit : o + cs.length ≤ cur.size) (h1 : ∀ v ∈ cs, v.oneCell' = true) :
    (Builtin.copy_ #[dT, sT] ty #[.slice (some ⟨g, o, none⟩) dLen dCap, .slice (some a) sLen sCap]).run P w =
      .ok (goInt (Nat.min sLen dLen)) (w.setRow g (cur.toList.take o ++ cs ++ cur.toList.drop (o + cs.length)).toArray) := by
  have hl := run_loadCells_list (P := P) w a cs hsrc
  have hst := run_storeCells_at P g o t cs 0 cur w hg (by simpa using hfit) h1
  cases hq : P.info? elem with
  | none => simp [hq] at hs
  | some i =>
    have hi : i.size = sz := by simpa [hq] using hs
    simp [Builtin.copy_, run_underlying hu, Builtin.lenOf, Builtin.firstCells, sizeOf, typeInfo, hq, hi, ← hn, hl, hst]
theorem run_copy_zero (w : World) (dT sT ty elem : TypeId) (dp sp : Option Addr) (dLen dCap sLen sCap : Nat) (sz : Nat)
    (hu : P.underlying dT = some (.slice elem)) (hs : (P.info? elem).map (·.size) = some sz) (hn : Nat.min sLen dLen = 0) :
    (Builtin.copy_ #[dT, sT] ty #[.slice dp dLen dCap, .slice sp sLen sCap]).run P w = .ok (goInt 0) w := by
  cases hq : P.info? elem with
  | none => simp [hq] at hs
  | some i =>
    cases sp with
    | none => cases dp <;> simp [Builtin.copy_, run_underlying hu, Builtin.lenOf, Builtin.firstCells, sizeOf, typeInfo, hq, hn, storeCells]
    | some a =>
      have hl := run_loadCells_list (P := P) w a [] (fun j v h => by simp at h)
      cases dp <;> simp [Builtin.copy_, run_underlying hu, Builtin.lenOf, Builtin.firstCells, sizeOf, typeInfo, hq, hn, storeCells] <;> first | (simp_all; done) | (simp only [List.length_nil] at hl; simp [hl, storeCells])
end
end Go.Proofs.YtmepjbjmjbpchaaGreatDoor
end
