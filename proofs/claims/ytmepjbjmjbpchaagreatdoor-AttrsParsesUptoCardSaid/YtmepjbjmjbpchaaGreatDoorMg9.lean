/- Texts of this claim, laid together: At5. -/
import Derived.Test.YtmepjbjmjbpchaaGreatDoorMg8
section
/- attrs.Check. -/
namespace Go.Proofs.YtmepjbjmjbpchaaGreatDoor
open Go Go.RowKit
set_option linter.unusedVariables false
set_option linter.unusedSimpArgs false
attribute [local go_sem] Oper.semAt_some

theorem cell_put_keep {W : World} {k : Nat} {o o' : Obj} (h : W.heap[k]? = some o) (hc : o.isCells = false) {a : Addr} {v : Value} (ha : W.cell? a = some v) : (W.putObj k o').cell? a = some v := by
  by_cases hk : a.block = k
  · subst hk
    unfold World.cell? at ha
    rw [h] at ha
    cases o <;> simp [Obj.isCells] at hc ha
  · unfold World.cell? at ha ⊢
    rw [World.putObj_heap_other (w := W) (r := k) (k := a.block) (fun e => hk e)]
    exact ha
structure KeepsCells (W W' : World) : Prop where
  size : W.heap.size ≤ W'.heap.size
  cell : ∀ a v, W.cell? a = some v → W'.cell? a = some v
theorem IntSl.keeps {W W' : World} {a : Option Addr} {zs : List Int} (h : IntSl W a zs) (hk : KeepsCells W W') : IntSl W' a zs := by
  rcases h with h | ⟨g, off, h1, h2, h3⟩
  · exact .inl h
  · exact .inr ⟨g, off, h1, Nat.lt_of_lt_of_le h2 hk.size, fun j hj => hk.cell _ _ (h3 j hj)⟩
theorem StrSl.keeps {W W' : World} {a : Option Addr} {zs : List ByteArray} (h : StrSl W a zs) (hk : KeepsCells W W') : StrSl W' a zs := by
  rcases h with h | ⟨g, off, h1, h2, h3⟩
  · exact .inl h
  · exact .inr ⟨g, off, h1, Nat.lt_of_lt_of_le h2 hk.size, fun j hj => hk.cell _ _ (h3 j hj)⟩
theorem cells_len (a : Atr) : a.cells.length = 6 := rfl
theorem AtrSl.keeps {W W' : World} {p : Option Addr} {l : List Atr} (h : AtrSl W p l) (hk : KeepsCells W W') : AtrSl W' p l := by
  refine ⟨?_, fun a ha => ⟨(h.lies a ha).ints.keeps hk, (h.lies a ha).texts.keeps hk⟩, h.fits⟩
  rcases h.at' with h | ⟨g, off, h1, h2, h3⟩
  · exact .inl h
  · refine .inr ⟨g, off, h1, Nat.lt_of_lt_of_le h2 hk.size, fun j hj i hi => ?_⟩
    have := h3 j hj i hi
    have hx : l[j].cells[i]? = some (l[j].cells[i]'(by rw [cells_len]; exact hi)) := List.getElem?_eq_getElem _
    rw [hx] at this ⊢
    exact hk.cell _ _ this
theorem keeps_put {W : World} {k : Nat} {o o' : Obj} (h : W.heap[k]? = some o) (hc : o.isCells = false) : KeepsCells W (W.putObj k o') :=
  ⟨by simp [World.putObj], fun a v ha => cell_put_keep h hc ha⟩

theorem heap_alloc_new' (w : World) (o : Obj) {k : Nat} (h : k = w.heap.size) : (w.alloc o).heap[k]? = some o := by subst h; exact heap_alloc_new w o
def CkPost (l : List Atr) (w : World) (e : Ending) (w' : World) : Prop := e = .returned (.int .i64 (if rightL l then 0 else 20)) ∧ Below w.heap.size w w'
structure CkI (w : World) (l : List Atr) (pre : List Nat) (W : World) : Prop where
  all : ∀ x ∈ pre, okAt l x = true
  res : W.heap[w.heap.size]? = some (.cells #[.int .i64 0] 28 (0, 0))
  below : Below w.heap.size w W
structure CkX (w : World) (l : List Atr) (W : World) : Prop where
  bad : (List.range l.length).all (okAt l) = false
  res : W.heap[w.heap.size]? = some (.cells #[.int .i64 20] 28 (0, 0))
  below : Below w.heap.size w W

set_option maxRecDepth 100000 in
set_option maxHeartbeats 4000000 in
theorem check_any' (p : Option Addr) (c : Nat) (l : List Atr) (w : World) (hs : AtrSl w p l) (hl : l.length ≤ 100000000000000) :
    Calls Tryz.prog 19 #[.slice p l.length c] w (CkPost l w) := by
  by_cases h100 : 100 < l.length
  · have hr : rightL l = false := by unfold rightL; simp; omega
    have HR := Lib.hid hr
    have h1 : (100 : Int) < (l.length : Int) := by omega
    clear hr
    go_enter Tryz.func19, Tryz.ntmps19
    go_wp2_with fail
    go_step3
    go_wp2_with fail
    rw [Exit.noGoto_ret]
    refine bodyPost_ret (v := .int .i64 20) (by simp [results, Tryz.results19, go_sem]) rfl ⟨by rw [HR.out]; rfl, ?_⟩
    (repeat (first | (with_reducible refine below_set ?_ (by first | exact Nat.le_refl _ | omega) _ _) | with_reducible exact Below.refl _ _ | with_reducible refine belowA ?_ _ | with_reducible refine belowD ?_ | with_reducible refine belowN ?_ _))
  · have h1 : ((l.length : Int)) ≤ 100 := by omega
    have h1d : decide ((100 : Int) < (l.length : Int)) = false := by simp; omega
    have HS := Lib.hid hs
    clear hs
    refine (callsIn_wide (n := 6)).1 ?_
    refine callsIn_of_wp_marks Tryz.func19 rfl trivial ?_ rfl
    simp only [Tryz.ntmps19, List.size_toArray, List.length_cons, List.length_nil, Nat.reduceAdd, Nat.reduceSub, Array.replicate_succ, Array.replicate_zero, List.push_toArray, List.append_toArray, List.nil_append, List.cons_append]
    gi_wp2_with fail
    refine wpIn_scope ?_
    gi_wp2_with fail
    refine wpIn_label ?_
    gi_wp2_with (refine ⟨trivial, ?_⟩; gi_at_call 41; refine (callsIn_wide.2 (rising_any _ _ _ _)).mono ?_; rintro e w' ⟨rfl, rfl⟩)
    refine wpIn_range_outer rfl (by omega) (gf := 69) (lb := #[.pointer (some ⟨w.heap.size + 1, 0, none⟩)]) rfl trivial (enters_of Tryz.func69 (by kernel_rfl) rfl)
      (rising_seq 5 (w.heap.size + 1) p c l hl (by omega)) (fun W r h => h.elim) ?pre (fun h k hp => k (h hp)) ?kb (fun _ => rfl)
      (fun pre W => CkI w l pre W) (fun c pre W => c = .ret ∧ CkX w l W) ?hI ?hIx ?h0
      (fun x a' _ => a' = { tmps := #[.slice p l.length c, undef, .pointer (some ⟨w.heap.size, 0, none⟩), undef, .bool (okAt l x), .slice p l.length c, .int .i64 l.length, .bool false, .slice p l.length c, .func (.func 69) #[] #[.pointer (some ⟨w.heap.size + 1, 0, none⟩)], (l[x]?.map Atr.val).getD undef, .bool (okAt l x), undef], defers := [] }) (fun x a' _ _ _ _ h _ _ => h) ?assign ?body ?done ?stop
    case pre => exact fun W1 hb => ⟨(hb.block _ (by simp)).trans (heap_alloc_new' _ _ (by simp)), HS.out.below (((((Below.refl _ w).alloc (Nat.le_refl _) _).alloc (by simp) _).trans (hb.mono (by simp <;> omega))))⟩
    case kb => exact fun W m o o' hm ho hc _ hp => ⟨(World.putObj_heap_other (by simp at hm; omega)).trans hp.box, hp.lst.keeps (keeps_put ho hc)⟩
    case hI =>
      rintro pre W W' row h hg hr
      exact ⟨h.all, turn_keeps hg hr (fun _ _ h => h.elim) h.res, turn_below h.below hg hr (fun _ _ h => h.elim) (Nat.le_refl _) (by simp; omega)⟩
    case hIx =>
      rintro c pre W W' row ⟨hc, h⟩ hg hr
      exact ⟨hc, h.bad, turn_keeps hg hr (fun _ _ h => h.elim) h.res, turn_below h.below hg hr (fun _ _ h => h.elim) (Nat.le_refl _) (by simp; omega)⟩
    case h0 =>
      refine ⟨by simp, ?_, ?_⟩
      · exact allocPast _ (heap_alloc_new _ _) (by simp)
      · (repeat (first | (with_reducible refine below_set ?_ (by first | exact Nat.le_refl _ | omega) _ _) | with_reducible exact Below.refl _ _ | with_reducible refine belowA ?_ _ | with_reducible refine belowD ?_ | with_reducible refine belowN ?_ _))
    case assign =>
      intro yl pre x W K hi hK
      gi_wp2_with fail
      exact hK _ _ (KeepsFrom.refl _ _) (fun h => h) hi rfl
    case body =>
      rintro yl pre x a' W hyl hrec hi rfl ⟨rfl, hlt⟩
      cases ho : okAt l x with
      | true =>
        have HO := Lib.hid ho
        have HI := Lib.hid hi
        clear ho hi
        gi_wp2_with fail
        exact ⟨KeepsFrom.refl _ _, fun h => h, fun y hy => by
          rcases List.mem_append.1 hy with hy | hy
          · exact HI.out.all y hy
          · rw [List.mem_singleton.1 hy]; exact HO.out, HI.out.res, HI.out.below⟩
      | false =>
        have HO := Lib.hid ho
        have c0 := blkCell hi.res; have f0 := blkFree hi.res
        have HI := Lib.hid hi
        clear ho hi
        gi_wp2_with fail
        exact ⟨(KeepsOthers.setCell _ _ _).from _, rfl, by
          rw [List.all_eq_false]; exact ⟨x, List.mem_range.2 hlt, by rw [HO.out]; simp⟩, one_setCell HI.out.res, below_set HI.out.below (Nat.le_refl _) _ _⟩
    case done =>
      rintro D xs W hD rfl hi hK
      have c0 := blkCell hi.res; have f0 := blkFree hi.res
      have HI := Lib.hid hi
      have HK : Hid ((W.setCell ⟨w.heap.size, 0, none⟩ (.int .i64 0)).heap[D]? = some (.deferred (some []))) := (heap_setCell_other _ _ _ _ (by simp at hD ⊢; omega)).trans hK
      have HR : Hid (rightL l = true) := by
        unfold Hid rightL
        rw [Bool.and_eq_true]
        exact ⟨by simp; omega, List.all_eq_true.2 hi.all⟩
      clear hi hK
      gi_wp2
      rw [Exit.noGoto_ret]
      have c1 := one_setCell (u := .int .i64 0) HI.out.res
      have c2 := blkCell ((World.putObj_heap_other (by simp at hD; omega)).trans c1 : ((W.setCell ⟨w.heap.size, 0, none⟩ (.int .i64 0)).putObj D (.deferred none)).heap[w.heap.size]? = _)
      refine ⟨by simp, .inl ⟨_, _, rfl, run_takeDeferred HK.out, ?_⟩⟩
      refine ⟨.int .i64 0, ?_, by rw [HR.out]; rfl, ?_⟩
      · simp [results, Tryz.results19, go_sem, c2]
      · exact (below_set HI.out.below (Nat.le_refl _) 0 (.int .i64 0)).grown (grownBy_putObj' _ D _) (by simpa [World.setCell] using HI.out.below.size) (fun k e => by cases e; simp at hD; omega)
    case stop =>
      rintro D c pre W hD _ ⟨rfl, hx⟩ hK
      have hx0 : (W.putObj D (.deferred none)).heap[w.heap.size]? = _ := (World.putObj_heap_other (by simp at hD; omega)).trans hx.res
      have HX := Lib.hid hx
      have c0 := blkCell hx0
      have HK := Lib.hid hK
      have HB : Hid (Below w.heap.size w (W.putObj D (.deferred none))) := hx.below.grown (grownBy_putObj' W D _) hx.below.size (fun k e => by cases e; simp at hD; omega)
      have HR : Hid (rightL l = false) := by
        unfold Hid rightL
        rw [hx.bad]; simp
      clear hx hx0 hK
      gi_wp2
      rw [Exit.noGoto_ret]
      refine ⟨by simp, .inl ⟨_, _, rfl, run_takeDeferred HK.out, ?_⟩⟩
      refine ⟨.int .i64 20, ?_, by rw [HR.out]; rfl, HB.out⟩
      simp [results, Tryz.results19, go_sem, c0]
end Go.Proofs.YtmepjbjmjbpchaaGreatDoor
end
