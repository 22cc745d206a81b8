/- Texts of this claim, laid together: Ty5. -/
import Derived.Test.YtmepjbjmjbpchaaGreatDoorMg1
section
/- types.shape. -/
namespace Go.Proofs.YtmepjbjmjbpchaaGreatDoor
open Go Go.RowKit Go.Shelf
set_option linter.unusedVariables false
set_option linter.unusedSimpArgs false
attribute [local go_sem] Oper.semAt_some

theorem parts_any (s : ByteArray) (w : World) :
    Calls Tryz.prog 170 #[.string s] w fun e w' => e = .returned (.func (.func 177) #[] #[.pointer (some ⟨w.heap.size, 0, none⟩)]) ∧ w.alloc (.cells #[.string s] 9) = w' := by
  go_enter Tryz.func170, Tryz.ntmps170
  go_wp2_with fail
  go_ret
  exact ⟨rfl, rfl⟩

def prodN (l : List Nat) : Nat := l.foldl (· * ·) 1
def shapeP (ext : List Nat) : List (List UInt8 × Bool) → Option (List Nat × Nat)
  | [] => none
  | (p, true) :: _ => match elemOf p with
    | some e => if prodN ext ≤ 4096 then some (ext, if e.kind = 1 then 0 else e.bits) else none
    | none => none
  | (p, false) :: rest => match numOf p with
    | some n => if n ≤ 1000 ∧ ext.length < 3 then shapeP (ext ++ [n]) rest else none
    | none => none
/-- `types.shape`. -/
def shapeOf (k : Nat) (l : List UInt8) : Option Pd := (shapeP [] (partsOf l)).map fun r => ⟨k, r.2, r.1⟩
theorem partsOf_end : ∀ (m : Nat) (l : List UInt8), l.length ≤ m → ∃ x ∈ partsOf l, x.2 = true
  | m, l, h => by
    by_cases h0 : l = [105, 110, 100, 101, 120]
    · exact ⟨_, by rw [partsOf_last (.inl h0)]; exact List.mem_singleton.2 rfl, rfl⟩
    · cases hc : cutOf 120 l with
      | none => exact ⟨_, by rw [partsOf_last (.inr hc)]; exact List.mem_singleton.2 rfl, rfl⟩
      | some p =>
        obtain ⟨x, y⟩ := p
        have := cutOf_len hc
        obtain ⟨m', rfl⟩ : ∃ m', m = m' + 1 := ⟨m - 1, by omega⟩
        obtain ⟨z, hz, hz2⟩ := partsOf_end m' y (by omega)
        exact ⟨z, by rw [partsOf_more h0 hc]; exact List.mem_cons_of_mem _ hz, hz2⟩

theorem turn_keeps {T : World → Nat → Prop} {B b : Nat} {W W' : World} {row : Option Nat} {c : Array Value} {t : TypeId} {fr : Nat × Nat} (hg : W.grownBy W' row) (hr : ∀ r, row = some r → TurnsAll T B W r)
    (hT : ∀ W r, T W r → r ≠ b) (h : W.heap[b]? = some (.cells c t fr)) : W'.heap[b]? = some (.cells c t fr) := by
  refine (hg.block b (Array.getElem?_eq_some_iff.1 h).1 (fun e => ?_)).trans h
  rcases hr b e.symm with h' | ⟨_, o, ho, hc⟩
  · exact hT W b h' rfl
  · rw [h] at ho; cases ho; cases hc
theorem turn_below {T : World → Nat → Prop} {B n : Nat} {w W W' : World} {row : Option Nat} (hb : Below n w W) (hg : W.grownBy W' row) (hr : ∀ r, row = some r → TurnsAll T B W r)
    (hT : ∀ W r, T W r → n ≤ r) (hn : n ≤ w.heap.size) (hB : n ≤ B) : Below n w W' :=
  hb.grown hg (Nat.le_trans hn hb.size) (fun k e => by rcases hr k e with h | ⟨h, _⟩; exact hT W k h; omega)

def pdCells (k b : Nat) (ext : List Nat) : Array Value := #[.int .i64 k, .int .i64 b, .int .i64 ext.length, .int .i64 (ext.getD 0 0 : Nat), .int .i64 (ext.getD 1 0 : Nat), .int .i64 (ext.getD 2 0 : Nat)]
structure ShI (w : World) (k : Nat) (l : List UInt8) (pre : List (List UInt8 × Bool)) (ext : List Nat) (W : World) : Prop where
  go : ∀ rest, pre ++ rest = partsOf l → shapeP [] (partsOf l) = shapeP ext rest
  mid : ∀ x ∈ pre, x.2 = false
  len : ext.length ≤ 3
  all : ∀ n ∈ ext, n ≤ 1000
  res : W.heap[w.heap.size]? = some (.cells #[.int .i64 0, .int .i64 0, .int .i64 0, .int .i64 0, .int .i64 0, .int .i64 0] 160 (0, 0))
  ok : W.heap[w.heap.size + 1]? = some (.cells #[.bool false] 4 (0, 0))
  out : W.heap[w.heap.size + 1 + 1]? = some (.cells (pdCells k 0 ext) 160 (0, 0))
  below : Below w.heap.size w W
structure ShX (w : World) (k : Nat) (l : List UInt8) (p : Pd) (W : World) : Prop where
  spec : ∀ q, shapeOf k l = some q → p = q
  len : p.ext.length ≤ 3
  res : W.heap[w.heap.size]? = some (.cells (pdCells p.kind p.bits p.ext) 160 (0, 0))
  ok : W.heap[w.heap.size + 1]? = some (.cells #[.bool (shapeOf k l).isSome] 4 (0, 0))
  below : Below w.heap.size w W
def ShapePost (k : Nat) (l : List UInt8) (w : World) (e : Ending) (w' : World) : Prop :=
  ∃ p : Pd, (∀ q, shapeOf k l = some q → p = q) ∧ p.ext.length ≤ 3 ∧ e = .returned (.tuple #[p.val, .bool (shapeOf k l).isSome]) ∧ Below w.heap.size w w'

theorem wpIn_world {F : Fence} {n : Nat} {P : Program} {c : Code} {Q : Exit → Act → World → Prop} {a : Act} {W : World} (Fs : World → Prop) (hf : Fs W) (h : ∀ Wx, Fs Wx → c.wpIn F n P Q a Wx) : c.wpIn F n P Q a W := h W hf
theorem wpIn_tmps {F : Fence} {n : Nat} {P : Program} {c : Code} {Q : Exit → Act → World → Prop} {A : Array Value} {ds : List Deferred} {W : World} (Fs : Array Value → Prop) (hf : Fs A) (h : ∀ A, Fs A → c.wpIn F n P Q { tmps := A, defers := ds } W) : c.wpIn F n P Q { tmps := A, defers := ds } W := h A hf
/-- What is kept ahead of the last statement of a round. -/
structure ShM (w W : World) (k nb r e0 e1 e2 : Nat) (Wx : World) : Prop where
  res : Wx.heap[w.heap.size]? = some (.cells #[.int .i64 0, .int .i64 0, .int .i64 0, .int .i64 0, .int .i64 0, .int .i64 0] 160 (0, 0))
  ok : Wx.heap[w.heap.size + 1]? = some (.cells #[.bool false] 4 (0, 0))
  out : Wx.heap[w.heap.size + 1 + 1]? = some (.cells #[.int .i64 k, .int .i64 nb, .int .i64 r, .int .i64 e0, .int .i64 e1, .int .i64 e2] 160 (0, 0))
  below : Below w.heap.size w Wx
  keep : KeepsOthers W Wx
/-- What the last statement of a round keeps, knowing whether its two stores are done. -/
structure RegI (w W : World) (o0 o1 o2 o3 o4 o5 : Value) (b l10 l11 : Bool) (Wx : World) : Prop where
  res : Wx.heap[w.heap.size]? = some (.cells (if l10 then #[o0, o1, o2, o3, o4, o5] else #[.int .i64 0, .int .i64 0, .int .i64 0, .int .i64 0, .int .i64 0, .int .i64 0]) 160 (0, 0))
  ok : Wx.heap[w.heap.size + 1]? = some (.cells #[.bool (l11 && b)] 4 (0, 0))
  out : Wx.heap[w.heap.size + 1 + 1]? = some (.cells #[o0, o1, o2, o3, o4, o5] 160 (0, 0))
  below : Below w.heap.size w Wx
  keep : KeepsOthers W Wx
theorem tbox_ne {B b : Nat} (h : B ≠ b) : ∀ W r, TBox B W r → r ≠ b := fun W r ⟨e, _⟩ => by omega
theorem tbox_le {B n : Nat} (h : n ≤ B) : ∀ W r, TBox B W r → n ≤ r := fun W r ⟨e, _⟩ => by omega

theorem allocAt {W : World} {b : Nat} (o : Obj) (h : b = W.heap.size) : (W.alloc o).heap[b]? = some o := by subst h; exact heap_alloc_new W o
theorem allocPast {W : World} {b : Nat} (o : Obj) {x : Option Obj} (h : W.heap[b]? = x) (hlt : b < W.heap.size) : (W.alloc o).heap[b]? = x := (Below.heap_alloc W o b hlt).trans h
theorem blkLt {W : World} {b : Nat} {o : Obj} (h : W.heap[b]? = some o) : b < W.heap.size := (Array.getElem?_eq_some_iff.1 h).1
abbrev set6 (W : World) (b : Nat) (v0 v1 v2 v3 v4 v5 : Value) : World := (((((W.setCell ⟨b, 0, none⟩ v0).setCell ⟨b, 1, none⟩ v1).setCell ⟨b, 2, none⟩ v2).setCell ⟨b, 3, none⟩ v3).setCell ⟨b, 4, none⟩ v4).setCell ⟨b, 5, none⟩ v5
theorem set6_same {W : World} {b : Nat} {a0 a1 a2 a3 a4 a5 : Value} {t : TypeId} (h : W.heap[b]? = some (.cells #[a0, a1, a2, a3, a4, a5] t (0, 0))) (v0 v1 v2 v3 v4 v5 : Value) :
    (set6 W b v0 v1 v2 v3 v4 v5).heap[b]? = some (.cells #[v0, v1, v2, v3, v4, v5] t (0, 0)) := by
  have h0 := heap_setCell_same W b 0 _ t v0 h
  have h1 := heap_setCell_same _ b 1 _ t v1 h0
  have h2 := heap_setCell_same _ b 2 _ t v2 h1
  have h3 := heap_setCell_same _ b 3 _ t v3 h2
  have h4 := heap_setCell_same _ b 4 _ t v4 h3
  have h5 := heap_setCell_same _ b 5 _ t v5 h4
  rw [set6, h5]; simp
theorem set6_other {W : World} {b b' : Nat} (hne : b' ≠ b) (v0 v1 v2 v3 v4 v5 : Value) : (set6 W b v0 v1 v2 v3 v4 v5).heap[b']? = W.heap[b']? := by
  simp only [set6]
  rw [heap_setCell_other _ _ _ _ hne, heap_setCell_other _ _ _ _ hne, heap_setCell_other _ _ _ _ hne, heap_setCell_other _ _ _ _ hne, heap_setCell_other _ _ _ _ hne, heap_setCell_other _ _ _ _ hne]
theorem set6_below {B : Nat} {w W : World} {b : Nat} (h : Below B w W) (hb : B ≤ b) (v0 v1 v2 v3 v4 v5 : Value) : Below B w (set6 W b v0 v1 v2 v3 v4 v5) :=
  (((((h.setCell (p := ⟨b, 0, none⟩) hb v0).setCell (p := ⟨b, 1, none⟩) hb v1).setCell (p := ⟨b, 2, none⟩) hb v2).setCell (p := ⟨b, 3, none⟩) hb v3).setCell (p := ⟨b, 4, none⟩) hb v4).setCell (p := ⟨b, 5, none⟩) hb v5
theorem set6_keeps (W : World) (b : Nat) (v0 v1 v2 v3 v4 v5 : Value) : KeepsOthers W (set6 W b v0 v1 v2 v3 v4 v5) :=
  (((((KeepsOthers.setCell W _ _).trans (KeepsOthers.setCell _ _ _)).trans (KeepsOthers.setCell _ _ _)).trans (KeepsOthers.setCell _ _ _)).trans (KeepsOthers.setCell _ _ _)).trans (KeepsOthers.setCell _ _ _)
theorem below_keeps {W W1 : World} (h : Below W.heap.size W W1) : KeepsOthers W W1 := ⟨h.size, fun k o hk _ => (h.block k (blkLt hk)).trans hk⟩
theorem blkCell {W : World} {b : Nat} {c : Array Value} {t : TypeId} (h : W.heap[b]? = some (.cells c t (0, 0))) : ∀ j, W.cell? ⟨b, j, none⟩ = c[j]? := fun j => cell_of_row W b j c t (0, 0) h
theorem blkFree {W : World} {b : Nat} {c : Array Value} {t : TypeId} (h : W.heap[b]? = some (.cells c t (0, 0))) : ∀ j, W.frozen? ⟨b, j, none⟩ = false := fun j => frozen_of_row W b j c t h
theorem blkBelow {W W1 : World} {b : Nat} {o : Obj} (h : W.heap[b]? = some o) (hb : Below W.heap.size W W1) : W1.heap[b]? = some o := (hb.block b (blkLt h)).trans h

theorem RegI.other {w W : World} {o0 o1 o2 o3 o4 o5 : Value} {b : Bool} {listed : Array Bool} {Wx : World} (h : RegI w W o0 o1 o2 o3 o4 o5 b (listed.getD 10 false) (listed.getD 11 false) Wx) (i : Nat) (h10 : i ≠ 10) (h11 : i ≠ 11) :
    RegI w W o0 o1 o2 o3 o4 o5 b ((listed.setIfInBounds i true).getD 10 false) ((listed.setIfInBounds i true).getD 11 false) Wx := by
  rw [getD_set_ne false h10, getD_set_ne false h11]; exact h
theorem RegI.put10 {w W : World} {o0 o1 o2 o3 o4 o5 : Value} {b : Bool} {listed : Array Bool} {Wx : World} (hs : 10 < listed.size) (hu : listed.getD 10 false = false) (h : RegI w W o0 o1 o2 o3 o4 o5 b (listed.getD 10 false) (listed.getD 11 false) Wx) :
    RegI w W o0 o1 o2 o3 o4 o5 b ((listed.setIfInBounds 10 true).getD 10 false) ((listed.setIfInBounds 10 true).getD 11 false) (set6 Wx w.heap.size o0 o1 o2 o3 o4 o5) := by
  rw [getD_set_ne false (show 10 ≠ 11 by decide), (getD_set_iff hs).2 (.inl rfl)]
  have hr := h.res
  rw [hu] at hr
  exact ⟨set6_same hr _ _ _ _ _ _, (set6_other (by omega) _ _ _ _ _ _).trans h.ok, (set6_other (by omega) _ _ _ _ _ _).trans h.out, set6_below h.below (Nat.le_refl _) _ _ _ _ _ _, h.keep.trans (set6_keeps _ _ _ _ _ _ _ _)⟩
theorem RegI.put11 {w W : World} {o0 o1 o2 o3 o4 o5 : Value} {b : Bool} {listed : Array Bool} {Wx : World} (hs : 11 < listed.size) (hu : listed.getD 11 false = false) (h : RegI w W o0 o1 o2 o3 o4 o5 b (listed.getD 10 false) (listed.getD 11 false) Wx) :
    RegI w W o0 o1 o2 o3 o4 o5 b ((listed.setIfInBounds 11 true).getD 10 false) ((listed.setIfInBounds 11 true).getD 11 false) (Wx.setCell ⟨w.heap.size + 1, 0, none⟩ (.bool b)) := by
  rw [getD_set_ne false (show 11 ≠ 10 by decide), (getD_set_iff hs).2 (.inl rfl)]
  exact ⟨(heap_setCell_other _ _ _ _ (by simp)).trans h.res, one_setCell h.ok, (heap_setCell_other _ _ _ _ (by simp)).trans h.out, h.below.setCell (p := ⟨w.heap.size + 1, 0, none⟩) (by simp) _, h.keep.trans (KeepsOthers.setCell _ _ _)⟩
theorem wrap64_id {x : Int} (h0 : 0 ≤ x) (h1 : x ≤ 1000000000) : wrap64 x = x := by unfold wrap64; omega
theorem prodW1 (a : Int) : prodW [a] = wrap64 a := by simp [prodW]
theorem prodW2 (a b : Int) : prodW [a, b] = wrap64 (wrap64 a * b) := by simp [prodW]
theorem prodW3 (a b c : Int) : prodW [a, b, c] = wrap64 (wrap64 (wrap64 a * b) * c) := by simp [prodW]
theorem prodN1 (a : Nat) : prodN [a] = a := by simp [prodN]
theorem prodN2 (a b : Nat) : prodN [a, b] = a * b := by simp [prodN]
theorem prodN3 (a b c : Nat) : prodN [a, b, c] = a * b * c := by simp [prodN]
theorem wmul {a b : Nat} (h : a * b ≤ 1000000000) : wrap64 ((a : Int) * (b : Int)) = ((a * b : Nat) : Int) := by
  rw [← Int.natCast_mul]; exact wrap64_id (by omega) (by omega)
theorem prodW_2 {a b : Nat} (ha : a ≤ 1000) (hb : b ≤ 1000) : prodW [(a : Int), (b : Int)] = (prodN [a, b] : Int) := by
  have h2 : a * b ≤ 1000 * 1000 := Nat.mul_le_mul ha hb
  rw [prodW2, prodN2, wrap64_id (x := (a : Int)) (by omega) (by omega), wmul (by omega)]
theorem prodW_3 {a b c : Nat} (ha : a ≤ 1000) (hb : b ≤ 1000) (hc : c ≤ 1000) : prodW [(a : Int), (b : Int), (c : Int)] = (prodN [a, b, c] : Int) := by
  have h2 : a * b ≤ 1000 * 1000 := Nat.mul_le_mul ha hb
  have h3 : a * b * c ≤ 1000 * 1000 * 1000 := Nat.mul_le_mul h2 hc
  rw [prodW3, prodN3, wrap64_id (x := (a : Int)) (by omega) (by omega), wmul (by omega), wmul (by omega)]
theorem prodW_ext (ext : List Nat) (hl : ext.length ≤ 3) (h : ∀ n ∈ ext, n ≤ 1000) : prodW (([ext.getD 0 0, ext.getD 1 0, ext.getD 2 0].map Int.ofNat).take ext.length) = (prodN ext : Int) := by
  match ext, hl, h with
  | [], _, _ => rfl
  | [a], _, h => 
    have ha : a ≤ 1000 := h a (by simp)
    have : prodW [(a : Int)] = (prodN [a] : Int) := by rw [prodW1, prodN1, wrap64_id (by omega) (by omega)]
    simpa using this
  | [a, b], _, h => simpa using prodW_2 (h a (by simp)) (h b (by simp))
  | [a, b, c], _, h => simpa using prodW_3 (h a (by simp)) (h b (by simp)) (h c (by simp))
  | a :: b :: c :: d :: l, h, _ => simp at h
theorem shm_one {w W W1 : World} {k r e0 e1 e2 z : Nat} {l : List UInt8} {pre : List (List UInt8 × Bool)} {ext : List Nat} (hi : ShI w k l pre ext W) (hb : Below W.heap.size W W1)
    (ho : W.heap[w.heap.size + 1 + 1]? = some (.cells #[.int .i64 k, .int .i64 z, .int .i64 r, .int .i64 e0, .int .i64 e1, .int .i64 e2] 160 (0, 0))) (o : Obj) (nb : Nat) :
    ShM w W k nb r e0 e1 e2 ((W1.setCell ⟨w.heap.size + 1 + 1, 1, none⟩ (.int .i64 nb)).alloc o) := by
  have hz := blkLt (blkBelow ho hb)
  refine ⟨allocPast _ ((heap_setCell_other _ _ _ _ (by simp; omega)).trans (blkBelow hi.res hb)) (by simp [World.setCell]; omega), allocPast _ ((heap_setCell_other _ _ _ _ (by simp)).trans (blkBelow hi.ok hb)) (by simp [World.setCell]; omega), allocPast _ ?_ (by simpa [World.setCell] using hz), ?_, ?_⟩
  · rw [heap_setCell_same _ _ _ _ _ _ (blkBelow ho hb)]; rfl
  · exact ((hi.below.trans (hb.mono hi.below.size)).setCell (p := ⟨w.heap.size + 1 + 1, 1, none⟩) (by simp; omega) _).alloc (by simp [World.setCell]; omega) _
  · exact ((below_keeps hb).trans (KeepsOthers.setCell _ _ _)).trans (KeepsOthers.alloc _ _)
theorem shm_two {w W W1 : World} {k r e0 e1 e2 z : Nat} {l : List UInt8} {pre : List (List UInt8 × Bool)} {ext : List Nat} (hi : ShI w k l pre ext W) (hb : Below W.heap.size W W1)
    (ho : W.heap[w.heap.size + 1 + 1]? = some (.cells #[.int .i64 k, .int .i64 z, .int .i64 r, .int .i64 e0, .int .i64 e1, .int .i64 e2] 160 (0, 0))) (o : Obj) (nb : Nat) (u : Value) :
    ShM w W k nb r e0 e1 e2 (((W1.setCell ⟨w.heap.size + 1 + 1, 1, none⟩ u).setCell ⟨w.heap.size + 1 + 1, 1, none⟩ (.int .i64 nb)).alloc o) := by
  have hz := blkLt (blkBelow ho hb)
  refine ⟨allocPast _ ((heap_setCell_other _ _ _ _ (by simp; omega)).trans ((heap_setCell_other _ _ _ _ (by simp; omega)).trans (blkBelow hi.res hb))) (by simp [World.setCell]; omega), allocPast _ ((heap_setCell_other _ _ _ _ (by simp)).trans ((heap_setCell_other _ _ _ _ (by simp)).trans (blkBelow hi.ok hb))) (by simp [World.setCell]; omega), allocPast _ ?_ (by simpa [World.setCell] using hz), ?_, ?_⟩
  · rw [heap_setCell_same _ _ _ _ _ _ (heap_setCell_same _ _ _ _ _ _ (blkBelow ho hb))]; rfl
  · exact (((hi.below.trans (hb.mono hi.below.size)).setCell (p := ⟨w.heap.size + 1 + 1, 1, none⟩) (by simp; omega) _).setCell (p := ⟨w.heap.size + 1 + 1, 1, none⟩) (by simp; omega) _).alloc (by simp [World.setCell]; omega) _
  · exact (((below_keeps hb).trans (KeepsOthers.setCell _ _ _)).trans (KeepsOthers.setCell _ _ _)).trans (KeepsOthers.alloc _ _)
theorem shx_mk {w : World} {k : Nat} {l : List UInt8} {pre : List (List UInt8 × Bool)} {ext : List Nat} {W W1 : World} (hi : ShI w k l pre ext W) (hb : Below W.heap.size W W1) (p : Pd) (okv : Bool)
    (hspec : ∀ q, shapeOf k l = some q → p = q) (hlen : p.ext.length ≤ 3) (hok : okv = (shapeOf k l).isSome) :
    ShX w k l p ((set6 W1 w.heap.size (.int .i64 p.kind) (.int .i64 p.bits) (.int .i64 p.ext.length) (.int .i64 (p.ext.getD 0 0 : Nat)) (.int .i64 (p.ext.getD 1 0 : Nat)) (.int .i64 (p.ext.getD 2 0 : Nat))).setCell ⟨w.heap.size + 1, 0, none⟩ (.bool okv)) := by
  refine ⟨hspec, hlen, ?_, ?_, ?_⟩
  · rw [heap_setCell_other _ _ _ _ (by simp), set6_same (blkBelow hi.res hb)]; rfl
  · subst hok
    exact one_setCell ((set6_other (by omega) _ _ _ _ _ _).trans (blkBelow hi.ok hb))
  · exact (set6_below (hi.below.trans (hb.mono hi.below.size)) (Nat.le_refl _) _ _ _ _ _ _).setCell (p := ⟨w.heap.size + 1, 0, none⟩) (Nat.le_succ _) _
theorem shi_none {w : World} {k : Nat} {l xl : List UInt8} {pre : List (List UInt8 × Bool)} {ext : List Nat} {W : World} (hi : ShI w k l pre ext W) (hp : pre ++ [(xl, false)] <+: partsOf l)
    (hn : ∀ v, numOf xl = some v → ¬ (v ≤ 1000 ∧ ext.length < 3)) : shapeOf k l = none := by
  obtain ⟨rest, hr⟩ := hp
  unfold shapeOf
  rw [hi.go ((xl, false) :: rest) (by rw [← hr]; simp), shapeP]
  split
  · rename_i v hv; rw [if_neg (hn v hv)]; rfl
  · rfl
theorem shi_step {w : World} {k : Nat} {l xl : List UInt8} {pre : List (List UInt8 × Bool)} {ext : List Nat} {W : World} {v : Nat} (hi : ShI w k l pre ext W) (hn : numOf xl = some v) (hv : v ≤ 1000) (hl : ext.length < 3) :
    ∀ rest, (pre ++ [(xl, false)]) ++ rest = partsOf l → shapeP [] (partsOf l) = shapeP (ext ++ [v]) rest := by
  intro rest hr
  rw [hi.go ((xl, false) :: rest) (by rw [← hr]; simp), shapeP, hn]
  simp only
  rw [if_pos ⟨hv, hl⟩]
theorem shi_last {w : World} {k : Nat} {l xl : List UInt8} {pre : List (List UInt8 × Bool)} {ext : List Nat} {W : World} (hi : ShI w k l pre ext W) (hp : pre ++ [(xl, true)] <+: partsOf l) :
    shapeOf k l = (elemOf xl).bind fun e => if prodN ext ≤ 4096 then some ⟨k, if e.kind = 1 then 0 else e.bits, ext⟩ else none := by
  obtain ⟨rest, hr⟩ := hp
  unfold shapeOf
  rw [hi.go ((xl, true) :: rest) (by rw [← hr]; simp), shapeP]
  cases elemOf xl with
  | none => rfl
  | some e => simp only [Option.bind_some]; split <;> rfl

theorem pdCells_snoc : ∀ (k v : Nat) (ext : List Nat), ext.length < 3 → ((pdCells k 0 ext).setIfInBounds (3 + ext.length) (.int .i64 v)).setIfInBounds 2 (.int .i64 ((ext.length + 1 : Nat) : Int)) = pdCells k 0 (ext ++ [v])
  | k, v, [], _ => by simp [pdCells]
  | k, v, [a], _ => by simp [pdCells]
  | k, v, [a, b], _ => by simp [pdCells]
  | k, v, a :: b :: c :: l, h => by simp at h; omega
theorem shi_next {w : World} {k : Nat} {l xl : List UInt8} {pre : List (List UInt8 × Bool)} {ext : List Nat} {W W1 : World} {v : Nat} (hi : ShI w k l pre ext W) (hb : Below W.heap.size W W1) (hn : numOf xl = some v) (hv : v ≤ 1000) (hl : ext.length < 3) :
    ShI w k l (pre ++ [(xl, false)]) (ext ++ [v]) ((W1.setCell ⟨w.heap.size + 1 + 1, 3 + ext.length, none⟩ (.int .i64 v)).setCell ⟨w.heap.size + 1 + 1, 2, none⟩ (.int .i64 ((ext.length + 1 : Nat) : Int))) := by
  refine ⟨shi_step hi hn hv hl, ?_, ?_, ?_, ?_, ?_, ?_, ?_⟩
  · intro x hx; rw [List.mem_append] at hx
    rcases hx with hx | hx
    · exact hi.mid x hx
    · simp at hx; rw [hx]
  · simp; omega
  · intro n hn'; rw [List.mem_append] at hn'
    rcases hn' with h | h
    · exact hi.all n h
    · simp at h; omega
  · rw [heap_setCell_other _ _ _ _ (by simp; omega), heap_setCell_other _ _ _ _ (by simp; omega)]; exact blkBelow hi.res hb
  · rw [heap_setCell_other _ _ _ _ (by simp), heap_setCell_other _ _ _ _ (by simp)]; exact blkBelow hi.ok hb
  · rw [heap_setCell_same _ _ _ _ _ _ (heap_setCell_same _ _ _ _ _ _ (blkBelow hi.out hb)), pdCells_snoc k v ext hl]
  · exact ((hi.below.trans (hb.mono hi.below.size)).setCell (p := ⟨w.heap.size + 1 + 1, 3 + ext.length, none⟩) (by simp; omega) _).setCell (p := ⟨w.heap.size + 1 + 1, 2, none⟩) (by simp; omega) _

set_option maxRecDepth 100000 in
set_option maxHeartbeats 2000000 in
theorem shape_any (k : Nat) (l : List UInt8) (w : World) (hl : l.length ≤ 140737488355328) (hk : k ≤ 5) :
    Calls Tryz.prog 164 #[.int .i64 k, .string ⟨l.toArray⟩] w (ShapePost k l w) := by
  refine (callsIn_wide (n := 6)).1 ?_
  refine callsIn_of_wp_marks Tryz.func164 rfl trivial ?_ rfl
  simp only [Tryz.ntmps164, List.size_toArray, List.length_cons, List.length_nil, Nat.reduceAdd, Nat.reduceSub, Array.replicate_succ, Array.replicate_zero, List.push_toArray, List.append_toArray, List.nil_append, List.cons_append]
  gi_wp2_with (refine ⟨trivial, ?_⟩; gi_at_call 170; refine (callsIn_wide.2 (parts_any _ _)).mono ?_; rintro e w' ⟨rfl, rfl⟩)
  refine wpIn_range_outer rfl (by omega) (gf := 177) (lb := #[.pointer (some ⟨w.heap.size + 1 + 1 + 1, 0, none⟩)]) rfl trivial (enters_of Tryz.func177 (by kernel_rfl) rfl)
    (parts_seq 5 (w.heap.size + 1 + 1 + 1) l hl (by omega)) (fun W r ⟨e, v, hv⟩ => ⟨_, e ▸ hv, .inr rfl⟩) ?pre (fun h k => k.trans h) ?kb (fun _ => rfl)
    (fun pre W => ∃ ext, ShI w k l pre ext W) (fun c pre W => c = .ret ∧ ∃ p, ShX w k l p W) ?hI ?hIx ?h0
    (fun x a' _ => a' = { tmps := #[.int .i64 k, .string ⟨l.toArray⟩, undef, undef, .pointer (some ⟨w.heap.size, 0, none⟩), .pointer (some ⟨w.heap.size + 1, 0, none⟩), .pointer (some ⟨w.heap.size + 1 + 1, 0, none⟩), .string ⟨x.1.toArray⟩, .bool x.2, undef, undef, undef, undef, .int .i64 k, .agg #[.int .i64 k, .int .i64 0, .int .i64 0, .int .i64 0, .int .i64 0, .int .i64 0], .string ⟨l.toArray⟩, .func (.func 177) #[] #[.pointer (some ⟨w.heap.size + 1 + 1 + 1, 0, none⟩)], .string ⟨x.1.toArray⟩, .bool x.2, undef, undef, undef, undef, undef, undef, undef, undef, undef, undef, undef, undef, undef, undef, undef, undef, undef, undef, undef, undef, undef, undef, undef, undef, undef, undef, undef, undef, undef, undef, undef, undef, undef, undef, undef, undef, undef, undef, undef, undef, undef, undef, undef, undef, undef, undef], defers := [] }) (fun x a' _ _ _ _ h _ _ => h) ?assign ?body ?done ?stop
  case pre => exact fun W1 hb => (hb.block _ (by simp)).trans (allocAt _ (by simp))
  case kb => exact fun W m o o' hm _ _ _ => World.putObj_heap_other (by simp at hm; omega)
  case hI =>
    rintro pre W W' row ⟨ext, h⟩ hg hr
    exact ⟨ext, h.go, h.mid, h.len, h.all, turn_keeps hg hr (tbox_ne (by omega)) h.res, turn_keeps hg hr (tbox_ne (by omega)) h.ok, turn_keeps hg hr (tbox_ne (by omega)) h.out, turn_below h.below hg hr (tbox_le (by omega)) (Nat.le_refl _) (by simp; omega)⟩
  case hIx =>
    rintro c pre W W' row ⟨hc, p, h⟩ hg hr
    exact ⟨hc, p, h.spec, h.len, turn_keeps hg hr (tbox_ne (by omega)) h.res, turn_keeps hg hr (tbox_ne (by omega)) h.ok, turn_below h.below hg hr (tbox_le (by omega)) (Nat.le_refl _) (by simp; omega)⟩
  case h0 =>
    refine ⟨[], fun rest h => by rw [← h]; rfl, by simp, by simp, by simp, ?_, ?_, ?_, ?_⟩
    · exact allocPast _ (allocPast _ (allocPast _ (allocAt _ rfl) (by simp)) (by simp <;> omega)) (by simp <;> omega)
    · exact allocPast _ (allocPast _ (allocAt _ (by simp)) (by simp)) (by simp <;> omega)
    · exact allocPast _ (allocAt _ (by simp)) (by simp)
    · exact ((((Below.refl _ w).alloc (Nat.le_refl _) _).alloc (by simp) _).alloc (by simp; omega) _).alloc (by simp; omega) _
  case assign =>
    intro yl pre x W K hi hK
    gi_wp2_with fail
    exact hK _ _ (KeepsFrom.refl _ _) rfl hi rfl
  case body =>
    rintro yl pre x a' W hyl hrec ⟨ext, hi⟩ rfl hlen
    have hlenr : W.heap.size = W.heap.size := rfl
    obtain ⟨xl, xf⟩ := x
    obtain ⟨e0, he0⟩ : ∃ e0, e0 = ext.getD 0 0 := ⟨_, rfl⟩
    obtain ⟨e1, he1⟩ : ∃ e1, e1 = ext.getD 1 0 := ⟨_, rfl⟩
    obtain ⟨e2, he2⟩ : ∃ e2, e2 = ext.getD 2 0 := ⟨_, rfl⟩
    obtain ⟨r, hr⟩ : ∃ r, r = ext.length := ⟨_, rfl⟩
    have hr3 : r ≤ 3 := by rw [hr]; exact hi.len
    have hout := hi.out
    rw [pdCells, ← he0, ← he1, ← he2, ← hr] at hout
    have HI := Lib.hid hi
    have HE := Lib.hid (And.intro he0 (And.intro he1 (And.intro he2 hr)))
    have c0 := blkCell hi.res; have f0 := blkFree hi.res
    have c1 := blkCell hi.ok; have f1 := blkFree hi.ok
    have c2 := blkCell hout; have f2 := blkFree hout
    have Hout := Lib.hid hout
    clear hi he0 he1 he2 hr hout
    have HPRE := Lib.hid hlen; clear hlen
    have hb3 : w.heap.size + 1 + 1 + 1 < W.heap.size := by
      obtain ⟨r, hr⟩ := hrec
      have := blkLt hr
      simp at hyl; omega
    have hkp : ∀ (W1 : World), Below W.heap.size W W1 → ∀ (i j : Nat) (u v : Value), ((W1.setCell ⟨w.heap.size + 1 + 1, i, none⟩ u).setCell ⟨w.heap.size + 1 + 1, j, none⟩ v).heap[w.heap.size + 1 + 1 + 1]? = W.heap[w.heap.size + 1 + 1 + 1]? := by
      intro W1 hb i j u v
      rw [heap_setCell_other _ _ _ _ (by simp), heap_setCell_other _ _ _ _ (by simp)]
      exact hb.block _ hb3
    clear hyl hrec
    cases xf
    · cases hn : numOf xl with
      | none =>
        have hno := Lib.hid (shi_none HI.out HPRE.out (fun v hv => by rw [hn] at hv; cases hv))
        have Hn := Lib.hid (show numOf (ByteArray.mk xl.toArray).data.toList = _ from hn); clear hn
        gi_wp2_with (refine ⟨trivial, ?_⟩; gi_at_call 169; refine (CallsIn.inRound yl (callsIn_wide.2 (number_none _ _ _ Hn.out))).mono ?_; rintro e W1 ⟨rfl, hb1⟩; (have c0 := blkCell (blkBelow HI.out.res hb1)); (have f0 := blkFree (blkBelow HI.out.res hb1)); (have c1 := blkCell (blkBelow HI.out.ok hb1)); (have f1 := blkFree (blkBelow HI.out.ok hb1)); (have c2 := blkCell (blkBelow Hout.out hb1)); (have f2 := blkFree (blkBelow Hout.out hb1)))
        exact ⟨(((below_keeps hb1).trans (set6_keeps _ _ _ _ _ _ _ _)).trans (KeepsOthers.setCell _ _ _)).from _, rfl, ⟨k, 0, ext⟩, by
          obtain ⟨rfl, rfl, rfl, rfl⟩ := HE.out
          exact shx_mk HI.out hb1 ⟨k, 0, ext⟩ false (fun q hq => by rw [hno.out] at hq; cases hq) HI.out.len (by rw [hno.out]; rfl)⟩
      | some v =>
        have Hn := Lib.hid (show numOf (ByteArray.mk xl.toArray).data.toList = _ from hn); clear hn
        by_cases hv : (v : Int) ≤ 1000 ∧ r < 3
        · obtain ⟨hv, hr⟩ := hv
          have hr' : r = 0 ∨ r = 1 ∨ r = 2 := by omega
          clear hr hr3
          rcases hr' with rfl | rfl | rfl
          · gi_wp2_with (refine ⟨trivial, ?_⟩; gi_at_call 169; refine (CallsIn.inRound yl (callsIn_wide.2 (number_some _ _ _ _ Hn.out))).mono ?_; rintro e W1 ⟨rfl, hb1⟩; (have c0 := blkCell (blkBelow HI.out.res hb1)); (have f0 := blkFree (blkBelow HI.out.res hb1)); (have c1 := blkCell (blkBelow HI.out.ok hb1)); (have f1 := blkFree (blkBelow HI.out.ok hb1)); (have c2 := blkCell (blkBelow Hout.out hb1)); (have f2 := blkFree (blkBelow Hout.out hb1)))
            exact ⟨(((below_keeps hb1).trans (KeepsOthers.setCell _ _ _)).trans (KeepsOthers.setCell _ _ _)).from _, hkp W1 hb1 _ _ _ _, ext ++ [v], by
              have h4 := HE.out.2.2.2
              have := shi_next HI.out hb1 Hn.out (by omega) (by omega); rw [← h4] at this; exact this⟩
          · gi_wp2_with (refine ⟨trivial, ?_⟩; gi_at_call 169; refine (CallsIn.inRound yl (callsIn_wide.2 (number_some _ _ _ _ Hn.out))).mono ?_; rintro e W1 ⟨rfl, hb1⟩; (have c0 := blkCell (blkBelow HI.out.res hb1)); (have f0 := blkFree (blkBelow HI.out.res hb1)); (have c1 := blkCell (blkBelow HI.out.ok hb1)); (have f1 := blkFree (blkBelow HI.out.ok hb1)); (have c2 := blkCell (blkBelow Hout.out hb1)); (have f2 := blkFree (blkBelow Hout.out hb1)))
            exact ⟨(((below_keeps hb1).trans (KeepsOthers.setCell _ _ _)).trans (KeepsOthers.setCell _ _ _)).from _, hkp W1 hb1 _ _ _ _, ext ++ [v], by
              have h4 := HE.out.2.2.2
              have := shi_next HI.out hb1 Hn.out (by omega) (by omega); rw [← h4] at this; exact this⟩
          · gi_wp2_with (refine ⟨trivial, ?_⟩; gi_at_call 169; refine (CallsIn.inRound yl (callsIn_wide.2 (number_some _ _ _ _ Hn.out))).mono ?_; rintro e W1 ⟨rfl, hb1⟩; (have c0 := blkCell (blkBelow HI.out.res hb1)); (have f0 := blkFree (blkBelow HI.out.res hb1)); (have c1 := blkCell (blkBelow HI.out.ok hb1)); (have f1 := blkFree (blkBelow HI.out.ok hb1)); (have c2 := blkCell (blkBelow Hout.out hb1)); (have f2 := blkFree (blkBelow Hout.out hb1)))
            exact ⟨(((below_keeps hb1).trans (KeepsOthers.setCell _ _ _)).trans (KeepsOthers.setCell _ _ _)).from _, hkp W1 hb1 _ _ _ _, ext ++ [v], by
              have h4 := HE.out.2.2.2
              have := shi_next HI.out hb1 Hn.out (by omega) (by omega); rw [← h4] at this; exact this⟩
        · have hno := Lib.hid (shi_none HI.out HPRE.out (fun v' hv' => by rw [Hn.out] at hv'; cases hv'; intro hh; apply hv; exact ⟨by omega, by rw [HE.out.2.2.2]; exact hh.2⟩))
          have hv' : 1000 < (v : Int) ∨ ((v : Int) ≤ 1000 ∧ 3 = r) := by omega
          clear hv
          rcases hv' with hv | ⟨hv, rfl⟩
          all_goals
            gi_wp2_with (refine ⟨trivial, ?_⟩; gi_at_call 169; refine (CallsIn.inRound yl (callsIn_wide.2 (number_some _ _ _ _ Hn.out))).mono ?_; rintro e W1 ⟨rfl, hb1⟩; (have c0 := blkCell (blkBelow HI.out.res hb1)); (have f0 := blkFree (blkBelow HI.out.res hb1)); (have c1 := blkCell (blkBelow HI.out.ok hb1)); (have f1 := blkFree (blkBelow HI.out.ok hb1)); (have c2 := blkCell (blkBelow Hout.out hb1)); (have f2 := blkFree (blkBelow Hout.out hb1)))
            exact ⟨(((below_keeps hb1).trans (set6_keeps _ _ _ _ _ _ _ _)).trans (KeepsOthers.setCell _ _ _)).from _, rfl, ⟨k, 0, ext⟩, by
              obtain ⟨h1, h2, h3, h4⟩ := HE.out
              subst h1 h2 h3
              first
                | (subst h4; exact shx_mk HI.out hb1 ⟨k, 0, ext⟩ false (fun q hq => by rw [hno.out] at hq; cases hq) HI.out.len (by rw [hno.out]; rfl))
                | (have := shx_mk HI.out hb1 ⟨k, 0, ext⟩ false (fun q hq => by rw [hno.out] at hq; cases hq) HI.out.len (by rw [hno.out]; rfl); rw [← h4] at this; exact this)⟩
    · have hlast := Lib.hid (shi_last HI.out HPRE.out)
      cases he : elemOf xl with
      | none =>
        have He := Lib.hid (show elemOf (ByteArray.mk xl.toArray).data.toList = _ from he); clear he
        gi_wp2_with (refine ⟨trivial, ?_⟩; gi_at_call 162; refine (CallsIn.inRound yl (callsIn_wide.2 (element_any _ _))).mono ?_; rintro e W1 ⟨⟨pk, pb, pe⟩, hp0, hp1, rfl, hb1⟩; (obtain rfl : pe = [] := hp0); rw [He.out]; (simp only [Pd.val, Option.isSome, List.length_nil, List.getD_nil]); (have hz2 : w.heap.size + 1 + 1 < W1.heap.size := blkLt (blkBelow Hout.out hb1)); (have hz1 : w.heap.size + 1 < W1.heap.size := Nat.lt_of_succ_lt hz2); (have hz0 : w.heap.size < W1.heap.size := Nat.lt_of_succ_lt hz1); (have c0 := blkCell (blkBelow HI.out.res hb1)); (have f0 := blkFree (blkBelow HI.out.res hb1)); (have c1 := blkCell (blkBelow HI.out.ok hb1)); (have f1 := blkFree (blkBelow HI.out.ok hb1)); (have c2 := blkCell (blkBelow Hout.out hb1)); (have f2 := blkFree (blkBelow Hout.out hb1)))
        all_goals
          refine wpIn_world (ShM w W k (if pk = 1 then 0 else pb) r e0 e1 e2) (by
            first
              | (have hpk1 : pk = 1 := by have hpk : ((pk : Int) == 1) = true := by assumption
                                          simp at hpk; omega
                 rw [if_pos hpk1]; exact shm_two HI.out hb1 Hout.out _ 0 _)
              | (have hpk1 : ¬ pk = 1 := by have hpk : ((pk : Int) == 1) = false := by assumption
                                            simp at hpk; omega
                 rw [if_neg hpk1]; exact shm_one HI.out hb1 Hout.out _ pb)) ?_
          intro Wx hM
          have c0 := blkCell hM.res; have f0 := blkFree hM.res
          have c1 := blkCell hM.ok; have f1 := blkFree hM.ok
          have c2 := blkCell hM.out; have f2 := blkFree hM.out
          have HM := Lib.hid hM
          clear hM hb1 hp1 hkp hz0 hz1 hz2
          refine wpIn_tmps (fun A => A.size = 65 ∧ (∀ h : 6 < A.size, A[6]'h = .pointer (some ⟨w.heap.size + 1 + 1, 0, none⟩)) ∧ (∀ h : 10 < A.size, A[10]'h = .bool false) ∧ (∀ h : 4 < A.size, A[4]'h = .pointer (some ⟨w.heap.size, 0, none⟩)) ∧ (∀ h : 5 < A.size, A[5]'h = .pointer (some ⟨w.heap.size + 1, 0, none⟩))) ⟨rfl, fun _ => rfl, fun _ => rfl, fun _ => rfl, fun _ => rfl⟩ ?_
          rintro A ⟨hA, hA6, hA10, hA4, hA5⟩
          generalize hops : (#[_, _, _, _, _, _, _, _, _, _, _, _] : Array Oper) = ops
          obtain ⟨nb, hnb⟩ : ∃ nb, nb = (if pk = 1 then 0 else pb) := ⟨_, rfl⟩
          have hM := HM.out
          rw [← hnb] at hM
          refine wpIn_region_inv (fun i => match i with | 0 => .agg #[.int .i64 k, .int .i64 nb, .int .i64 r, .int .i64 e0, .int .i64 e1, .int .i64 e2] | 1 => .bool false | 2 => .bool false | 9 => .bool false | _ => undef)
            (fun listed Wx => RegI w W (.int .i64 k) (.int .i64 nb) (.int .i64 r) (.int .i64 e0) (.int .i64 e1) (.int .i64 e2) false (listed.getD 10 false) (listed.getD 11 false) Wx)
            (by kernel_rfl) (by rw [hA, ← hops]; kernel_rfl) (by rw [getD_replicate_false, getD_replicate_false]; exact ⟨hM.res, hM.ok, hM.out, hM.below.drew, hM.keep.trans (KeepsOthers.drew _)⟩) ?step ?fin
          case fin =>
            intro a Wz _ hz
            rw [show (Array.replicate ops.size true).getD 10 false = true by rw [← hops]; rfl, show (Array.replicate ops.size true).getD 11 false = true by rw [← hops]; rfl] at hz
            have HZ := Lib.hid hz; clear hz
            gi_wp2
            refine ⟨HZ.out.keep.from _, rfl, ⟨k, nb, ext⟩, (fun q hq => by rw [hlast.out, He.out] at hq; cases hq), HI.out.len, ?_, ?_, HZ.out.below⟩
            · obtain ⟨rfl, rfl, rfl, rfl⟩ := HE.out
              exact HZ.out.res
            · rw [hlast.out, He.out]; exact HZ.out.ok
          case step =>
            clear c0 c1 c2 f0 f1 f2 hM HM
            intro i o listed a Wy ho hs hu hall ha hi hy hlt
            have hlt' : i < 12 := by rw [← hops] at hlt; exact hlt
            have h12 : i = 0 ∨ i = 1 ∨ i = 2 ∨ i = 3 ∨ i = 4 ∨ i = 5 ∨ i = 6 ∨ i = 7 ∨ i = 8 ∨ i = 9 ∨ i = 10 ∨ i = 11 := by omega
            rcases h12 with rfl | rfl | rfl | rfl | rfl | rfl | rfl | rfl | rfl | rfl | rfl | rfl
            all_goals (have ho' := ho; rw [← hops] at ho'; simp only [List.getElem?_toArray, List.getElem?_cons_zero, List.getElem?_cons_succ, Option.some.injEq] at ho'; subst ho')
            · refine step_none rfl ?_
              have h6 : a.eval (.tmp 6) = .pointer (some ⟨w.heap.size + 1 + 1, 0, none⟩) := by rw [ha.eval_old (noDst_spec (by rw [← hops]; kernel_rfl))]; simp [Act.eval, hA, hA6]
              refine opIn_value (wideAt_round yl) (fun c h => by cases h) (v := .agg #[.int .i64 k, .int .i64 nb, .int .i64 r, .int .i64 e0, .int .i64 e1, .int .i64 e2]) (W' := Wy) ?_ ⟨rfl, by simpa only [getD_set_ne false (show 0 ≠ 10 by decide), getD_set_ne false (show 0 ≠ 11 by decide)] using hi⟩
              have := run_loadVar_row (P := Tryz.prog) Wy _ _ 160 _ _ _ hi.out Tryz.underlying160 rfl (by kernel_rfl)
              simp only [execOp, h6, Instr.loadAt, Instr.sureAddr, Sem.run_bind, Sem.run_pure, Result.andThen_ok, this]
            · refine step_none rfl ?_
              have h10 : a.eval (.tmp 10) = .bool false := by rw [ha.eval_old (noDst_spec (by rw [← hops]; kernel_rfl))]; simp [Act.eval, hA, hA10]
              refine opIn_value (wideAt_round yl) (fun c h => by cases h) (v := .bool false) (W' := Wy) ?_ ⟨rfl, by simpa only [getD_set_ne false (show 1 ≠ 10 by decide), getD_set_ne false (show 1 ≠ 11 by decide)] using hi⟩
              simp only [execOp, h10, Sem.run_pure]
            · refine step_none rfl ?_
              have h33 : a.eval (.tmp 33) = .bool false := ha.eval_got (j := 1) (by rw [← hops]; rfl) rfl (hall ⟨1, .data⟩ (by simp) rfl)
              refine opIn_value (wideAt_round yl) (fun c h => by cases h) (v := .bool false) (W' := Wy) ?_ ⟨rfl, by simpa only [getD_set_ne false (show 2 ≠ 10 by decide), getD_set_ne false (show 2 ≠ 11 by decide)] using hi⟩
              simp only [execOp, h33, Sem.run_pure]
            iterate 6
              (refine step_no rfl (hy 2 (hall ⟨2, .guard⟩ (by simp) rfl) ⟨_, _, by rw [← hops]; rfl, rfl⟩) ⟨fun _ _ => trivial, rfl, ?_⟩
               exact hi.other _ (by decide) (by decide))
            · refine step_none rfl ?_
              have h34 : a.eval (.tmp 34) = .bool false := ha.eval_got (j := 2) (by rw [← hops]; rfl) rfl (hall ⟨2, .data⟩ (by simp) rfl)
              refine opIn_value (wideAt_round yl) (fun c h => by cases h) (v := .bool false) (W' := Wy) ?_ ⟨rfl, hi.other _ (by decide) (by decide)⟩
              simp only [execOp, h34]; simp [go_sem]
            · refine step_none rfl ?_
              have h32 : a.eval (.tmp 32) = .agg #[.int .i64 k, .int .i64 nb, .int .i64 r, .int .i64 e0, .int .i64 e1, .int .i64 e2] := ha.eval_got (j := 0) (by rw [← hops]; rfl) rfl (hall ⟨0, .data⟩ (by simp) rfl)
              have h4 : a.eval (.tmp 4) = .pointer (some ⟨w.heap.size, 0, none⟩) := by rw [ha.eval_old (noDst_spec (by rw [← hops]; kernel_rfl))]; simp [Act.eval, hA, hA4]
              have hr := hi.res
              rw [hu] at hr
              have c0 := blkCell hr; have f0 := blkFree hr
              refine opIn_skip (wideAt_round yl) (fun c h => by cases h) (W' := set6 Wy w.heap.size (.int .i64 k) (.int .i64 nb) (.int .i64 r) (.int .i64 e0) (.int .i64 e1) (.int .i64 e2)) ?_ ⟨rfl, hi.put10 (by rw [hs]; exact hlt) hu⟩
              simp only [execOp, h32, h4]; simp [go_sem, c0, f0]
            · refine step_none rfl ?_
              have h41 : a.eval (.tmp 41) = .bool false := ha.eval_got (j := 9) (by rw [← hops]; rfl) rfl (hall ⟨9, .data⟩ (by simp) rfl)
              have h5 : a.eval (.tmp 5) = .pointer (some ⟨w.heap.size + 1, 0, none⟩) := by rw [ha.eval_old (noDst_spec (by rw [← hops]; kernel_rfl))]; simp [Act.eval, hA, hA5]
              have c1 := blkCell hi.ok; have f1 := blkFree hi.ok
              refine opIn_skip (wideAt_round yl) (fun c h => by cases h) (W' := Wy.setCell ⟨w.heap.size + 1, 0, none⟩ (.bool false)) ?_ ⟨rfl, hi.put11 (by rw [hs]; exact hlt) hu⟩
              simp only [execOp, h41, h5]; simp [go_sem, c1, f1]
      | some q =>
        obtain ⟨qk, qb, qe⟩ := q
        have He := Lib.hid (show elemOf (ByteArray.mk xl.toArray).data.toList = _ from he); clear he
        gi_wp2_with (refine ⟨trivial, ?_⟩; gi_at_call 162; refine (CallsIn.inRound yl (callsIn_wide.2 (element_any _ _))).mono ?_; rintro e W1 ⟨⟨pk, pb, pe⟩, hp0, hp1, rfl, hb1⟩; (obtain rfl : pe = [] := hp0); (have hp2 := hp1 _ He.out); (simp only [Pd.mk.injEq] at hp2); (obtain ⟨h1, h2, h3⟩ := hp2); (have HP2 := Lib.hid (And.intro h1 (And.intro h2 h3))); (clear h1 h2 h3); rw [He.out]; (simp only [Pd.val, Option.isSome, List.length_nil, List.getD_nil]); (have hz2 : w.heap.size + 1 + 1 < W1.heap.size := blkLt (blkBelow Hout.out hb1)); (have hz1 : w.heap.size + 1 < W1.heap.size := Nat.lt_of_succ_lt hz2); (have hz0 : w.heap.size < W1.heap.size := Nat.lt_of_succ_lt hz1); (have c0 := blkCell (blkBelow HI.out.res hb1)); (have f0 := blkFree (blkBelow HI.out.res hb1)); (have c1 := blkCell (blkBelow HI.out.ok hb1)); (have f1 := blkFree (blkBelow HI.out.ok hb1)); (have c2 := blkCell (blkBelow Hout.out hb1)); (have f2 := blkFree (blkBelow Hout.out hb1)))
        all_goals
          refine wpIn_world (ShM w W k (if pk = 1 then 0 else pb) r e0 e1 e2) (by
            first
              | (have hpk1 : pk = 1 := by have hpk : ((pk : Int) == 1) = true := by assumption
                                          simp at hpk; omega
                 rw [if_pos hpk1]; exact shm_two HI.out hb1 Hout.out _ 0 _)
              | (have hpk1 : ¬ pk = 1 := by have hpk : ((pk : Int) == 1) = false := by assumption
                                            simp at hpk; omega
                 rw [if_neg hpk1]; exact shm_one HI.out hb1 Hout.out _ pb)) ?_
          intro Wx hM
          have c0 := blkCell hM.res; have f0 := blkFree hM.res
          have c1 := blkCell hM.ok; have f1 := blkFree hM.ok
          have c2 := blkCell hM.out; have f2 := blkFree hM.out
          have HM := Lib.hid hM
          clear hM hb1 hp1 hkp hz0 hz1 hz2
          refine wpIn_tmps (fun A => A.size = 65 ∧ (∀ h : 6 < A.size, A[6]'h = .pointer (some ⟨w.heap.size + 1 + 1, 0, none⟩)) ∧ (∀ h : 10 < A.size, A[10]'h = .bool true) ∧ (∀ h : 4 < A.size, A[4]'h = .pointer (some ⟨w.heap.size, 0, none⟩)) ∧ (∀ h : 5 < A.size, A[5]'h = .pointer (some ⟨w.heap.size + 1, 0, none⟩))) ⟨rfl, fun _ => rfl, fun _ => rfl, fun _ => rfl, fun _ => rfl⟩ ?_
          rintro A ⟨hA, hA6, hA10, hA4, hA5⟩
          generalize hops : (#[_, _, _, _, _, _, _, _, _, _, _, _] : Array Oper) = ops
          obtain ⟨nb, hnb⟩ : ∃ nb, nb = (if pk = 1 then 0 else pb) := ⟨_, rfl⟩
          have hM := HM.out
          obtain ⟨pr, hpr⟩ : ∃ pr, pr = prodW (([e0, e1, e2].map Int.ofNat).take r) := ⟨_, rfl⟩
          have HPR := Lib.hid hpr; clear hpr
          rw [← hnb] at hM
          refine wpIn_region_inv (fun i => match i with | 0 => .agg #[.int .i64 k, .int .i64 nb, .int .i64 r, .int .i64 e0, .int .i64 e1, .int .i64 e2] | 1 => .bool true | 2 => .bool true | 3 => .pointer (some ⟨w.heap.size + 1 + 1, 3, none⟩) | 4 => .pointer (some ⟨w.heap.size + 1 + 1, 2, none⟩) | 5 => .int .i64 r | 6 => .slice (some ⟨w.heap.size + 1 + 1, 3, none⟩) r 3 | 7 => .int .i64 pr | 8 => .bool (decide (pr ≤ 4096)) | 9 => .bool (decide (pr ≤ 4096)) | _ => undef)
            (fun listed Wx => RegI w W (.int .i64 k) (.int .i64 nb) (.int .i64 r) (.int .i64 e0) (.int .i64 e1) (.int .i64 e2) (decide (pr ≤ 4096)) (listed.getD 10 false) (listed.getD 11 false) Wx)
            (by kernel_rfl) (by rw [hA, ← hops]; kernel_rfl) (by rw [getD_replicate_false, getD_replicate_false]; exact ⟨hM.res, hM.ok, hM.out, hM.below.drew, hM.keep.trans (KeepsOthers.drew _)⟩) ?step ?fin
          case fin =>
            intro a Wz _ hz
            rw [show (Array.replicate ops.size true).getD 10 false = true by rw [← hops]; rfl, show (Array.replicate ops.size true).getD 11 false = true by rw [← hops]; rfl] at hz
            have HZ := Lib.hid hz; clear hz
            gi_wp2
            have hprod : decide (pr ≤ 4096) = decide (prodN ext ≤ 4096) := by
              obtain ⟨h1, h2, h3, h4⟩ := HE.out
              rw [HPR.out, h1, h2, h3, h4, prodW_ext ext HI.out.len HI.out.all]
              exact decide_eq_decide.2 (by omega)
            obtain ⟨g1, g2, g3⟩ := HP2.out
            have hsp : shapeOf k l = if prodN ext ≤ 4096 then some ⟨k, nb, ext⟩ else none := by
              rw [hlast.out, He.out, hnb, ← g1, ← g2]; rfl
            refine ⟨HZ.out.keep.from _, rfl, ⟨k, nb, ext⟩, (fun q hq => ?_), HI.out.len, ?_, ?_, HZ.out.below⟩
            · rw [hsp] at hq; split at hq
              · exact (Option.some.inj hq)
              · cases hq
            · obtain ⟨rfl, rfl, rfl, rfl⟩ := HE.out
              exact HZ.out.res
            · have hz := HZ.out.ok
              rw [hz, hprod, hsp]
              split <;> simp [*]
          case step =>
            clear c0 c1 c2 f0 f1 f2 hM HM
            intro i o listed a Wy ho hs hu hall ha hi hy hlt
            have hlt' : i < 12 := by rw [← hops] at hlt; exact hlt
            have h12 : i = 0 ∨ i = 1 ∨ i = 2 ∨ i = 3 ∨ i = 4 ∨ i = 5 ∨ i = 6 ∨ i = 7 ∨ i = 8 ∨ i = 9 ∨ i = 10 ∨ i = 11 := by omega
            rcases h12 with rfl | rfl | rfl | rfl | rfl | rfl | rfl | rfl | rfl | rfl | rfl | rfl
            all_goals (have ho' := ho; rw [← hops] at ho'; simp only [List.getElem?_toArray, List.getElem?_cons_zero, List.getElem?_cons_succ, Option.some.injEq] at ho'; subst ho')
            · refine step_none rfl ?_
              have h6 : a.eval (.tmp 6) = .pointer (some ⟨w.heap.size + 1 + 1, 0, none⟩) := by rw [ha.eval_old (noDst_spec (by rw [← hops]; kernel_rfl))]; simp [Act.eval, hA, hA6]
              refine opIn_value (wideAt_round yl) (fun c h => by cases h) (v := .agg #[.int .i64 k, .int .i64 nb, .int .i64 r, .int .i64 e0, .int .i64 e1, .int .i64 e2]) (W' := Wy) ?_ ⟨rfl, by simpa only [getD_set_ne false (show 0 ≠ 10 by decide), getD_set_ne false (show 0 ≠ 11 by decide)] using hi⟩
              have := run_loadVar_row (P := Tryz.prog) Wy _ _ 160 _ _ _ hi.out Tryz.underlying160 rfl (by kernel_rfl)
              simp only [execOp, h6, Instr.loadAt, Instr.sureAddr, Sem.run_bind, Sem.run_pure, Result.andThen_ok, this]
            · refine step_none rfl ?_
              have h10 : a.eval (.tmp 10) = .bool true := by rw [ha.eval_old (noDst_spec (by rw [← hops]; kernel_rfl))]; simp [Act.eval, hA, hA10]
              refine opIn_value (wideAt_round yl) (fun c h => by cases h) (v := .bool true) (W' := Wy) ?_ ⟨rfl, by simpa only [getD_set_ne false (show 1 ≠ 10 by decide), getD_set_ne false (show 1 ≠ 11 by decide)] using hi⟩
              simp only [execOp, h10, Sem.run_pure]
            · refine step_none rfl ?_
              have h33 : a.eval (.tmp 33) = .bool true := ha.eval_got (j := 1) (by rw [← hops]; rfl) rfl (hall ⟨1, .data⟩ (by simp) rfl)
              refine opIn_value (wideAt_round yl) (fun c h => by cases h) (v := .bool true) (W' := Wy) ?_ ⟨rfl, by simpa only [getD_set_ne false (show 2 ≠ 10 by decide), getD_set_ne false (show 2 ≠ 11 by decide)] using hi⟩
              simp only [execOp, h33, Sem.run_pure]
            · refine step_yes rfl (hy 2 (hall ⟨2, .guard⟩ (by simp) rfl) ⟨_, _, by rw [← hops]; rfl, rfl⟩) ?_
              have h6 : a.eval (.tmp 6) = .pointer (some ⟨w.heap.size + 1 + 1, 0, none⟩) := by rw [ha.eval_old (noDst_spec (by rw [← hops]; kernel_rfl))]; simp [Act.eval, hA, hA6]
              refine opIn_value (wideAt_round yl) (fun c h => by cases h) (v := .pointer (some ⟨w.heap.size + 1 + 1, 3, none⟩)) (W' := Wy) ?_ ⟨rfl, hi.other _ (by decide) (by decide)⟩
              simp only [execOp, h6]; simp [go_sem]
            · refine step_yes rfl (hy 2 (hall ⟨2, .guard⟩ (by simp) rfl) ⟨_, _, by rw [← hops]; rfl, rfl⟩) ?_
              have h6 : a.eval (.tmp 6) = .pointer (some ⟨w.heap.size + 1 + 1, 0, none⟩) := by rw [ha.eval_old (noDst_spec (by rw [← hops]; kernel_rfl))]; simp [Act.eval, hA, hA6]
              refine opIn_value (wideAt_round yl) (fun c h => by cases h) (v := .pointer (some ⟨w.heap.size + 1 + 1, 2, none⟩)) (W' := Wy) ?_ ⟨rfl, hi.other _ (by decide) (by decide)⟩
              simp only [execOp, h6]; simp [go_sem]
            · refine step_yes rfl (hy 2 (hall ⟨2, .guard⟩ (by simp) rfl) ⟨_, _, by rw [← hops]; rfl, rfl⟩) ?_
              have h36 : a.eval (.tmp 36) = .pointer (some ⟨w.heap.size + 1 + 1, 2, none⟩) := ha.eval_got (j := 4) (by rw [← hops]; rfl) rfl (hall ⟨4, .data⟩ (by simp) rfl)
              have c2 := blkCell hi.out
              refine opIn_value (wideAt_round yl) (fun c h => by cases h) (v := .int .i64 r) (W' := Wy) ?_ ⟨rfl, hi.other _ (by decide) (by decide)⟩
              simp only [execOp, h36]; simp [go_sem, c2]
            · refine step_yes rfl (hy 2 (hall ⟨2, .guard⟩ (by simp) rfl) ⟨_, _, by rw [← hops]; rfl, rfl⟩) ?_
              have h35 : a.eval (.tmp 35) = .pointer (some ⟨w.heap.size + 1 + 1, 3, none⟩) := ha.eval_got (j := 3) (by rw [← hops]; rfl) rfl (hall ⟨3, .data⟩ (by simp) rfl)
              have h37 : a.eval (.tmp 37) = .int .i64 r := ha.eval_got (j := 5) (by rw [← hops]; rfl) rfl (hall ⟨5, .data⟩ (by simp) rfl)
              refine opIn_value (wideAt_round yl) (fun c h => by cases h) (v := .slice (some ⟨w.heap.size + 1 + 1, 3, none⟩) r 3) (W' := Wy) ?_ ⟨rfl, hi.other _ (by decide) (by decide)⟩
              have hr3' : (r : Int) ≤ 3 := by omega
              simp only [execOp, h35, Option.map_some, Option.map_none, h37]; simp [go_sem, hr3', hr3]
            · refine step_yes rfl (hy 2 (hall ⟨2, .guard⟩ (by simp) rfl) ⟨_, _, by rw [← hops]; rfl, rfl⟩) ?_
              have h38 : a.eval (.tmp 38) = .slice (some ⟨w.heap.size + 1 + 1, 3, none⟩) r 3 := ha.eval_got (j := 6) (by rw [← hops]; rfl) rfl (hall ⟨6, .data⟩ (by simp) rfl)
              have c2 := blkCell hi.out
              refine opIn_call (wideAt_round yl) (fun c h => by cases h) (f := 171) (args := #[.slice (some ⟨w.heap.size + 1 + 1, 3, none⟩) r 3]) (W' := Wy) ?_ (product_any _ 3 r 3 ([e0, e1, e2].map Int.ofNat) Wy (by simpa using hr3) (by omega) ?_) ?_
              · simp only [Act.eval] at h38; simp at h38; simp only [execOp]; simp [go_sem, resolve, invoke, h38]
              · intro j hj
                have hj' : j = 0 ∨ j = 1 ∨ j = 2 := by simp at hj; omega
                rcases hj' with rfl | rfl | rfl <;> simp [c2]
              · rintro e Wz ⟨rfl, rfl⟩
                exact ⟨_, rfl, by show a.put _ _ = a.put _ (Value.int .i64 pr); rw [HPR.out], hi.other _ (by decide) (by decide)⟩
            · refine step_yes rfl (hy 2 (hall ⟨2, .guard⟩ (by simp) rfl) ⟨_, _, by rw [← hops]; rfl, rfl⟩) ?_
              have h39 : a.eval (.tmp 39) = .int .i64 pr := ha.eval_got (j := 7) (by rw [← hops]; rfl) rfl (hall ⟨7, .data⟩ (by simp) rfl)
              refine opIn_value (wideAt_round yl) (fun c h => by cases h) (v := .bool (decide (pr ≤ 4096))) (W' := Wy) ?_ ⟨rfl, hi.other _ (by decide) (by decide)⟩
              simp only [execOp, h39]; simp [go_sem]
            · refine step_none rfl ?_
              have h40 : a.eval (.tmp 40) = .bool (decide (pr ≤ 4096)) := ha.eval_got (j := 8) (by rw [← hops]; rfl) rfl (hall ⟨8, .data⟩ (by simp) rfl)
              have h34 : a.eval (.tmp 34) = .bool true := ha.eval_got (j := 2) (by rw [← hops]; rfl) rfl (hall ⟨2, .data⟩ (by simp) rfl)
              refine opIn_value (wideAt_round yl) (fun c h => by cases h) (v := .bool (decide (pr ≤ 4096))) (W' := Wy) ?_ ⟨rfl, hi.other _ (by decide) (by decide)⟩
              simp only [execOp, h34, h40]; simp [go_sem]
            · refine step_none rfl ?_
              have h32 : a.eval (.tmp 32) = .agg #[.int .i64 k, .int .i64 nb, .int .i64 r, .int .i64 e0, .int .i64 e1, .int .i64 e2] := ha.eval_got (j := 0) (by rw [← hops]; rfl) rfl (hall ⟨0, .data⟩ (by simp) rfl)
              have h4 : a.eval (.tmp 4) = .pointer (some ⟨w.heap.size, 0, none⟩) := by rw [ha.eval_old (noDst_spec (by rw [← hops]; kernel_rfl))]; simp [Act.eval, hA, hA4]
              have hr := hi.res
              rw [hu] at hr
              have c0 := blkCell hr; have f0 := blkFree hr
              refine opIn_skip (wideAt_round yl) (fun c h => by cases h) (W' := set6 Wy w.heap.size (.int .i64 k) (.int .i64 nb) (.int .i64 r) (.int .i64 e0) (.int .i64 e1) (.int .i64 e2)) ?_ ⟨rfl, hi.put10 (by rw [hs]; exact hlt) hu⟩
              simp only [execOp, h32, h4]; simp [go_sem, c0, f0]
            · refine step_none rfl ?_
              have h41 : a.eval (.tmp 41) = .bool (decide (pr ≤ 4096)) := ha.eval_got (j := 9) (by rw [← hops]; rfl) rfl (hall ⟨9, .data⟩ (by simp) rfl)
              have h5 : a.eval (.tmp 5) = .pointer (some ⟨w.heap.size + 1, 0, none⟩) := by rw [ha.eval_old (noDst_spec (by rw [← hops]; kernel_rfl))]; simp [Act.eval, hA, hA5]
              have c1 := blkCell hi.ok; have f1 := blkFree hi.ok
              refine opIn_skip (wideAt_round yl) (fun c h => by cases h) (W' := Wy.setCell ⟨w.heap.size + 1, 0, none⟩ (.bool (decide (pr ≤ 4096)))) ?_ ⟨rfl, hi.put11 (by rw [hs]; exact hlt) hu⟩
              simp only [execOp, h41, h5]; simp [go_sem, c1, f1]
  case done =>
    rintro D xs W _ rfl ⟨ext, hi⟩ _
    obtain ⟨x, hx, hx2⟩ := partsOf_end _ l (Nat.le_refl _)
    have := hi.mid x hx
    rw [hx2] at this; cases this
  case stop =>
    rintro D c pre W hD _ ⟨rfl, p, hx⟩ hK
    have hD' : w.heap.size + 1 + 1 + 1 < D := by simp at hD; omega
    have hx0 : (W.putObj D (.deferred none)).heap[w.heap.size]? = _ := (World.putObj_heap_other (by omega)).trans hx.res
    have hx1 : (W.putObj D (.deferred none)).heap[w.heap.size + 1]? = _ := (World.putObj_heap_other (by omega)).trans hx.ok
    have HX := Lib.hid hx
    have c0 := blkCell hx0
    have c1 := blkCell hx1
    have HK := Lib.hid hK
    have HB : Hid (Below w.heap.size w (W.putObj D (.deferred none))) := hx.below.grown (grownBy_putObj' W D _) hx.below.size (fun k e => by cases e; omega)
    clear hx hx0 hx1 hK
    gi_wp2
    refine ⟨by simp, .inl ⟨_, _, rfl, run_takeDeferred HK.out, ?_⟩⟩
    refine ⟨.tuple #[p.val, .bool (shapeOf k l).isSome], ?_, ⟨p, HX.out.spec, HX.out.len, rfl, HB⟩⟩
    simp [results, Tryz.results164, go_sem, c0, c1, pdCells, Pd.val]
end Go.Proofs.YtmepjbjmjbpchaaGreatDoor
end
