/- Texts of this claim, laid together: Az1, Ae0, Ae1, TyB, TyC, TyE, TyF, TyG, TyH, Rf2, Rf3, Aw0, Run. -/
import Derived.Deep.RegionLaw
import Derived.Laws.IdiomCopy
import Derived.Lib.LazyBuf
import Derived.WalkMore
import Derived.Test.YtmepjbjmjbpchaaGreatDoorMg1
import Derived.Test.YtmepjbjmjbpchaaGreatDoorMg5
import Derived.Test.YtmepjbjmjbpchaaGreatDoorMg6
import Derived.Test.YtmepjbjmjbpchaaGreatDoorMg15
import Derived.Test.YtmepjbjmjbpchaaGreatDoorMg16
import Derived.Test.YtmepjbjmjbpchaaGreatDoorMg18
section
/- attrs.guess at the strings that the examples use. -/
namespace Go.Proofs.YtmepjbjmjbpchaaGreatDoor
open Go Go.RowKit
set_option linter.unusedVariables false
set_option linter.unusedSimpArgs false

theorem not_empty {s : ByteArray} (h : 0 < s.size) : s.toList.isEmpty = false := by
  cases he : s.toList.isEmpty with
  | false => rfl
  | true =>
    have e := (toList_nil_iff s).1 (List.isEmpty_iff.1 he)
    have : s.size = 0 := by rw [ByteArray.size, ← Array.length_toList, e]; rfl
    omega
theorem mixed_in : Tryz.prog.follows .mixedOrders = true := by kernel_rfl
set_option maxRecDepth 100000 in
set_option maxHeartbeats 4000000 in
theorem guess_nil (nm : ByteArray) (w : World) :
    Calls Tryz.prog 43 #[.string nm, .string ⟨#[]⟩] w fun e w' => e = .returned (av nm 0 0 ⟨#[]⟩ none 0 0 none 0 0) ∧ Below w.heap.size w w' := by
  go_enter Tryz.func43, Tryz.ntmps43
  go_wp2_with fail
  refine bodyPost_ret (v := av nm 0 0 ⟨#[]⟩ none 0 0 none 0 0) (by simp [results, Tryz.results43, go_sem]) rfl ?_
  exact ⟨rfl, by (repeat (first | (with_reducible refine below_set ?_ (by first | exact Nat.le_refl _ | omega) _ _) | with_reducible exact Below.refl _ _ | with_reducible refine belowA ?_ _ | with_reducible refine belowD ?_ | with_reducible refine belowN ?_ _))⟩
set_option maxRecDepth 100000 in
set_option maxHeartbeats 4000000 in
theorem guess_sym (nm s : ByteArray) (w : World) (h0 : 0 < s.size) (hc : (s[0]'h0).toNat = 64) (hs : s.size ≤ 140737488355328) :
    Calls Tryz.prog 43 #[.string nm, .string s] w fun e w' => e = .returned (av nm 2 0 (s.extract 1 s.size) none 0 0 none 0 0) ∧ Below w.heap.size w w' := by
  have hne := not_empty h0
  have h1 : (1 : Int) ≤ (s.size : Int) := by omega
  have h00 : (0 : Int) < (s.size : Int) := by omega
  have hm1 : (1 : Int) ≤ max 1 ((s.size : Int) - 1) := by omega
  have hm2 : max 1 ((s.size : Int) - 1) ≤ (s.size : Int) := by omega
  have mixed := mixed_in
  go_enter Tryz.func43, Tryz.ntmps43
  go_wp2_with fail
  go_region_o
  go_wp2_with fail
  refine bodyPost_ret (v := av nm 2 0 (s.extract 1 s.size) none 0 0 none 0 0) (by simp [results, Tryz.results43, go_sem]) rfl ?_
  exact ⟨rfl, by (repeat (first | (with_reducible refine below_set ?_ (by first | exact Nat.le_refl _ | omega) _ _) | with_reducible exact Below.refl _ _ | with_reducible refine belowA ?_ _ | with_reducible refine belowD ?_ | with_reducible refine belowN ?_ _))⟩
set_option maxRecDepth 100000 in
set_option maxHeartbeats 4000000 in
theorem guess_num (nm s : ByteArray) (w : World) (h0 : 0 < s.size) (hc : (s[0]'h0).toNat = 45 ∨ (48 ≤ (s[0]'h0).toNat ∧ (s[0]'h0).toNat ≤ 57)) (hs : s.size ≤ 140737488355328) (v : Int)
    (hv : ∀ W, Below w.heap.size w W → Calls Tryz.prog 71 #[.string s, .int .i64 10, .int .i64 64] W fun e w' => ∃ er, e = .returned (.tuple #[.int .i64 v, er]) ∧ Below W.heap.size W w') :
    Calls Tryz.prog 43 #[.string nm, .string s] w fun e w' => e = .returned (av nm 0 v ⟨#[]⟩ none 0 0 none 0 0) ∧ Below w.heap.size w w' := by
  have hne := not_empty h0
  have h1 : (1 : Int) ≤ (s.size : Int) := by omega
  have h00 : (0 : Int) < (s.size : Int) := by omega
  have hm1 : (1 : Int) ≤ max 1 ((s.size : Int) - 1) := by omega
  have hm2 : max 1 ((s.size : Int) - 1) ≤ (s.size : Int) := by omega
  have mixed := mixed_in
  have HV := Lib.hid hv
  clear hv
  obtain ⟨c, hcd⟩ : ∃ c, c = (s[0]'h0).toNat := ⟨_, rfl⟩
  rw [← hcd] at hc
  have hcx : (s[0]'h0).toNat = c := hcd.symm
  clear hcd
  have hcs : c = 45 ∨ (c ≠ 45 ∧ 48 ≤ c ∧ c ≤ 57) := by omega
  clear hc
  rcases hcs with rfl | ⟨c1, c2, c3⟩
  · go_enter Tryz.func43, Tryz.ntmps43
    go_wp2_with (go_at_call 71; refine (HV.out _ ?_).mono ?_; (focus ((repeat (first | (with_reducible refine below_set ?_ (by first | exact Nat.le_refl _ | omega) _ _) | with_reducible exact Below.refl _ _ | with_reducible refine belowA ?_ _ | with_reducible refine belowD ?_ | with_reducible refine belowN ?_ _)); done)); rintro e w1 ⟨er, rfl, hb1⟩; have c0 := rdCell hb1 w.heap.size (by first | (simp; done) | (simp; omega)); have f0 := rdFree hb1 w.heap.size (by first | (simp; done) | (simp; omega)); have e0 := rdCell hb1 (w.heap.size + 1) (by first | (simp; done) | (simp; omega)); have g0 := rdFree hb1 (w.heap.size + 1) (by first | (simp; done) | (simp; omega)); have hzw1 : w.heap.size + 1 < w1.heap.size := (by have := Below.size hb1; simp at this; omega))
    refine bodyPost_ret (v := av nm 0 v ⟨#[]⟩ none 0 0 none 0 0) (by simp [results, Tryz.results43, go_sem, c0, f0, e0, g0, hzw1, show w.heap.size < w1.heap.size by omega]) rfl ?_
    exact ⟨rfl, by (repeat (first | (with_reducible refine below_set ?_ (by first | exact Nat.le_refl _ | omega) _ _) | with_reducible exact Below.refl _ _ | with_reducible refine belowA ?_ _ | with_reducible refine below_own' ?_ hb1 | with_reducible refine belowD ?_ | with_reducible refine belowN ?_ _))⟩
  · have b5 : ((c : Int) == 45) = false := by simp; omega
    have b6 : (48 : Int) ≤ (c : Int) := by omega
    have b7 : (c : Int) ≤ 57 := by omega
    go_enter Tryz.func43, Tryz.ntmps43
    go_wp2_with (go_at_call 71; refine (HV.out _ ?_).mono ?_; (focus ((repeat (first | (with_reducible refine below_set ?_ (by first | exact Nat.le_refl _ | omega) _ _) | with_reducible exact Below.refl _ _ | with_reducible refine belowA ?_ _ | with_reducible refine belowD ?_ | with_reducible refine belowN ?_ _)); done)); rintro e w1 ⟨er, rfl, hb1⟩; have c0 := rdCell hb1 w.heap.size (by first | (simp; done) | (simp; omega)); have f0 := rdFree hb1 w.heap.size (by first | (simp; done) | (simp; omega)); have e0 := rdCell hb1 (w.heap.size + 1) (by first | (simp; done) | (simp; omega)); have g0 := rdFree hb1 (w.heap.size + 1) (by first | (simp; done) | (simp; omega)); have hzw1 : w.heap.size + 1 < w1.heap.size := (by have := Below.size hb1; simp at this; omega))
    refine bodyPost_ret (v := av nm 0 v ⟨#[]⟩ none 0 0 none 0 0) (by simp [results, Tryz.results43, go_sem, c0, f0, e0, g0, hzw1, show w.heap.size < w1.heap.size by omega]) rfl ?_
    exact ⟨rfl, by (repeat (first | (with_reducible refine below_set ?_ (by first | exact Nat.le_refl _ | omega) _ _) | with_reducible exact Below.refl _ _ | with_reducible refine belowA ?_ _ | with_reducible refine below_own' ?_ hb1 | with_reducible refine belowD ?_ | with_reducible refine belowN ?_ _))⟩
set_option maxRecDepth 100000 in
set_option maxHeartbeats 4000000 in
theorem guess_ints0 (nm : ByteArray) (w : World) :
    Calls Tryz.prog 43 #[.string nm, .string ⟨#[91, 93]⟩] w fun e w' => e = .returned (av nm 4 0 ⟨#[]⟩ none 0 0 none 0 0) ∧ Below w.heap.size w w' := by
  go_enter Tryz.func43, Tryz.ntmps43
  go_wp2_with fail
  refine bodyPost_ret (v := av nm 4 0 ⟨#[]⟩ none 0 0 none 0 0) (by simp [results, Tryz.results43, go_sem]) rfl ?_
  exact ⟨rfl, by (repeat (first | (with_reducible refine below_set ?_ (by first | exact Nat.le_refl _ | omega) _ _) | with_reducible exact Below.refl _ _ | with_reducible refine belowA ?_ _ | with_reducible refine belowD ?_ | with_reducible refine belowN ?_ _))⟩
end Go.Proofs.YtmepjbjmjbpchaaGreatDoor
end
section
/- slices.Delete of one attribute out of a row of the call's own. -/
namespace Go.Proofs.YtmepjbjmjbpchaaGreatDoor
open Go Go.RowKit Go.Sort
set_option linter.unusedVariables false
set_option linter.unusedSimpArgs false

def zCellsL : List Value := [.string ⟨#[]⟩, .int .i64 0, .int .i64 0, .string ⟨#[]⟩, .slice none 0 0, .slice none 0 0]
theorem run_clear_attr (w : World) (b o c : Nat) (ty : TypeId) (hc : ∀ j, j < 6 → (w.cell? ⟨b, o + j, none⟩).isSome = true) (hf : ∀ j, j < 6 → w.frozen? ⟨b, o + j, none⟩ = false) :
    (Builtin.clear_ #[22] ty #[.slice (some ⟨b, o, none⟩) 1 c]).run Tryz.prog w = .ok (.tuple #[]) (w.setCells b o zCellsL) := by
  have hv : (zeroValue 27).run Tryz.prog w = .ok zAttr w := by kernel_rfl
  have hzc : (Builtin.zeroCells zAttr.cells 1).toList = zCellsL := by kernel_rfl
  have hst := run_storeCells_cells (P := Tryz.prog) b o zCellsL 0 w (by simpa [zCellsL] using hc) (by simpa [zCellsL] using hf) (by intro v hv; simp only [zCellsL, List.mem_cons, List.not_mem_nil, or_false] at hv; rcases hv with rfl | rfl | rfl | rfl | rfl | rfl <;> rfl)
  simp only [Nat.add_zero] at hst
  simp [Builtin.clear_, run_underlying Tryz.underlying22, hv, hzc, hst]
/-- What becomes of a row of which one element is taken. -/
def delW (w : World) (g n i : Nat) (cur : Array Value) : World := (w.drew.setCells g (i * 6) ((cur.toList.take (n * 6)).drop ((i + 1) * 6))).setCells g ((n - 1) * 6) zCellsL

set_option maxRecDepth 100000 in
set_option maxHeartbeats 8000000 in
theorem delete_any (g n c i j : Nat) (cur : Array Value) (w : World) (hg : w.heap[g]? = some (.cells cur 27 (0, 0))) (hcs : cur.size = c * 6) (hn : n ≤ c) (hm : c ≤ 9223372036854775807) (hji : j = i + 1) (hi : i < n) (h1c : ∀ u ∈ cur.toList.take (n * 6), u.oneCell' = true) :
    Calls Tryz.prog 65 #[.slice (some ⟨g, 0, none⟩) n c, .int .i64 i, .int .i64 j] w fun e w' => e = .returned (.slice (some ⟨g, 0, none⟩) (n - 1) c) ∧ w' = delW w g n i cur := by
  obtain ⟨i0, hin, hz0, hz1, hz2⟩ := info_parts (show (Tryz.prog.info? 27).map (fun i => (i.zero, i.size, i.bytes)) = some (some zAttr, 6, 96) by kernel_rfl)
  obtain ⟨news, hnews⟩ : ∃ news, news = (cur.toList.take (n * 6)).drop (j * 6) := ⟨_, rfl⟩
  have hlen : news.length = (n - j) * 6 := by rw [hnews]; simp; omega
  have hcell : ∀ t, w.drew.cell? ⟨g, t, none⟩ = cur[t]? := fun t => blkCell hg t
  have hfr : ∀ t, w.drew.frozen? ⟨g, t, none⟩ = false := fun t => blkFree hg t
  have hget : ∀ t u, news[t]? = some u → cur[j * 6 + t]? = some u := by
    intro t u h
    rw [hnews, List.getElem?_drop, List.getElem?_take] at h
    split at h
    · rw [← Array.getElem?_toList]; exact h
    · cases h
  obtain ⟨A, hA, hsrc⟩ : ∃ A : Addr, (if c = j then some (⟨g, 0, none⟩ : Addr) else some ⟨g, j * 6, none⟩) = some A ∧ Hid (∀ t u, news[t]? = some u → w.drew.cell? (A.add t) = some u) := by
    by_cases h : c = j
    · refine ⟨⟨g, 0, none⟩, by simp [h], fun t u hu => ?_⟩
      have h0 : news.length = 0 := by rw [hlen]; omega
      rw [List.length_eq_zero_iff.1 h0] at hu
      simp at hu
    · refine ⟨⟨g, j * 6, none⟩, by simp [h], fun t u hu => ?_⟩
      rw [Addr.add_lit, hcell]
      exact hget t u hu
  have s1 : Hid (news.length = (n - j) * 6) := hlen
  have s2 : Hid (∀ u ∈ news, u.oneCell' = true) := fun u hu => h1c u (List.mem_of_mem_drop (by rw [hnews] at hu; exact hu))
  have s3 : Hid (∀ t, t < news.length → (w.drew.cell? ⟨g, 0 + i * 6 + t, none⟩).isSome = true ∧ w.drew.frozen? ⟨g, 0 + i * 6 + t, none⟩ = false) := by
    intro t ht
    rw [hlen] at ht
    refine ⟨?_, hfr _⟩
    rw [hcell, Array.getElem?_eq_getElem (by omega)]
    rfl
  obtain ⟨W1, hW1⟩ : ∃ W1, W1 = w.drew.setCells g (0 + i * 6) news := ⟨_, rfl⟩
  have hnn : i + (n - j) = n - 1 := by omega
  have hcl : ∀ ty, (Builtin.clear_ #[22] ty #[.slice (some ⟨g, (i + (n - j)) * 6, none⟩) (n - (i + (n - j))) (c - (i + (n - j)))]).run Tryz.prog W1 = .ok (.tuple #[]) (W1.setCells g ((i + (n - j)) * 6) zCellsL) := by
    intro ty
    rw [show n - (i + (n - j)) = 1 by omega]
    refine run_clear_attr W1 g ((i + (n - j)) * 6) _ ty (fun j hj => ?_) (fun j hj => ?_)
    · rw [hW1]
      exact World.isSome_setCells g news _ _ _ (by rw [hcell, Array.getElem?_eq_getElem (by omega)]; rfl)
    · rw [hW1, World.frozen?_setCells]; exact hfr _
  have hW : Hid (W1 = w.drew.setCells g (0 + i * 6) news) := hW1
  have hfin : Hid (W1.setCells g ((i + (n - j)) * 6) zCellsL = delW w g n i cur) := Lib.hid (by rw [hW1, hnews, Nat.zero_add, hnn, hji]; rfl)
  have hic : i ≤ c := by omega
  have hjc : j ≤ c := by omega
  have hij : i ≤ j := by omega
  have hjn : j ≤ n := by omega
  have hne : ¬ (i = j) := by omega
  have hn1n : i + (n - j) ≤ n := by omega
  have hn1c : i + (n - j) ≤ c := by omega
  have hn1x : ¬ (c = i + (n - j)) := by omega
  have HNN := Lib.hid hnn
  have mixed := mixed_in
  clear hW1 hnews hlen hcell hfr hget h1c hg hji hnn hi
  go_enter Tryz.func65, Tryz.ntmps65
  go_wp2_with fail
  go_region_law_o (refine step_append_room rfl (.tmp 22) (.tmp 25) 22 rfl 27 i0 6 Tryz.underlying22 hin hz1 g 0 i c (by simp [Act.eval, Act.put]) A (n - j) (c - j) news (by simp [Act.eval, Act.put]) s1.out hsrc.out s2.out (by omega) s3.out ?_; rw [← hW.out])
  go_wp2
  go_ret
  exact ⟨by rw [← HNN.out]; rfl, hfin.out⟩
end Go.Proofs.YtmepjbjmjbpchaaGreatDoor
end
section
/- attrs.Drop. -/
namespace Go.Proofs.YtmepjbjmjbpchaaGreatDoor
open Go Go.RowKit Go.Sort
set_option linter.unusedVariables false
set_option linter.unusedSimpArgs false

theorem grownBy_cells (B : Nat) : ∀ (vs : List Value) (o : Nat) (w : World), w.grownBy (w.setCells B o vs) (some B)
  | [], _, w => ⟨rfl, rfl, rfl, Nat.le_refl _, fun _ _ _ => rfl⟩
  | v :: r, o, w => by
    have h1 := grownBy_setOff w B o v
    have h2 := grownBy_cells B r (o + 1) (w.setCell ⟨B, o, none⟩ v)
    exact ⟨h2.os.trans h1.os, h2.tape.trans h1.tape, h2.output.trans h1.output, Nat.le_trans h1.size h2.size, fun k hk hne => (h2.block k (Nat.lt_of_lt_of_le hk h1.size) hne).trans (h1.block k hk hne)⟩
theorem grownBy_delW (w : World) (g n i : Nat) (cur : Array Value) : w.grownBy (delW w g n i cur) (some g) := by
  have h1 := grownBy_cells g ((cur.toList.take (n * 6)).drop ((i + 1) * 6)) (i * 6) w.drew
  have h2 := grownBy_cells g zCellsL ((n - 1) * 6) (w.drew.setCells g (i * 6) ((cur.toList.take (n * 6)).drop ((i + 1) * 6)))
  exact ⟨h2.os.trans h1.os, h2.tape.trans h1.tape, h2.output.trans h1.output, Nat.le_trans h1.size h2.size, fun k hk hne => (h2.block k (Nat.lt_of_lt_of_le hk h1.size) hne).trans (h1.block k hk hne)⟩
theorem delW_sl {w : World} {base g n c i : Nat} {cur : Array Value} {l : List Atr} (h : AtrOwn w base (.slice (some ⟨g, 0, none⟩) n c) l) (hg : w.heap[g]? = some (.cells cur 27 (0, 0))) (hn : n = l.length) (hnc : n ≤ c) (hcs : cur.size = c * 6) (hi : i < n)
    (hcur : cur.toList.take (n * 6) = l.flatMap Atr.cells) : AtrSl (delW w g n i cur) (some ⟨g, 0, none⟩) (l.eraseIdx i) := by
  have hgr := grownBy_delW w g n i cur
  have hmem : ∀ b ∈ l.eraseIdx i, b ∈ l := fun b hb => List.mem_of_mem_eraseIdx hb
  refine ⟨.inr ⟨g, 0, rfl, Nat.lt_of_lt_of_le (blkLt hg) hgr.size, fun j hj k hk => ?_⟩, fun b hb => (h.lies b (hmem b hb)).grown hgr (fun x hx => (h.off b (hmem b hb) x hx).2), fun b hb => h.fits b (hmem b hb)⟩
  have hjl : j < n - 1 := by rw [List.length_eraseIdx_of_lt (by omega)] at hj; omega
  have hcell : ∀ t, w.drew.cell? ⟨g, t, none⟩ = cur[t]? := fun t => blkCell hg t
  have hat : ∀ m (hm : m < l.length), cur[m * 6 + k]? = l[m].cells[k]? := by
    intro m hm
    rw [← flat_at hm hk, ← hcur, List.getElem?_take, if_pos (by omega)]
    simp
  rw [Nat.zero_add]
  unfold delW
  rw [World.cell?_setCells_out g zCellsL _ _ _ (fun _ _ => .inl (by show j * 6 + k < _; omega))]
  rw [List.getElem_eraseIdx]
  split
  · rename_i hji
    rw [World.cell?_setCells_out g _ _ _ _ (fun _ _ => .inl (by show j * 6 + k < _; omega)), hcell]
    exact hat j (by omega)
  · rename_i hji
    have hlen : ((cur.toList.take (n * 6)).drop ((i + 1) * 6)).length = (n - (i + 1)) * 6 := by simp; omega
    have hin := World.cell?_setCells_in g ((cur.toList.take (n * 6)).drop ((i + 1) * 6)) (i * 6) w.drew (fun t ht => by rw [hcell, Array.getElem?_eq_getElem (by omega)]; rfl) ((j - i) * 6 + k) (by omega)
    rw [show i * 6 + ((j - i) * 6 + k) = j * 6 + k by omega] at hin
    rw [hin, List.getElem_drop, List.getElem_take, ← hat (j + 1) (by omega)]
    rw [show (j + 1) * 6 + k = (i + 1) * 6 + ((j - i) * 6 + k) by omega, Array.getElem?_eq_getElem (by omega)]
    simp
theorem own_full {w : World} {base : Nat} {v : Value} {l : List Atr} (h : AtrOwn w base v l) (hn : 0 < l.length) : ∃ g c cur, v = .slice (some ⟨g, 0, none⟩) l.length c ∧ base ≤ g ∧ w.heap[g]? = some (.cells cur 27 (0, 0)) ∧ l.length ≤ c ∧ cur.size = c * 6 ∧ cur.toList.take (l.length * 6) = l.flatMap Atr.cells ∧ c ≤ 9223372036854775807 := by
  rcases h.own.2 with ⟨h1, h2⟩ | ⟨g, cap, cur, h1, hb, h2, h4, h5, h6, h7⟩
  · omega
  · exact ⟨g, cap, cur, h1, hb, h2, h4, h6, h7, h5⟩
theorem map_erase {α β : Type} {f : α → β} : ∀ (l : List α) (i : Nat), (l.eraseIdx i).map f = (l.map f).eraseIdx i
  | [], _ => rfl
  | _ :: _, 0 => rfl
  | a :: l, i + 1 => by simp [map_erase l i]
def DropPost (l : List Atr) (s : ByteArray) (w : World) (e : Ending) (w' : World) : Prop :=
  Below w.heap.size w w' ∧ if rightL l then (if foundB l s then ∃ sa sc l', e = .returned (.tuple #[.slice sa l'.length sc, .int .i64 0]) ∧ AtrSl w' sa l' ∧ l'.map Atr.dat = (l.map Atr.dat).eraseIdx (lowerB l s) else e = .returned (.tuple #[.slice none 0 0, .int .i64 4])) else e = .returned (.tuple #[.slice none 0 0, .int .i64 20])
set_option maxRecDepth 100000 in
set_option maxHeartbeats 4000000 in
theorem drop_no (p : Option Addr) (c : Nat) (l : List Atr) (s : ByteArray) (w : World) (hs : AtrSl w p l) (hl : l.length ≤ 100000000000000) (h : rightL l = false ∨ (rightL l = true ∧ foundB l s = false)) :
    Calls Tryz.prog 35 #[.slice p l.length c, .string s] w (DropPost l s w) := by
  have HC := Lib.hid (check_any' p c l _ hs hl)
  have HS := Lib.hid hs
  clear hs
  rcases h with h | ⟨h, h2⟩
  · have HR := Lib.hid h
    have HP : Hid (∀ w', Below w.heap.size w w' → DropPost l s w (.returned (.tuple #[.slice none 0 0, .int .i64 20])) w') := Lib.hid fun w' hb => ⟨hb, by rw [h]; rfl⟩
    clear h
    go_enter Tryz.func35, Tryz.ntmps35
    go_wp2_with (go_at_call 19; refine HC.out.mono ?_; rintro e w1 ⟨rfl, hb1⟩; rw [HR.out]; simp only [Bool.false_eq_true, if_false])
    go_ret2
    refine HP.out _ ?_
    (repeat (first | (with_reducible refine below_set ?_ (by first | exact Nat.le_refl _ | omega) _ _) | with_reducible exact Below.refl _ _ | with_reducible refine belowA ?_ _ | with_reducible refine below_own' ?_ hb1 | with_reducible refine belowD ?_ | with_reducible refine belowN ?_ _))
  · have HR := Lib.hid h
    have HF := Lib.hid h2
    have HRI := Lib.hid (rises_of_right h)
    have HP : Hid (∀ w', Below w.heap.size w w' → DropPost l s w (.returned (.tuple #[.slice none 0 0, .int .i64 4])) w') := Lib.hid fun w' hb => ⟨hb, by rw [h, h2]; rfl⟩
    clear h h2
    go_enter Tryz.func35, Tryz.ntmps35
    go_wp2_with (first
      | (go_at_call 63; refine Calls.mono (position_any p c l s _ (HS.out.below ?_) hl HRI.out) ?_; (focus ((repeat (first | (with_reducible refine below_set ?_ (by first | exact Nat.le_refl _ | omega) _ _) | with_reducible exact Below.refl _ _ | with_reducible refine belowA ?_ _ | with_reducible refine below_own' ?_ hb1 | with_reducible refine belowD ?_ | with_reducible refine belowN ?_ _)); done)); rintro e w2 ⟨rfl, hb2⟩; rw [HF.out])
      | (go_at_call 19; refine HC.out.mono ?_; rintro e w1 ⟨rfl, hb1⟩; rw [HR.out]; simp only [if_true]))
    go_ret2
    refine HP.out _ ?_
    (repeat (first | (with_reducible refine below_set ?_ (by first | exact Nat.le_refl _ | omega) _ _) | with_reducible exact Below.refl _ _ | with_reducible refine belowA ?_ _ | with_reducible refine below_own' ?_ hb2 | with_reducible refine below_own' ?_ hb1 | with_reducible refine belowD ?_ | with_reducible refine belowN ?_ _))
set_option maxRecDepth 100000 in
set_option maxHeartbeats 8000000 in
theorem drop_yes (p : Option Addr) (c : Nat) (l : List Atr) (s : ByteArray) (w : World) (hs : AtrSl w p l) (hr : rightL l = true) (hf : foundB l s = true) :
    Calls Tryz.prog 35 #[.slice p l.length c, .string s] w (DropPost l s w) := by
  have hl := right_len hr
  have HC := Lib.hid (check_any' p c l _ hs (by omega))
  have HS := Lib.hid hs
  have HR := Lib.hid hr
  have HF := Lib.hid hf
  have HRI := Lib.hid (rises_of_right hr)
  obtain ⟨hlt, hnm⟩ := found_at hf
  obtain ⟨k, hk⟩ : ∃ k, k = lowerB l s := ⟨_, rfl⟩
  have HK := Lib.hid hk
  rw [← hk] at hlt
  have hkw : IntKind.i64.wrap ((k : Int) + 1) = (((k + 1 : Nat)) : Int) := IntWalk.i64_in _ (by omega)
  clear hs hr hf hk hnm
  go_enter Tryz.func35, Tryz.ntmps35
  go_wp2_with (first
    | (go_at_call 65; refine (HDEL.out _ rfl).mono ?_; rintro e w4 ⟨rfl, hw4⟩)
    | (go_at_call 39; refine Calls.mono (attrs_any p c l _ (HS.out.below ?_) (by omega)) ?_; (focus ((repeat (first | (with_reducible refine below_set ?_ (by first | exact Nat.le_refl _ | omega) _ _) | with_reducible exact Below.refl _ _ | with_reducible refine belowA ?_ _ | with_reducible refine below_own' ?_ HB2.out | with_reducible refine below_own' ?_ HB1.out | with_reducible refine belowD ?_ | with_reducible refine belowN ?_ _)); done)); rintro e w3 ⟨v3, l3, rfl, ho3, hd3, hfr3, hb3⟩; have hln3 : l3.length = l.length := (by simpa using congrArg List.length hd3); have hl03 : 0 < l3.length := Nat.lt_of_le_of_lt (Nat.zero_le k) (hln3 ▸ hlt); have hfull := own_full ho3 hl03; obtain ⟨g3, c3, cur3, hv3, hbg3, hg3, hnc3, hcs3, hcur3, hml3⟩ := hfull; subst hv3; rw [hln3] at ho3 hnc3 hcur3 ⊢; have HDEL : Hid (∀ z : Int, z = (((k + 1 : Nat)) : Int) → Calls Tryz.prog 65 #[.slice (some ⟨g3, 0, none⟩) l.length c3, .int .i64 k, .int .i64 z] w3 fun e w' => e = .returned (.slice (some ⟨g3, 0, none⟩) (l.length - 1) c3) ∧ w' = delW w3 g3 l.length k cur3) := Lib.hid (by intro z hz; subst hz; exact delete_any g3 l.length c3 k (k + 1) cur3 w3 hg3 hcs3 hnc3 hml3 rfl hlt (by rw [hcur3]; exact flat_one l3)); have HB3 := Lib.hid hb3; have HO3 := Lib.hid ho3; have HD3 := Lib.hid hd3; have HG3 := Lib.hid hg3; have HCUR3 := Lib.hid hcur3; clear hb3 ho3 hd3 hfr3 hg3 hcur3)
    | (go_at_call 63; refine Calls.mono (position_any _ c l s _ (HS.out.below ?_) (by omega) HRI.out) ?_; (focus ((repeat (first | (with_reducible refine below_set ?_ (by first | exact Nat.le_refl _ | omega) _ _) | with_reducible exact Below.refl _ _ | with_reducible refine belowA ?_ _ | with_reducible refine below_own' ?_ HB1.out | with_reducible refine belowD ?_ | with_reducible refine belowN ?_ _)); done)); rintro e w2 ⟨rfl, hb2⟩; rw [HF.out, ← HK.out]; have HB2 := Lib.hid hb2; clear hb2)
    | (go_at_call 19; refine HC.out.mono ?_; rintro e w1 ⟨rfl, hb1⟩; rw [HR.out]; simp only [if_true]; have HB1 := Lib.hid hb1; clear hb1))
  go_ret2
  have hbw : Below w.heap.size w w3 := by (repeat (first | (with_reducible refine below_set ?_ (by first | exact Nat.le_refl _ | omega) _ _) | with_reducible exact Below.refl _ _ | with_reducible refine belowA ?_ _ | with_reducible refine below_own' ?_ HB3.out | with_reducible refine below_own' ?_ HB2.out | with_reducible refine below_own' ?_ HB1.out | with_reducible refine belowD ?_ | with_reducible refine belowN ?_ _))
  have hgr := grownBy_delW w3 g3 l.length k cur3
  have hle : (l3.eraseIdx k).length = l.length - 1 := by rw [List.length_eraseIdx_of_lt (by omega)]; omega
  refine ⟨by exact hbw.grown hgr hbw.size (fun t e => by cases e; have := HB1.out.size; have := HB2.out.size; omega), ?_⟩
  rw [HR.out, HF.out]
  simp only [if_true]
  refine ⟨some ⟨g3, 0, none⟩, c3, l3.eraseIdx k, by rw [hle]; rfl, by exact delW_sl HO3.out HG3.out hln3.symm hnc3 hcs3 hlt HCUR3.out, ?_⟩
  rw [← HD3.out, HK.out]
  exact map_erase l3 _
theorem drop_any (p : Option Addr) (c : Nat) (l : List Atr) (s : ByteArray) (w : World) (hs : AtrSl w p l) (hl : l.length ≤ 100000000000000) :
    Calls Tryz.prog 35 #[.slice p l.length c, .string s] w (DropPost l s w) := by
  cases hr : rightL l with
  | false => exact drop_no p c l s w hs hl (.inl hr)
  | true =>
    cases hf : foundB l s with
    | false => exact drop_no p c l s w hs hl (.inr ⟨hr, hf⟩)
    | true => exact drop_yes p c l s w hs hr hf
end Go.Proofs.YtmepjbjmjbpchaaGreatDoor
end
section
/- Package types: Element, Cells, Range, Wrap, Unsigned. -/
namespace Go.Proofs.YtmepjbjmjbpchaaGreatDoor
open Go Go.RowKit
set_option linter.unusedVariables false
set_option linter.unusedSimpArgs false

theorem below_next {w W w2 : World} (h : Below w.heap.size w W) (hb : Below W.heap.size W w2) : Below w.heap.size w w2 := h.trans (hb.mono h.size)
theorem ext_take {l : List Nat} (h : l.length ≤ 3) : List.take l.length [((l[0]?.getD 0 : Nat) : Int), ((l[1]?.getD 0 : Nat) : Int), ((l[2]?.getD 0 : Nat) : Int)] = l.map (fun (n : Nat) => (n : Int)) := by
  match l, h with
  | [], _ => rfl
  | [a], _ => rfl
  | [a, b], _ => rfl
  | [a, b, c], _ => rfl
  | _ :: _ :: _ :: _ :: _, h => simp at h
section
variable (s : ByteArray) (w : World) (hs : s.size ≤ 140737488355328)
include hs
end
end Go.Proofs.YtmepjbjmjbpchaaGreatDoor
end
section
/- Package types: Wrap, Unsigned. -/
namespace Go.Proofs.YtmepjbjmjbpchaaGreatDoor
open Go Go.RowKit
set_option linter.unusedVariables false
set_option linter.unusedSimpArgs false
def wrapS (b : Nat) (n : Int) : Int := IntKind.i64.wrap (n * 2 ^ (64 - b)) / 2 ^ (64 - b)
def wrapU (b : Nat) (n : Int) : Int := IntKind.u64.wrap (IntKind.u64.wrap n * 2 ^ (64 - b)) / 2 ^ (64 - b)
section
variable (s : ByteArray) (w : World) (hs : s.size ≤ 140737488355328)
include hs
end
end Go.Proofs.YtmepjbjmjbpchaaGreatDoor
end
section
/- Package types: the text of a type that was read; Turned. -/
namespace Go.Proofs.YtmepjbjmjbpchaaGreatDoor
open Go Go.RowKit Go.Sort
set_option linter.unusedVariables false
set_option linter.unusedSimpArgs false

/-- A row of ints. -/
def IntRow (W : World) (g : Nat) (zs : List Int) : Prop := g < W.heap.size ∧ ∀ j, j < zs.length → W.cell? ⟨g, 0 + j, none⟩ = some (.int .i64 (zs.getD j 0))
theorem IntRow.below {W W1 : World} {g : Nat} {zs : List Int} (h : IntRow W g zs) (hb : Below W.heap.size W W1) : IntRow W1 g zs :=
  ⟨Nat.lt_of_lt_of_le h.1 hb.size, fun j hj => (rdCell hb g h.1 (0 + j)).trans (h.2 j hj)⟩
theorem intRow_of_owns {W : World} {base : Nat} {v : Value} {n : Nat} {zs : List Int} (h : W.ownsRow base 3 1 v n (zs.map (.int .i64))) (hv : v ≠ .slice none 0 0) : ∃ g c, v = .slice (some ⟨g, 0, none⟩) n c ∧ base ≤ g ∧ IntRow W g zs ∧ zs.length = n := by
  obtain ⟨hl, h⟩ := h
  rcases h with ⟨rfl, -⟩ | ⟨g, cap, cur, rfl, hb, hg, h1, h2, h3, h4⟩
  · exact absurd rfl hv
  · have hln : zs.length = n := by simpa using hl
    refine ⟨g, cap, rfl, hb, ⟨blkLt hg, fun j hj => ?_⟩, hln⟩
    rw [blkCell hg, Nat.zero_add]
    have h5 : (cur.toList.take (n * 1))[j]? = some (.int .i64 (zs.getD j 0)) := by rw [h4]; simp [hj]
    rw [List.getElem?_take_of_lt (by omega)] at h5
    simpa using h5

section
variable (k : Nat) (b n : Nat) (zs : List Int) (x y z : Int) (w : World)
end
end Go.Proofs.YtmepjbjmjbpchaaGreatDoor
end
section
/- Package types: Turned, Shape. -/
namespace Go.Proofs.YtmepjbjmjbpchaaGreatDoor
open Go Go.RowKit Go.Sort
set_option linter.unusedVariables false
set_option linter.unusedSimpArgs false

section
end
section
variable (s : ByteArray) (w : World) (hs : s.size ≤ 140737488355328)
include hs
end
end Go.Proofs.YtmepjbjmjbpchaaGreatDoor
end
section
/- Package types: Shape, Make. -/
namespace Go.Proofs.YtmepjbjmjbpchaaGreatDoor
open Go Go.RowKit Go.Sort
set_option linter.unusedVariables false
set_option linter.unusedSimpArgs false

def extZ (l : List Nat) : List Int := l.map (fun (n : Nat) => (n : Int))
section
variable (s : ByteArray) (w : World) (hs : s.size ≤ 140737488355328)
include hs
end
end Go.Proofs.YtmepjbjmjbpchaaGreatDoor
end
section
/- Package types: Make. -/
namespace Go.Proofs.YtmepjbjmjbpchaaGreatDoor
open Go Go.RowKit Go.Sort
set_option linter.unusedVariables false
set_option linter.unusedSimpArgs false

theorem prod_sl {w : World} {a : Option Addr} {zs : List Int} (h : IntSl w a zs) (c : Nat) (hl : zs.length ≤ 9223372036854775807) :
    Calls Tryz.prog 171 #[.slice a zs.length c] w fun e w' => e = .returned (.int .i64 (prodW zs)) ∧ w = w' := by
  rcases h with rfl | ⟨g, off, rfl, h2, h3⟩
  · exact product_nil c a w
  · refine (product_any g off zs.length c zs w (Nat.le_refl _) hl (fun j hj => by rw [h3 j hj, List.getD_eq_getElem?_getD])).mono fun e w' ⟨he, hw⟩ => ⟨by rw [he, List.take_length], hw⟩
theorem elemOf_len {l : List UInt8} {q : Pd} (h : elemOf l = some q) : l.length ≤ 9 := by
  unfold elemOf at h
  split at h
  · rename_i h1; rw [h1]; decide
  · split at h
    · split at h
      · rename_i n hn
        unfold numOf at hn
        split at hn
        · cases hn
        · rename_i h2
          have : l.tail.length ≤ 8 := by omega
          simp at this; omega
      · cases h
    · cases h
def badExt (zs : List Int) : Bool := zs.any fun z => decide (z < 0) || decide (1000 < z)
/-- `types.Make`. -/
def makeOf (k : Int) (zs : List Int) (el : List UInt8) : List UInt8 × Nat :=
  if (k ≠ 2 ∧ k ≠ 3) ∨ 3 < zs.length ∨ badExt zs = true then ([], 1)
  else if elemOf el = none then ([], 10)
  else if 4096 < prodW zs then ([], 2)
  else (textOf k zs el, 0)
section
end
end Go.Proofs.YtmepjbjmjbpchaaGreatDoor
end
section
/- The reference of types: digits, Cells, Make. -/
namespace Go.Proofs.YtmepjbjmjbpchaaGreatDoor
open Go Go.RowKit Go.Sort
set_option linter.unusedVariables false
set_option linter.unusedSimpArgs false

theorem enc_dig : ∀ d : Fin 10, (Utf8.encode (48 + (d.val : Int))).data = #[UInt8.ofNat (48 + d.val)] := by decide +kernel
theorem enc_digit {n : Nat} (h : n < 10) : Utf8.encode (48 + (n : Int)) = ⟨[UInt8.ofNat (48 + n)].toArray⟩ := ByteArray.ext (enc_dig ⟨n, h⟩)
theorem dig_len {m : Nat} (h : m < 18446744073709551616) : (Lib.decDigits m).length ≤ 20 := by
  rw [Lib.decDigits_length]; exact digs_le 19 m (by omega)
set_option maxRecDepth 100000 in
theorem natural_small (n : Nat) (h : n < 10) (w : World) : Calls Tryz.prog 82 #[.int .u64 n] w fun e w' => e = .returned (.string ⟨(Lib.decDigits n).toArray⟩) ∧ w = w' := by
  have h10 : (n : Int) < 10 := by omega
  go_enter Tryz.func82, Tryz.ntmps82
  go_wp2_with fail
  go_ret
  refine ⟨?_, rfl⟩
  rw [Lib.decDigits_one h, ← enc_digit h]
  rfl
set_option maxRecDepth 100000 in
theorem natural_any : ∀ (m n : Nat), n ≤ m → n < 18446744073709551616 → ∀ (w : World), Calls Tryz.prog 82 #[.int .u64 n] w fun e w' => e = .returned (.string ⟨(Lib.decDigits n).toArray⟩) ∧ w = w' := by
  intro m
  induction m with
  | zero => intro n hn hb w; exact natural_small n (by omega) w
  | succ m ih =>
    intro n hn hb w
    by_cases h : n < 10
    · exact natural_small n h w
    · have h10 : ((n : Int) < 10) = False := by simp; omega
      have hih : Calls Tryz.prog 82 #[.int .u64 ((n : Int) / 10)] w fun e w' => ∃ t : ByteArray, e = .returned (.string t) ∧ Hid (t.data.toList = Lib.decDigits (n / 10)) ∧ t.size ≤ 20 ∧ w = w' := by
        have := ih (n / 10) (by omega) (by omega) w
        rw [show ((n / 10 : Nat) : Int) = (n : Int) / 10 by simp] at this
        refine this.mono fun e w' ⟨he, hw⟩ => ⟨_, he, rfl, ?_, hw⟩
        simpa [ByteArray.size] using dig_len (m := n / 10) (by omega)
      obtain ⟨d, hd⟩ : ∃ d, d = n % 10 := ⟨_, rfl⟩
      have hd10 : d < 10 := by omega
      have hmod : (n : Int) % 10 = (d : Int) := by omega
      have hdd : Lib.decDigits n = Lib.decDigits (n / 10) ++ [UInt8.ofNat (48 + d)] := by rw [Lib.decDigits, dif_neg h, hd]
      have hen := enc_digit hd10
      have hensz : (Utf8.encode (48 + (d : Int))).size = 1 := by rw [hen]; rfl
      have HIH := Lib.hid hih
      have HEN := Lib.hid hen
      have HDD := Lib.hid hdd
      have hbi : (n : Int) < 18446744073709551616 := by omega
      clear hih ih hen hb hn h hd hdd
      go_enter Tryz.func82, Tryz.ntmps82
      go_wp2_with (go_at_call 82; refine HIH.out.mono ?_; rintro e w' ⟨t, rfl, ht, htl, rfl⟩)
      go_ret
      refine ⟨?_, rfl⟩
      have e1 : t ++ Utf8.encode (48 + (d : Int)) = ⟨(Lib.decDigits n).toArray⟩ := by
        rw [HDD.out, ← ht.out, HEN.out]
        apply ByteArray.ext
        apply Array.ext'
        simp
      exact congrArg (fun t => Ending.returned (.string t)) e1
theorem natural_str (n : Int) (h0 : 0 ≤ n) (h1 : n ≤ 9223372036854775807) (w : World) : Calls Tryz.prog 82 #[.int .u64 n] w fun e w' => e = .returned (.string ⟨(Lib.itoa n).toArray⟩) ∧ w = w' := by
  obtain ⟨k, rfl⟩ := Int.eq_ofNat_of_zero_le h0
  have : Lib.itoa (k : Int) = Lib.decDigits k := by unfold Lib.itoa; rw [if_neg (by omega)]; rfl
  rw [this]
  exact natural_any k k (Nat.le_refl _) (by omega) w
set_option maxRecDepth 100000 in
theorem digits_any (n : Int) (h0 : 0 ≤ n) (h1 : n ≤ 9223372036854775807) (w : World) : Calls Tryz.prog 60 #[.int .i64 n] w fun e w' => e = .returned (.string ⟨(Lib.itoa n).toArray⟩) ∧ w = w' := by
  have HN := Lib.hid (natural_str n h0 h1 w)
  have hw : IntKind.u64.wrap n = n := by rw [IntKind.wrap_u64]; omega
  go_enter Tryz.func60, Tryz.ntmps60
  go_wp2_with (go_at_call 82; refine HN.out.mono ?_; rintro e w' ⟨rfl, rfl⟩)
  go_ret
  exact ⟨rfl, rfl⟩
end Go.Proofs.YtmepjbjmjbpchaaGreatDoor
end
section
/- The reference of types: Make. -/
namespace Go.Proofs.YtmepjbjmjbpchaaGreatDoor
open Go Go.RowKit Go.Sort
set_option linter.unusedVariables false
set_option linter.unusedSimpArgs false

theorem digits_str (n : Int) (h0 : 0 ≤ n) (h1 : n ≤ 1000) (w : World) : Calls Tryz.prog 60 #[.int .i64 n] w fun e w' => ∃ t : ByteArray, e = .returned (.string t) ∧ Hid (t.data.toList = Lib.itoa n) ∧ t.size ≤ 4 ∧ w = w' :=
  (digits_any n h0 (by omega) w).mono fun e w' ⟨he, hw⟩ => ⟨_, he, rfl, by have := itoa_len h0 h1; simpa [ByteArray.size] using this, hw⟩
end Go.Proofs.YtmepjbjmjbpchaaGreatDoor
end
section
/- What the constants of `awake` are. -/
namespace Go.Proofs.YtmepjbjmjbpchaaGreatDoor
open Go Go.RowKit Go.Sort
set_option linter.unusedVariables false
set_option linter.unusedSimpArgs false

/-- `readOf`, so that it can be reckoned. -/
def partsF : Nat → List UInt8 → List (List UInt8 × Bool)
  | 0, l => [(l, true)]
  | n + 1, l => if l = [105, 110, 100, 101, 120] then [(l, true)] else match cutOf 120 l with
    | none => [(l, true)]
    | some (x, y) => (x, false) :: partsF n y
theorem partsF_eq : ∀ (n : Nat) (l : List UInt8), l.length ≤ n → partsF n l = partsOf l
  | 0, l, h => by
    have : l = [] := by simpa using h
    subst this
    rw [partsOf_last (.inr rfl)]; rfl
  | n + 1, l, h => by
    by_cases h0 : l = [105, 110, 100, 101, 120]
    · rw [partsOf_last (.inl h0), partsF, if_pos h0]
    · cases hc : cutOf 120 l with
      | none => rw [partsOf_last (.inr hc), partsF, if_neg h0, hc]
      | some p =>
        obtain ⟨x, y⟩ := p
        have := cutOf_len hc
        rw [partsOf_more h0 hc, partsF, if_neg h0, hc]
        dsimp only
        rw [partsF_eq n y (by omega)]
def shapeF (k : Nat) (l : List UInt8) : Option Pd := (shapeP [] (partsF l.length l)).map fun r => ⟨k, r.2, r.1⟩
theorem shapeF_eq (k : Nat) (l : List UInt8) : shapeF k l = shapeOf k l := by rw [shapeF, shapeOf, partsF_eq _ _ (Nat.le_refl _)]
def readF (l : List UInt8) : Option Pd :=
  match elemOf l with
  | some p => some p
  | none =>
    if Lib.hasSuffix l [62] then
      if Lib.hasPrefix (l.take (l.length - 1)) [109, 101, 109, 60] then shapeF 2 ((l.take (l.length - 1)).drop 4)
      else if Lib.hasPrefix (l.take (l.length - 1)) [97, 114, 114, 60] then shapeF 3 ((l.take (l.length - 1)).drop 4)
      else foreignOf l
    else foreignOf l
theorem readF_eq (l : List UInt8) : readF l = readOf l := by
  rw [readF, readOf]; simp only [shapeF_eq]; cases elemOf l <;> rfl
theorem ask_some {P : Nat → Bool} {l : List UInt8} {q : Pd} (h : readF l = some q) (hp : P q.kind = true) : askOf P l = (q, 0) := by
  rw [readF_eq] at h; unfold askOf; rw [h]; simp [hp]
theorem ask_none {P : Nat → Bool} {l : List UInt8} (h : readF l = none) : askOf P l = (⟨0, 0, []⟩, 10) := by
  rw [readF_eq] at h; unfold askOf; rw [h]

theorem aw1 : askAny [97, 114, 114, 60, 48, 120, 105, 110, 100, 101, 120, 62] = (⟨3, 0, [0]⟩, 0) := ask_some (by kernel_rfl) rfl
theorem aw2 : askCel [109, 101, 109, 60, 52, 120, 51, 120, 105, 51, 50, 62] = (⟨2, 32, [4, 3]⟩, 0) := ask_some (by kernel_rfl) rfl
theorem aw3 : askNum [105, 56] = (⟨0, 8, []⟩, 0) := ask_some (by kernel_rfl) rfl
theorem aw4 : askNum [105, 49] = (⟨0, 1, []⟩, 0) := ask_some (by kernel_rfl) rfl
theorem aw5 : makeOf 2 [4, 3] [105, 51, 50] = ([109, 101, 109, 60, 52, 120, 51, 120, 105, 51, 50, 62], 0) := by kernel_rfl
theorem aw6 : bodyOf [40, 105, 49, 44, 32, 105, 110, 100, 101, 120, 41] = some [105, 49, 44, 32, 105, 110, 100, 101, 120] := by kernel_rfl
theorem aw7 : piecesOf ⟨#[105, 49, 44, 32, 105, 110, 100, 101, 120]⟩ = [⟨#[105, 49]⟩, ⟨#[105, 110, 100, 101, 120]⟩] := by kernel_rfl
theorem aw8 : askCel [109, 101, 109, 60, 105, 56, 62] = (⟨2, 8, []⟩, 0) := ask_some (by kernel_rfl) rfl
theorem aw9 : askAny [33, 99, 97, 108, 99, 46, 110, 117, 109] = (⟨4, 0, []⟩, 0) := ask_some (by kernel_rfl) rfl
theorem aw10 : askAny [105, 48, 49] = (⟨0, 0, []⟩, 10) := ask_none (by kernel_rfl)
theorem aw11 : askAny [109, 101, 109, 60, 49, 48, 48, 120, 49, 48, 48, 120, 105, 56, 62] = (⟨0, 0, []⟩, 10) := ask_none (by kernel_rfl)
theorem aw12 : askAny [97, 114, 114, 60, 105, 56, 32, 62] = (⟨0, 0, []⟩, 10) := ask_none (by kernel_rfl)
theorem aw13 : textOf 3 [] (elStr 8) = [97, 114, 114, 60, 105, 56, 62] := by kernel_rfl
theorem aw14 : askAny [105, 49] = (⟨0, 1, []⟩, 0) := ask_some (by kernel_rfl) rfl
theorem aw15 : askAny [105, 110, 100, 101, 120] = (⟨1, 64, []⟩, 0) := ask_some (by kernel_rfl) rfl
end Go.Proofs.YtmepjbjmjbpchaaGreatDoor
end
section
/- A long statement in one frame: the operations that only reckon are run by the kernel; a call, or a read of the heap, is met by hand. -/
namespace Go.Proofs.YtmepjbjmjbpchaaGreatDoor
open Go
set_option linter.unusedVariables false
set_option linter.unusedSimpArgs false
section
variable {P : Program} {ops : Array Oper} {Q : Exit → Act → World → Prop}
/-- n operations from s on, each of which gives a value or is not wanted. -/
def runTo (P : Program) (ops : Array Oper) : Nat → Nat → Act → World → Option (Act × World)
  | s, 0, a, w => some (a, w)
  | s, n + 1, a, w =>
    match ops[s]? with
    | none => none
    | some o =>
      if Region.wanted o (yielded ops a.tmps) then
        match (execOp a.eval o).run P w with
        | .ok (.value v) w' => runTo P ops (s + 1) n (a.put o.dst v) w'
        | _ => none
      else runTo P ops (s + 1) n (a.put o.dst undef) w
theorem wpOps_run : ∀ (n s m : Nat) (a : Act) (w : World) (a' : Act) (w' : World), runTo P ops s n a w = some (a', w') → wpOps P ops Q (List.range' (s + n) m) a' w' → wpOps P ops Q (List.range' s (n + m)) a w
  | 0, s, m, a, w, a', w', h, hr => by
    simp only [runTo, Option.some.injEq, Prod.mk.injEq] at h
    obtain ⟨rfl, rfl⟩ := h
    simpa using hr
  | n + 1, s, m, a, w, a', w', h, hr => by
    rw [show n + 1 + m = (n + m) + 1 by omega, List.range'_succ]
    simp only [runTo] at h
    unfold wpOps
    cases ho : ops[s]? with
    | none => rw [ho] at h; cases h
    | some o =>
      rw [ho] at h
      dsimp only at h ⊢
      split at h
      · rename_i hw
        rw [if_pos hw]
        left
        unfold Oper.wp
        split at h
        · rename_i v w1 he
          rw [he]
          rw [Oper.upon_value]
          exact wpOps_run n (s + 1) m _ _ a' w' h (by rw [show s + 1 + n = s + (n + 1) by omega]; exact hr)
        · cases h
      · rename_i hw
        rw [if_neg hw]
        exact wpOps_run n (s + 1) m _ _ a' w' h (by rw [show s + 1 + n = s + (n + 1) by omega]; exact hr)
theorem wpOps_seg (n s m : Nat) {a : Act} {w : World} (h : (runTo P ops s n a w).isSome = true) (hw : ((runTo P ops s n a w).getD (a, w)).2 = w)
    (hr : wpOps P ops Q (List.range' (s + n) m) ((runTo P ops s n a w).getD (a, w)).1 w) : wpOps P ops Q (List.range' s (n + m)) a w := by
  obtain ⟨⟨a', w'⟩, he⟩ := Option.isSome_iff_exists.1 h
  rw [he] at hw hr
  simp only [Option.getD_some] at hw hr
  subst hw
  exact wpOps_run n s m a w' a' w' he hr
/-- One operation that is met by hand. -/
theorem wpOps_one {s m : Nat} {a : Act} {w : World} {o : Oper} (ho : ops[s]? = some o) (hw : Region.wanted o (yielded ops a.tmps) = true) (h : o.wp P a w (wpOps P ops Q (List.range' (s + 1) m)) Q) : wpOps P ops Q (List.range' s (m + 1)) a w := by
  rw [List.range'_succ]
  unfold wpOps
  rw [ho]
  dsimp only
  rw [if_pos hw]
  exact .inl h
theorem wp_region_from {id n : Nat} {a : Act} {w : World} (hn : ops.size = n) (h : wpOps P ops Q (List.range' 0 n) a w) : (Code.region id ops false).wp P Q a w :=
  wp_region (by rw [hn, List.range_eq_range']; exact h)
end
end Go.Proofs.YtmepjbjmjbpchaaGreatDoor
end
