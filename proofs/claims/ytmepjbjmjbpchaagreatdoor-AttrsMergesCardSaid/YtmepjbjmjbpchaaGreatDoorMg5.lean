/- Texts of this claim, laid together: Az1, Ae0, Ae1, TyB, TyC, TyE, TyF, TyG, TyH, Rf2, Rf3, Aw0, Run, Aw1, Lw0, Lw1, LwL, Jn0, Ap0, Az2, Az3, Ax5, Ax6, InvL. -/
import Derived.Deep.RegionLaw
import Derived.Laws.IdiomCopy
import Derived.Lib.LazyBuf
import Derived.WalkMore
import Derived.Deep.Cut
import Derived.Test.YtmepjbjmjbpchaaGreatDoorMg0
import Derived.Test.YtmepjbjmjbpchaaGreatDoorMg1
import Derived.Test.YtmepjbjmjbpchaaGreatDoorMg2
import Derived.Test.YtmepjbjmjbpchaaGreatDoorMg3
import Derived.Test.YtmepjbjmjbpchaaGreatDoorMg4
section
/- attrs.guess at the strings that the examples use. -/
namespace Go.Proofs.YtmepjbjmjbpchaaGreatDoor
open Go Go.RowKit
set_option linter.unusedVariables false
set_option linter.unusedSimpArgs false

theorem not_empty {s : ByteArray} (h : 0 < s.size) : s.toList.isEmpty = false := by
  cases he : s.toList.isEmpty with
  | false => rfl
  | true =>
    have e := (toList_nil_iff s).1 (List.isEmpty_iff.1 he)
    have : s.size = 0 := by rw [ByteArray.size, ← Array.length_toList, e]; rfl
    omega
theorem mixed_in : Tryz.prog.follows .mixedOrders = true := by kernel_rfl
set_option maxRecDepth 100000 in
set_option maxHeartbeats 4000000 in
theorem guess_nil (nm : ByteArray) (w : World) :
    Calls Tryz.prog 43 #[.string nm, .string ⟨#[]⟩] w fun e w' => e = .returned (av nm 0 0 ⟨#[]⟩ none 0 0 none 0 0) ∧ Below w.heap.size w w' := by
  go_enter Tryz.func43, Tryz.ntmps43
  go_wp2_with fail
  refine bodyPost_ret (v := av nm 0 0 ⟨#[]⟩ none 0 0 none 0 0) (by simp [results, Tryz.results43, go_sem]) rfl ?_
  exact ⟨rfl, by (repeat (first | (with_reducible refine below_set ?_ (by first | exact Nat.le_refl _ | omega) _ _) | with_reducible exact Below.refl _ _ | with_reducible refine belowA ?_ _ | with_reducible refine belowD ?_ | with_reducible refine belowN ?_ _))⟩
set_option maxRecDepth 100000 in
set_option maxHeartbeats 4000000 in
theorem guess_sym (nm s : ByteArray) (w : World) (h0 : 0 < s.size) (hc : (s[0]'h0).toNat = 64) (hs : s.size ≤ 140737488355328) :
    Calls Tryz.prog 43 #[.string nm, .string s] w fun e w' => e = .returned (av nm 2 0 (s.extract 1 s.size) none 0 0 none 0 0) ∧ Below w.heap.size w w' := by
  have hne := not_empty h0
  have h1 : (1 : Int) ≤ (s.size : Int) := by omega
  have h00 : (0 : Int) < (s.size : Int) := by omega
  have hm1 : (1 : Int) ≤ max 1 ((s.size : Int) - 1) := by omega
  have hm2 : max 1 ((s.size : Int) - 1) ≤ (s.size : Int) := by omega
  have mixed := mixed_in
  go_enter Tryz.func43, Tryz.ntmps43
  go_wp2_with fail
  go_region_o
  go_wp2_with fail
  refine bodyPost_ret (v := av nm 2 0 (s.extract 1 s.size) none 0 0 none 0 0) (by simp [results, Tryz.results43, go_sem]) rfl ?_
  exact ⟨rfl, by (repeat (first | (with_reducible refine below_set ?_ (by first | exact Nat.le_refl _ | omega) _ _) | with_reducible exact Below.refl _ _ | with_reducible refine belowA ?_ _ | with_reducible refine belowD ?_ | with_reducible refine belowN ?_ _))⟩
set_option maxRecDepth 100000 in
set_option maxHeartbeats 4000000 in
theorem guess_num (nm s : ByteArray) (w : World) (h0 : 0 < s.size) (hc : (s[0]'h0).toNat = 45 ∨ (48 ≤ (s[0]'h0).toNat ∧ (s[0]'h0).toNat ≤ 57)) (hs : s.size ≤ 140737488355328) (v : Int)
    (hv : ∀ W, Below w.heap.size w W → Calls Tryz.prog 71 #[.string s, .int .i64 10, .int .i64 64] W fun e w' => ∃ er, e = .returned (.tuple #[.int .i64 v, er]) ∧ Below W.heap.size W w') :
    Calls Tryz.prog 43 #[.string nm, .string s] w fun e w' => e = .returned (av nm 0 v ⟨#[]⟩ none 0 0 none 0 0) ∧ Below w.heap.size w w' := by
  have hne := not_empty h0
  have h1 : (1 : Int) ≤ (s.size : Int) := by omega
  have h00 : (0 : Int) < (s.size : Int) := by omega
  have hm1 : (1 : Int) ≤ max 1 ((s.size : Int) - 1) := by omega
  have hm2 : max 1 ((s.size : Int) - 1) ≤ (s.size : Int) := by omega
  have mixed := mixed_in
  have HV := Lib.hid hv
  clear hv
  obtain ⟨c, hcd⟩ : ∃ c, c = (s[0]'h0).toNat := ⟨_, rfl⟩
  rw [← hcd] at hc
  have hcx : (s[0]'h0).toNat = c := hcd.symm
  clear hcd
  have hcs : c = 45 ∨ (c ≠ 45 ∧ 48 ≤ c ∧ c ≤ 57) := by omega
  clear hc
  rcases hcs with rfl | ⟨c1, c2, c3⟩
  · go_enter Tryz.func43, Tryz.ntmps43
    go_wp2_with (go_at_call 71; refine (HV.out _ ?_).mono ?_; (focus ((repeat (first | (with_reducible refine below_set ?_ (by first | exact Nat.le_refl _ | omega) _ _) | with_reducible exact Below.refl _ _ | with_reducible refine belowA ?_ _ | with_reducible refine belowD ?_ | with_reducible refine belowN ?_ _)); done)); rintro e w1 ⟨er, rfl, hb1⟩; have c0 := rdCell hb1 w.heap.size (by first | (simp; done) | (simp; omega)); have f0 := rdFree hb1 w.heap.size (by first | (simp; done) | (simp; omega)); have e0 := rdCell hb1 (w.heap.size + 1) (by first | (simp; done) | (simp; omega)); have g0 := rdFree hb1 (w.heap.size + 1) (by first | (simp; done) | (simp; omega)); have hzw1 : w.heap.size + 1 < w1.heap.size := (by have := Below.size hb1; simp at this; omega))
    refine bodyPost_ret (v := av nm 0 v ⟨#[]⟩ none 0 0 none 0 0) (by simp [results, Tryz.results43, go_sem, c0, f0, e0, g0, hzw1, show w.heap.size < w1.heap.size by omega]) rfl ?_
    exact ⟨rfl, by (repeat (first | (with_reducible refine below_set ?_ (by first | exact Nat.le_refl _ | omega) _ _) | with_reducible exact Below.refl _ _ | with_reducible refine belowA ?_ _ | with_reducible refine below_own' ?_ hb1 | with_reducible refine belowD ?_ | with_reducible refine belowN ?_ _))⟩
  · have b5 : ((c : Int) == 45) = false := by simp; omega
    have b6 : (48 : Int) ≤ (c : Int) := by omega
    have b7 : (c : Int) ≤ 57 := by omega
    go_enter Tryz.func43, Tryz.ntmps43
    go_wp2_with (go_at_call 71; refine (HV.out _ ?_).mono ?_; (focus ((repeat (first | (with_reducible refine below_set ?_ (by first | exact Nat.le_refl _ | omega) _ _) | with_reducible exact Below.refl _ _ | with_reducible refine belowA ?_ _ | with_reducible refine belowD ?_ | with_reducible refine belowN ?_ _)); done)); rintro e w1 ⟨er, rfl, hb1⟩; have c0 := rdCell hb1 w.heap.size (by first | (simp; done) | (simp; omega)); have f0 := rdFree hb1 w.heap.size (by first | (simp; done) | (simp; omega)); have e0 := rdCell hb1 (w.heap.size + 1) (by first | (simp; done) | (simp; omega)); have g0 := rdFree hb1 (w.heap.size + 1) (by first | (simp; done) | (simp; omega)); have hzw1 : w.heap.size + 1 < w1.heap.size := (by have := Below.size hb1; simp at this; omega))
    refine bodyPost_ret (v := av nm 0 v ⟨#[]⟩ none 0 0 none 0 0) (by simp [results, Tryz.results43, go_sem, c0, f0, e0, g0, hzw1, show w.heap.size < w1.heap.size by omega]) rfl ?_
    exact ⟨rfl, by (repeat (first | (with_reducible refine below_set ?_ (by first | exact Nat.le_refl _ | omega) _ _) | with_reducible exact Below.refl _ _ | with_reducible refine belowA ?_ _ | with_reducible refine below_own' ?_ hb1 | with_reducible refine belowD ?_ | with_reducible refine belowN ?_ _))⟩
set_option maxRecDepth 100000 in
set_option maxHeartbeats 4000000 in
theorem guess_ints0 (nm : ByteArray) (w : World) :
    Calls Tryz.prog 43 #[.string nm, .string ⟨#[91, 93]⟩] w fun e w' => e = .returned (av nm 4 0 ⟨#[]⟩ none 0 0 none 0 0) ∧ Below w.heap.size w w' := by
  go_enter Tryz.func43, Tryz.ntmps43
  go_wp2_with fail
  refine bodyPost_ret (v := av nm 4 0 ⟨#[]⟩ none 0 0 none 0 0) (by simp [results, Tryz.results43, go_sem]) rfl ?_
  exact ⟨rfl, by (repeat (first | (with_reducible refine below_set ?_ (by first | exact Nat.le_refl _ | omega) _ _) | with_reducible exact Below.refl _ _ | with_reducible refine belowA ?_ _ | with_reducible refine belowD ?_ | with_reducible refine belowN ?_ _))⟩
end Go.Proofs.YtmepjbjmjbpchaaGreatDoor
end
section
/- slices.Delete of one attribute out of a row of the call's own. -/
namespace Go.Proofs.YtmepjbjmjbpchaaGreatDoor
open Go Go.RowKit Go.Sort
set_option linter.unusedVariables false
set_option linter.unusedSimpArgs false

def zCellsL : List Value := [.string ⟨#[]⟩, .int .i64 0, .int .i64 0, .string ⟨#[]⟩, .slice none 0 0, .slice none 0 0]
theorem run_clear_attr (w : World) (b o c : Nat) (ty : TypeId) (hc : ∀ j, j < 6 → (w.cell? ⟨b, o + j, none⟩).isSome = true) (hf : ∀ j, j < 6 → w.frozen? ⟨b, o + j, none⟩ = false) :
    (Builtin.clear_ #[22] ty #[.slice (some ⟨b, o, none⟩) 1 c]).run Tryz.prog w = .ok (.tuple #[]) (w.setCells b o zCellsL) := by
  have hv : (zeroValue 27).run Tryz.prog w = .ok zAttr w := by kernel_rfl
  have hzc : (Builtin.zeroCells zAttr.cells 1).toList = zCellsL := by kernel_rfl
  have hst := run_storeCells_cells (P := Tryz.prog) b o zCellsL 0 w (by simpa [zCellsL] using hc) (by simpa [zCellsL] using hf) (by intro v hv; simp only [zCellsL, List.mem_cons, List.not_mem_nil, or_false] at hv; rcases hv with rfl | rfl | rfl | rfl | rfl | rfl <;> rfl)
  simp only [Nat.add_zero] at hst
  simp [Builtin.clear_, run_underlying Tryz.underlying22, hv, hzc, hst]
/-- What becomes of a row of which one element is taken. -/
def delW (w : World) (g n i : Nat) (cur : Array Value) : World := (w.drew.setCells g (i * 6) ((cur.toList.take (n * 6)).drop ((i + 1) * 6))).setCells g ((n - 1) * 6) zCellsL

set_option maxRecDepth 100000 in
set_option maxHeartbeats 8000000 in
theorem delete_any (g n c i j : Nat) (cur : Array Value) (w : World) (hg : w.heap[g]? = some (.cells cur 27 (0, 0))) (hcs : cur.size = c * 6) (hn : n ≤ c) (hm : c ≤ 9223372036854775807) (hji : j = i + 1) (hi : i < n) (h1c : ∀ u ∈ cur.toList.take (n * 6), u.oneCell' = true) :
    Calls Tryz.prog 65 #[.slice (some ⟨g, 0, none⟩) n c, .int .i64 i, .int .i64 j] w fun e w' => e = .returned (.slice (some ⟨g, 0, none⟩) (n - 1) c) ∧ w' = delW w g n i cur := by
  obtain ⟨i0, hin, hz0, hz1, hz2⟩ := info_parts (show (Tryz.prog.info? 27).map (fun i => (i.zero, i.size, i.bytes)) = some (some zAttr, 6, 96) by kernel_rfl)
  obtain ⟨news, hnews⟩ : ∃ news, news = (cur.toList.take (n * 6)).drop (j * 6) := ⟨_, rfl⟩
  have hlen : news.length = (n - j) * 6 := by rw [hnews]; simp; omega
  have hcell : ∀ t, w.drew.cell? ⟨g, t, none⟩ = cur[t]? := fun t => blkCell hg t
  have hfr : ∀ t, w.drew.frozen? ⟨g, t, none⟩ = false := fun t => blkFree hg t
  have hget : ∀ t u, news[t]? = some u → cur[j * 6 + t]? = some u := by
    intro t u h
    rw [hnews, List.getElem?_drop, List.getElem?_take] at h
    split at h
    · rw [← Array.getElem?_toList]; exact h
    · cases h
  obtain ⟨A, hA, hsrc⟩ : ∃ A : Addr, (if c = j then some (⟨g, 0, none⟩ : Addr) else some ⟨g, j * 6, none⟩) = some A ∧ Hid (∀ t u, news[t]? = some u → w.drew.cell? (A.add t) = some u) := by
    by_cases h : c = j
    · refine ⟨⟨g, 0, none⟩, by simp [h], fun t u hu => ?_⟩
      have h0 : news.length = 0 := by rw [hlen]; omega
      rw [List.length_eq_zero_iff.1 h0] at hu
      simp at hu
    · refine ⟨⟨g, j * 6, none⟩, by simp [h], fun t u hu => ?_⟩
      rw [Addr.add_lit, hcell]
      exact hget t u hu
  have s1 : Hid (news.length = (n - j) * 6) := hlen
  have s2 : Hid (∀ u ∈ news, u.oneCell' = true) := fun u hu => h1c u (List.mem_of_mem_drop (by rw [hnews] at hu; exact hu))
  have s3 : Hid (∀ t, t < news.length → (w.drew.cell? ⟨g, 0 + i * 6 + t, none⟩).isSome = true ∧ w.drew.frozen? ⟨g, 0 + i * 6 + t, none⟩ = false) := by
    intro t ht
    rw [hlen] at ht
    refine ⟨?_, hfr _⟩
    rw [hcell, Array.getElem?_eq_getElem (by omega)]
    rfl
  obtain ⟨W1, hW1⟩ : ∃ W1, W1 = w.drew.setCells g (0 + i * 6) news := ⟨_, rfl⟩
  have hnn : i + (n - j) = n - 1 := by omega
  have hcl : ∀ ty, (Builtin.clear_ #[22] ty #[.slice (some ⟨g, (i + (n - j)) * 6, none⟩) (n - (i + (n - j))) (c - (i + (n - j)))]).run Tryz.prog W1 = .ok (.tuple #[]) (W1.setCells g ((i + (n - j)) * 6) zCellsL) := by
    intro ty
    rw [show n - (i + (n - j)) = 1 by omega]
    refine run_clear_attr W1 g ((i + (n - j)) * 6) _ ty (fun j hj => ?_) (fun j hj => ?_)
    · rw [hW1]
      exact World.isSome_setCells g news _ _ _ (by rw [hcell, Array.getElem?_eq_getElem (by omega)]; rfl)
    · rw [hW1, World.frozen?_setCells]; exact hfr _
  have hW : Hid (W1 = w.drew.setCells g (0 + i * 6) news) := hW1
  have hfin : Hid (W1.setCells g ((i + (n - j)) * 6) zCellsL = delW w g n i cur) := Lib.hid (by rw [hW1, hnews, Nat.zero_add, hnn, hji]; rfl)
  have hic : i ≤ c := by omega
  have hjc : j ≤ c := by omega
  have hij : i ≤ j := by omega
  have hjn : j ≤ n := by omega
  have hne : ¬ (i = j) := by omega
  have hn1n : i + (n - j) ≤ n := by omega
  have hn1c : i + (n - j) ≤ c := by omega
  have hn1x : ¬ (c = i + (n - j)) := by omega
  have HNN := Lib.hid hnn
  have mixed := mixed_in
  clear hW1 hnews hlen hcell hfr hget h1c hg hji hnn hi
  go_enter Tryz.func65, Tryz.ntmps65
  go_wp2_with fail
  go_region_law_o (refine step_append_room rfl (.tmp 22) (.tmp 25) 22 rfl 27 i0 6 Tryz.underlying22 hin hz1 g 0 i c (by simp [Act.eval, Act.put]) A (n - j) (c - j) news (by simp [Act.eval, Act.put]) s1.out hsrc.out s2.out (by omega) s3.out ?_; rw [← hW.out])
  go_wp2
  go_ret
  exact ⟨by rw [← HNN.out]; rfl, hfin.out⟩
end Go.Proofs.YtmepjbjmjbpchaaGreatDoor
end
section
/- attrs.Drop. -/
namespace Go.Proofs.YtmepjbjmjbpchaaGreatDoor
open Go Go.RowKit Go.Sort
set_option linter.unusedVariables false
set_option linter.unusedSimpArgs false

theorem grownBy_cells (B : Nat) : ∀ (vs : List Value) (o : Nat) (w : World), w.grownBy (w.setCells B o vs) (some B)
  | [], _, w => ⟨rfl, rfl, rfl, Nat.le_refl _, fun _ _ _ => rfl⟩
  | v :: r, o, w => by
    have h1 := grownBy_setOff w B o v
    have h2 := grownBy_cells B r (o + 1) (w.setCell ⟨B, o, none⟩ v)
    exact ⟨h2.os.trans h1.os, h2.tape.trans h1.tape, h2.output.trans h1.output, Nat.le_trans h1.size h2.size, fun k hk hne => (h2.block k (Nat.lt_of_lt_of_le hk h1.size) hne).trans (h1.block k hk hne)⟩
theorem grownBy_delW (w : World) (g n i : Nat) (cur : Array Value) : w.grownBy (delW w g n i cur) (some g) := by
  have h1 := grownBy_cells g ((cur.toList.take (n * 6)).drop ((i + 1) * 6)) (i * 6) w.drew
  have h2 := grownBy_cells g zCellsL ((n - 1) * 6) (w.drew.setCells g (i * 6) ((cur.toList.take (n * 6)).drop ((i + 1) * 6)))
  exact ⟨h2.os.trans h1.os, h2.tape.trans h1.tape, h2.output.trans h1.output, Nat.le_trans h1.size h2.size, fun k hk hne => (h2.block k (Nat.lt_of_lt_of_le hk h1.size) hne).trans (h1.block k hk hne)⟩
theorem delW_sl {w : World} {base g n c i : Nat} {cur : Array Value} {l : List Atr} (h : AtrOwn w base (.slice (some ⟨g, 0, none⟩) n c) l) (hg : w.heap[g]? = some (.cells cur 27 (0, 0))) (hn : n = l.length) (hnc : n ≤ c) (hcs : cur.size = c * 6) (hi : i < n)
    (hcur : cur.toList.take (n * 6) = l.flatMap Atr.cells) : AtrSl (delW w g n i cur) (some ⟨g, 0, none⟩) (l.eraseIdx i) := by
  have hgr := grownBy_delW w g n i cur
  have hmem : ∀ b ∈ l.eraseIdx i, b ∈ l := fun b hb => List.mem_of_mem_eraseIdx hb
  refine ⟨.inr ⟨g, 0, rfl, Nat.lt_of_lt_of_le (blkLt hg) hgr.size, fun j hj k hk => ?_⟩, fun b hb => (h.lies b (hmem b hb)).grown hgr (fun x hx => (h.off b (hmem b hb) x hx).2), fun b hb => h.fits b (hmem b hb)⟩
  have hjl : j < n - 1 := by rw [List.length_eraseIdx_of_lt (by omega)] at hj; omega
  have hcell : ∀ t, w.drew.cell? ⟨g, t, none⟩ = cur[t]? := fun t => blkCell hg t
  have hat : ∀ m (hm : m < l.length), cur[m * 6 + k]? = l[m].cells[k]? := by
    intro m hm
    rw [← flat_at hm hk, ← hcur, List.getElem?_take, if_pos (by omega)]
    simp
  rw [Nat.zero_add]
  unfold delW
  rw [World.cell?_setCells_out g zCellsL _ _ _ (fun _ _ => .inl (by show j * 6 + k < _; omega))]
  rw [List.getElem_eraseIdx]
  split
  · rename_i hji
    rw [World.cell?_setCells_out g _ _ _ _ (fun _ _ => .inl (by show j * 6 + k < _; omega)), hcell]
    exact hat j (by omega)
  · rename_i hji
    have hlen : ((cur.toList.take (n * 6)).drop ((i + 1) * 6)).length = (n - (i + 1)) * 6 := by simp; omega
    have hin := World.cell?_setCells_in g ((cur.toList.take (n * 6)).drop ((i + 1) * 6)) (i * 6) w.drew (fun t ht => by rw [hcell, Array.getElem?_eq_getElem (by omega)]; rfl) ((j - i) * 6 + k) (by omega)
    rw [show i * 6 + ((j - i) * 6 + k) = j * 6 + k by omega] at hin
    rw [hin, List.getElem_drop, List.getElem_take, ← hat (j + 1) (by omega)]
    rw [show (j + 1) * 6 + k = (i + 1) * 6 + ((j - i) * 6 + k) by omega, Array.getElem?_eq_getElem (by omega)]
    simp
theorem own_full {w : World} {base : Nat} {v : Value} {l : List Atr} (h : AtrOwn w base v l) (hn : 0 < l.length) : ∃ g c cur, v = .slice (some ⟨g, 0, none⟩) l.length c ∧ base ≤ g ∧ w.heap[g]? = some (.cells cur 27 (0, 0)) ∧ l.length ≤ c ∧ cur.size = c * 6 ∧ cur.toList.take (l.length * 6) = l.flatMap Atr.cells ∧ c ≤ 9223372036854775807 := by
  rcases h.own.2 with ⟨h1, h2⟩ | ⟨g, cap, cur, h1, hb, h2, h4, h5, h6, h7⟩
  · omega
  · exact ⟨g, cap, cur, h1, hb, h2, h4, h6, h7, h5⟩
theorem map_erase {α β : Type} {f : α → β} : ∀ (l : List α) (i : Nat), (l.eraseIdx i).map f = (l.map f).eraseIdx i
  | [], _ => rfl
  | _ :: _, 0 => rfl
  | a :: l, i + 1 => by simp [map_erase l i]
def DropPost (l : List Atr) (s : ByteArray) (w : World) (e : Ending) (w' : World) : Prop :=
  Below w.heap.size w w' ∧ if rightL l then (if foundB l s then ∃ sa sc l', e = .returned (.tuple #[.slice sa l'.length sc, .int .i64 0]) ∧ AtrSl w' sa l' ∧ l'.map Atr.dat = (l.map Atr.dat).eraseIdx (lowerB l s) else e = .returned (.tuple #[.slice none 0 0, .int .i64 4])) else e = .returned (.tuple #[.slice none 0 0, .int .i64 20])
set_option maxRecDepth 100000 in
set_option maxHeartbeats 4000000 in
theorem drop_no (p : Option Addr) (c : Nat) (l : List Atr) (s : ByteArray) (w : World) (hs : AtrSl w p l) (hl : l.length ≤ 100000000000000) (h : rightL l = false ∨ (rightL l = true ∧ foundB l s = false)) :
    Calls Tryz.prog 35 #[.slice p l.length c, .string s] w (DropPost l s w) := by
  have HC := Lib.hid (check_any' p c l _ hs hl)
  have HS := Lib.hid hs
  clear hs
  rcases h with h | ⟨h, h2⟩
  · have HR := Lib.hid h
    have HP : Hid (∀ w', Below w.heap.size w w' → DropPost l s w (.returned (.tuple #[.slice none 0 0, .int .i64 20])) w') := Lib.hid fun w' hb => ⟨hb, by rw [h]; rfl⟩
    clear h
    go_enter Tryz.func35, Tryz.ntmps35
    go_wp2_with (go_at_call 19; refine HC.out.mono ?_; rintro e w1 ⟨rfl, hb1⟩; rw [HR.out]; simp only [Bool.false_eq_true, if_false])
    go_ret2
    refine HP.out _ ?_
    (repeat (first | (with_reducible refine below_set ?_ (by first | exact Nat.le_refl _ | omega) _ _) | with_reducible exact Below.refl _ _ | with_reducible refine belowA ?_ _ | with_reducible refine below_own' ?_ hb1 | with_reducible refine belowD ?_ | with_reducible refine belowN ?_ _))
  · have HR := Lib.hid h
    have HF := Lib.hid h2
    have HRI := Lib.hid (rises_of_right h)
    have HP : Hid (∀ w', Below w.heap.size w w' → DropPost l s w (.returned (.tuple #[.slice none 0 0, .int .i64 4])) w') := Lib.hid fun w' hb => ⟨hb, by rw [h, h2]; rfl⟩
    clear h h2
    go_enter Tryz.func35, Tryz.ntmps35
    go_wp2_with (first
      | (go_at_call 63; refine Calls.mono (position_any p c l s _ (HS.out.below ?_) hl HRI.out) ?_; (focus ((repeat (first | (with_reducible refine below_set ?_ (by first | exact Nat.le_refl _ | omega) _ _) | with_reducible exact Below.refl _ _ | with_reducible refine belowA ?_ _ | with_reducible refine below_own' ?_ hb1 | with_reducible refine belowD ?_ | with_reducible refine belowN ?_ _)); done)); rintro e w2 ⟨rfl, hb2⟩; rw [HF.out])
      | (go_at_call 19; refine HC.out.mono ?_; rintro e w1 ⟨rfl, hb1⟩; rw [HR.out]; simp only [if_true]))
    go_ret2
    refine HP.out _ ?_
    (repeat (first | (with_reducible refine below_set ?_ (by first | exact Nat.le_refl _ | omega) _ _) | with_reducible exact Below.refl _ _ | with_reducible refine belowA ?_ _ | with_reducible refine below_own' ?_ hb2 | with_reducible refine below_own' ?_ hb1 | with_reducible refine belowD ?_ | with_reducible refine belowN ?_ _))
set_option maxRecDepth 100000 in
set_option maxHeartbeats 8000000 in
theorem drop_yes (p : Option Addr) (c : Nat) (l : List Atr) (s : ByteArray) (w : World) (hs : AtrSl w p l) (hr : rightL l = true) (hf : foundB l s = true) :
    Calls Tryz.prog 35 #[.slice p l.length c, .string s] w (DropPost l s w) := by
  have hl := right_len hr
  have HC := Lib.hid (check_any' p c l _ hs (by omega))
  have HS := Lib.hid hs
  have HR := Lib.hid hr
  have HF := Lib.hid hf
  have HRI := Lib.hid (rises_of_right hr)
  obtain ⟨hlt, hnm⟩ := found_at hf
  obtain ⟨k, hk⟩ : ∃ k, k = lowerB l s := ⟨_, rfl⟩
  have HK := Lib.hid hk
  rw [← hk] at hlt
  have hkw : IntKind.i64.wrap ((k : Int) + 1) = (((k + 1 : Nat)) : Int) := IntWalk.i64_in _ (by omega)
  clear hs hr hf hk hnm
  go_enter Tryz.func35, Tryz.ntmps35
  go_wp2_with (first
    | (go_at_call 65; refine (HDEL.out _ rfl).mono ?_; rintro e w4 ⟨rfl, hw4⟩)
    | (go_at_call 39; refine Calls.mono (attrs_any p c l _ (HS.out.below ?_) (by omega)) ?_; (focus ((repeat (first | (with_reducible refine below_set ?_ (by first | exact Nat.le_refl _ | omega) _ _) | with_reducible exact Below.refl _ _ | with_reducible refine belowA ?_ _ | with_reducible refine below_own' ?_ HB2.out | with_reducible refine below_own' ?_ HB1.out | with_reducible refine belowD ?_ | with_reducible refine belowN ?_ _)); done)); rintro e w3 ⟨v3, l3, rfl, ho3, hd3, hfr3, hb3⟩; have hln3 : l3.length = l.length := (by simpa using congrArg List.length hd3); have hl03 : 0 < l3.length := Nat.lt_of_le_of_lt (Nat.zero_le k) (hln3 ▸ hlt); have hfull := own_full ho3 hl03; obtain ⟨g3, c3, cur3, hv3, hbg3, hg3, hnc3, hcs3, hcur3, hml3⟩ := hfull; subst hv3; rw [hln3] at ho3 hnc3 hcur3 ⊢; have HDEL : Hid (∀ z : Int, z = (((k + 1 : Nat)) : Int) → Calls Tryz.prog 65 #[.slice (some ⟨g3, 0, none⟩) l.length c3, .int .i64 k, .int .i64 z] w3 fun e w' => e = .returned (.slice (some ⟨g3, 0, none⟩) (l.length - 1) c3) ∧ w' = delW w3 g3 l.length k cur3) := Lib.hid (by intro z hz; subst hz; exact delete_any g3 l.length c3 k (k + 1) cur3 w3 hg3 hcs3 hnc3 hml3 rfl hlt (by rw [hcur3]; exact flat_one l3)); have HB3 := Lib.hid hb3; have HO3 := Lib.hid ho3; have HD3 := Lib.hid hd3; have HG3 := Lib.hid hg3; have HCUR3 := Lib.hid hcur3; clear hb3 ho3 hd3 hfr3 hg3 hcur3)
    | (go_at_call 63; refine Calls.mono (position_any _ c l s _ (HS.out.below ?_) (by omega) HRI.out) ?_; (focus ((repeat (first | (with_reducible refine below_set ?_ (by first | exact Nat.le_refl _ | omega) _ _) | with_reducible exact Below.refl _ _ | with_reducible refine belowA ?_ _ | with_reducible refine below_own' ?_ HB1.out | with_reducible refine belowD ?_ | with_reducible refine belowN ?_ _)); done)); rintro e w2 ⟨rfl, hb2⟩; rw [HF.out, ← HK.out]; have HB2 := Lib.hid hb2; clear hb2)
    | (go_at_call 19; refine HC.out.mono ?_; rintro e w1 ⟨rfl, hb1⟩; rw [HR.out]; simp only [if_true]; have HB1 := Lib.hid hb1; clear hb1))
  go_ret2
  have hbw : Below w.heap.size w w3 := by (repeat (first | (with_reducible refine below_set ?_ (by first | exact Nat.le_refl _ | omega) _ _) | with_reducible exact Below.refl _ _ | with_reducible refine belowA ?_ _ | with_reducible refine below_own' ?_ HB3.out | with_reducible refine below_own' ?_ HB2.out | with_reducible refine below_own' ?_ HB1.out | with_reducible refine belowD ?_ | with_reducible refine belowN ?_ _))
  have hgr := grownBy_delW w3 g3 l.length k cur3
  have hle : (l3.eraseIdx k).length = l.length - 1 := by rw [List.length_eraseIdx_of_lt (by omega)]; omega
  refine ⟨by exact hbw.grown hgr hbw.size (fun t e => by cases e; have := HB1.out.size; have := HB2.out.size; omega), ?_⟩
  rw [HR.out, HF.out]
  simp only [if_true]
  refine ⟨some ⟨g3, 0, none⟩, c3, l3.eraseIdx k, by rw [hle]; rfl, by exact delW_sl HO3.out HG3.out hln3.symm hnc3 hcs3 hlt HCUR3.out, ?_⟩
  rw [← HD3.out, HK.out]
  exact map_erase l3 _
theorem drop_any (p : Option Addr) (c : Nat) (l : List Atr) (s : ByteArray) (w : World) (hs : AtrSl w p l) (hl : l.length ≤ 100000000000000) :
    Calls Tryz.prog 35 #[.slice p l.length c, .string s] w (DropPost l s w) := by
  cases hr : rightL l with
  | false => exact drop_no p c l s w hs hl (.inl hr)
  | true =>
    cases hf : foundB l s with
    | false => exact drop_no p c l s w hs hl (.inr ⟨hr, hf⟩)
    | true => exact drop_yes p c l s w hs hr hf
end Go.Proofs.YtmepjbjmjbpchaaGreatDoor
end
section
/- Package types: Element, Cells, Range, Wrap, Unsigned. -/
namespace Go.Proofs.YtmepjbjmjbpchaaGreatDoor
open Go Go.RowKit
set_option linter.unusedVariables false
set_option linter.unusedSimpArgs false

theorem below_next {w W w2 : World} (h : Below w.heap.size w W) (hb : Below W.heap.size W w2) : Below w.heap.size w w2 := h.trans (hb.mono h.size)
theorem ext_take {l : List Nat} (h : l.length ≤ 3) : List.take l.length [((l[0]?.getD 0 : Nat) : Int), ((l[1]?.getD 0 : Nat) : Int), ((l[2]?.getD 0 : Nat) : Int)] = l.map (fun (n : Nat) => (n : Int)) := by
  match l, h with
  | [], _ => rfl
  | [a], _ => rfl
  | [a, b], _ => rfl
  | [a, b, c], _ => rfl
  | _ :: _ :: _ :: _ :: _, h => simp at h
section
variable (s : ByteArray) (w : World) (hs : s.size ≤ 140737488355328)
include hs
end
end Go.Proofs.YtmepjbjmjbpchaaGreatDoor
end
section
/- Package types: Wrap, Unsigned. -/
namespace Go.Proofs.YtmepjbjmjbpchaaGreatDoor
open Go Go.RowKit
set_option linter.unusedVariables false
set_option linter.unusedSimpArgs false
def wrapS (b : Nat) (n : Int) : Int := IntKind.i64.wrap (n * 2 ^ (64 - b)) / 2 ^ (64 - b)
def wrapU (b : Nat) (n : Int) : Int := IntKind.u64.wrap (IntKind.u64.wrap n * 2 ^ (64 - b)) / 2 ^ (64 - b)
section
variable (s : ByteArray) (w : World) (hs : s.size ≤ 140737488355328)
include hs
end
end Go.Proofs.YtmepjbjmjbpchaaGreatDoor
end
section
/- Package types: the text of a type that was read; Turned. -/
namespace Go.Proofs.YtmepjbjmjbpchaaGreatDoor
open Go Go.RowKit Go.Sort
set_option linter.unusedVariables false
set_option linter.unusedSimpArgs false

/-- A row of ints. -/
def IntRow (W : World) (g : Nat) (zs : List Int) : Prop := g < W.heap.size ∧ ∀ j, j < zs.length → W.cell? ⟨g, 0 + j, none⟩ = some (.int .i64 (zs.getD j 0))
theorem IntRow.below {W W1 : World} {g : Nat} {zs : List Int} (h : IntRow W g zs) (hb : Below W.heap.size W W1) : IntRow W1 g zs :=
  ⟨Nat.lt_of_lt_of_le h.1 hb.size, fun j hj => (rdCell hb g h.1 (0 + j)).trans (h.2 j hj)⟩
theorem intRow_of_owns {W : World} {base : Nat} {v : Value} {n : Nat} {zs : List Int} (h : W.ownsRow base 3 1 v n (zs.map (.int .i64))) (hv : v ≠ .slice none 0 0) : ∃ g c, v = .slice (some ⟨g, 0, none⟩) n c ∧ base ≤ g ∧ IntRow W g zs ∧ zs.length = n := by
  obtain ⟨hl, h⟩ := h
  rcases h with ⟨rfl, -⟩ | ⟨g, cap, cur, rfl, hb, hg, h1, h2, h3, h4⟩
  · exact absurd rfl hv
  · have hln : zs.length = n := by simpa using hl
    refine ⟨g, cap, rfl, hb, ⟨blkLt hg, fun j hj => ?_⟩, hln⟩
    rw [blkCell hg, Nat.zero_add]
    have h5 : (cur.toList.take (n * 1))[j]? = some (.int .i64 (zs.getD j 0)) := by rw [h4]; simp [hj]
    rw [List.getElem?_take_of_lt (by omega)] at h5
    simpa using h5

section
variable (k : Nat) (b n : Nat) (zs : List Int) (x y z : Int) (w : World)
end
end Go.Proofs.YtmepjbjmjbpchaaGreatDoor
end
section
/- Package types: Turned, Shape. -/
namespace Go.Proofs.YtmepjbjmjbpchaaGreatDoor
open Go Go.RowKit Go.Sort
set_option linter.unusedVariables false
set_option linter.unusedSimpArgs false

section
end
section
variable (s : ByteArray) (w : World) (hs : s.size ≤ 140737488355328)
include hs
end
end Go.Proofs.YtmepjbjmjbpchaaGreatDoor
end
section
/- Package types: Shape, Make. -/
namespace Go.Proofs.YtmepjbjmjbpchaaGreatDoor
open Go Go.RowKit Go.Sort
set_option linter.unusedVariables false
set_option linter.unusedSimpArgs false

def extZ (l : List Nat) : List Int := l.map (fun (n : Nat) => (n : Int))
section
variable (s : ByteArray) (w : World) (hs : s.size ≤ 140737488355328)
include hs
end
end Go.Proofs.YtmepjbjmjbpchaaGreatDoor
end
section
/- Package types: Make. -/
namespace Go.Proofs.YtmepjbjmjbpchaaGreatDoor
open Go Go.RowKit Go.Sort
set_option linter.unusedVariables false
set_option linter.unusedSimpArgs false

theorem prod_sl {w : World} {a : Option Addr} {zs : List Int} (h : IntSl w a zs) (c : Nat) (hl : zs.length ≤ 9223372036854775807) :
    Calls Tryz.prog 171 #[.slice a zs.length c] w fun e w' => e = .returned (.int .i64 (prodW zs)) ∧ w = w' := by
  rcases h with rfl | ⟨g, off, rfl, h2, h3⟩
  · exact product_nil c a w
  · refine (product_any g off zs.length c zs w (Nat.le_refl _) hl (fun j hj => by rw [h3 j hj, List.getD_eq_getElem?_getD])).mono fun e w' ⟨he, hw⟩ => ⟨by rw [he, List.take_length], hw⟩
theorem elemOf_len {l : List UInt8} {q : Pd} (h : elemOf l = some q) : l.length ≤ 9 := by
  unfold elemOf at h
  split at h
  · rename_i h1; rw [h1]; decide
  · split at h
    · split at h
      · rename_i n hn
        unfold numOf at hn
        split at hn
        · cases hn
        · rename_i h2
          have : l.tail.length ≤ 8 := by omega
          simp at this; omega
      · cases h
    · cases h
def badExt (zs : List Int) : Bool := zs.any fun z => decide (z < 0) || decide (1000 < z)
/-- `types.Make`. -/
def makeOf (k : Int) (zs : List Int) (el : List UInt8) : List UInt8 × Nat :=
  if (k ≠ 2 ∧ k ≠ 3) ∨ 3 < zs.length ∨ badExt zs = true then ([], 1)
  else if elemOf el = none then ([], 10)
  else if 4096 < prodW zs then ([], 2)
  else (textOf k zs el, 0)
section
end
end Go.Proofs.YtmepjbjmjbpchaaGreatDoor
end
section
/- The reference of types: digits, Cells, Make. -/
namespace Go.Proofs.YtmepjbjmjbpchaaGreatDoor
open Go Go.RowKit Go.Sort
set_option linter.unusedVariables false
set_option linter.unusedSimpArgs false

theorem enc_dig : ∀ d : Fin 10, (Utf8.encode (48 + (d.val : Int))).data = #[UInt8.ofNat (48 + d.val)] := by decide +kernel
theorem enc_digit {n : Nat} (h : n < 10) : Utf8.encode (48 + (n : Int)) = ⟨[UInt8.ofNat (48 + n)].toArray⟩ := ByteArray.ext (enc_dig ⟨n, h⟩)
theorem dig_len {m : Nat} (h : m < 18446744073709551616) : (Lib.decDigits m).length ≤ 20 := by
  rw [Lib.decDigits_length]; exact digs_le 19 m (by omega)
set_option maxRecDepth 100000 in
theorem natural_small (n : Nat) (h : n < 10) (w : World) : Calls Tryz.prog 82 #[.int .u64 n] w fun e w' => e = .returned (.string ⟨(Lib.decDigits n).toArray⟩) ∧ w = w' := by
  have h10 : (n : Int) < 10 := by omega
  go_enter Tryz.func82, Tryz.ntmps82
  go_wp2_with fail
  go_ret
  refine ⟨?_, rfl⟩
  rw [Lib.decDigits_one h, ← enc_digit h]
  rfl
set_option maxRecDepth 100000 in
theorem natural_any : ∀ (m n : Nat), n ≤ m → n < 18446744073709551616 → ∀ (w : World), Calls Tryz.prog 82 #[.int .u64 n] w fun e w' => e = .returned (.string ⟨(Lib.decDigits n).toArray⟩) ∧ w = w' := by
  intro m
  induction m with
  | zero => intro n hn hb w; exact natural_small n (by omega) w
  | succ m ih =>
    intro n hn hb w
    by_cases h : n < 10
    · exact natural_small n h w
    · have h10 : ((n : Int) < 10) = False := by simp; omega
      have hih : Calls Tryz.prog 82 #[.int .u64 ((n : Int) / 10)] w fun e w' => ∃ t : ByteArray, e = .returned (.string t) ∧ Hid (t.data.toList = Lib.decDigits (n / 10)) ∧ t.size ≤ 20 ∧ w = w' := by
        have := ih (n / 10) (by omega) (by omega) w
        rw [show ((n / 10 : Nat) : Int) = (n : Int) / 10 by simp] at this
        refine this.mono fun e w' ⟨he, hw⟩ => ⟨_, he, rfl, ?_, hw⟩
        simpa [ByteArray.size] using dig_len (m := n / 10) (by omega)
      obtain ⟨d, hd⟩ : ∃ d, d = n % 10 := ⟨_, rfl⟩
      have hd10 : d < 10 := by omega
      have hmod : (n : Int) % 10 = (d : Int) := by omega
      have hdd : Lib.decDigits n = Lib.decDigits (n / 10) ++ [UInt8.ofNat (48 + d)] := by rw [Lib.decDigits, dif_neg h, hd]
      have hen := enc_digit hd10
      have hensz : (Utf8.encode (48 + (d : Int))).size = 1 := by rw [hen]; rfl
      have HIH := Lib.hid hih
      have HEN := Lib.hid hen
      have HDD := Lib.hid hdd
      have hbi : (n : Int) < 18446744073709551616 := by omega
      clear hih ih hen hb hn h hd hdd
      go_enter Tryz.func82, Tryz.ntmps82
      go_wp2_with (go_at_call 82; refine HIH.out.mono ?_; rintro e w' ⟨t, rfl, ht, htl, rfl⟩)
      go_ret
      refine ⟨?_, rfl⟩
      have e1 : t ++ Utf8.encode (48 + (d : Int)) = ⟨(Lib.decDigits n).toArray⟩ := by
        rw [HDD.out, ← ht.out, HEN.out]
        apply ByteArray.ext
        apply Array.ext'
        simp
      exact congrArg (fun t => Ending.returned (.string t)) e1
theorem natural_str (n : Int) (h0 : 0 ≤ n) (h1 : n ≤ 9223372036854775807) (w : World) : Calls Tryz.prog 82 #[.int .u64 n] w fun e w' => e = .returned (.string ⟨(Lib.itoa n).toArray⟩) ∧ w = w' := by
  obtain ⟨k, rfl⟩ := Int.eq_ofNat_of_zero_le h0
  have : Lib.itoa (k : Int) = Lib.decDigits k := by unfold Lib.itoa; rw [if_neg (by omega)]; rfl
  rw [this]
  exact natural_any k k (Nat.le_refl _) (by omega) w
set_option maxRecDepth 100000 in
theorem digits_any (n : Int) (h0 : 0 ≤ n) (h1 : n ≤ 9223372036854775807) (w : World) : Calls Tryz.prog 60 #[.int .i64 n] w fun e w' => e = .returned (.string ⟨(Lib.itoa n).toArray⟩) ∧ w = w' := by
  have HN := Lib.hid (natural_str n h0 h1 w)
  have hw : IntKind.u64.wrap n = n := by rw [IntKind.wrap_u64]; omega
  go_enter Tryz.func60, Tryz.ntmps60
  go_wp2_with (go_at_call 82; refine HN.out.mono ?_; rintro e w' ⟨rfl, rfl⟩)
  go_ret
  exact ⟨rfl, rfl⟩
end Go.Proofs.YtmepjbjmjbpchaaGreatDoor
end
section
/- The reference of types: Make. -/
namespace Go.Proofs.YtmepjbjmjbpchaaGreatDoor
open Go Go.RowKit Go.Sort
set_option linter.unusedVariables false
set_option linter.unusedSimpArgs false

theorem digits_str (n : Int) (h0 : 0 ≤ n) (h1 : n ≤ 1000) (w : World) : Calls Tryz.prog 60 #[.int .i64 n] w fun e w' => ∃ t : ByteArray, e = .returned (.string t) ∧ Hid (t.data.toList = Lib.itoa n) ∧ t.size ≤ 4 ∧ w = w' :=
  (digits_any n h0 (by omega) w).mono fun e w' ⟨he, hw⟩ => ⟨_, he, rfl, by have := itoa_len h0 h1; simpa [ByteArray.size] using this, hw⟩
end Go.Proofs.YtmepjbjmjbpchaaGreatDoor
end
section
/- What the constants of `awake` are. -/
namespace Go.Proofs.YtmepjbjmjbpchaaGreatDoor
open Go Go.RowKit Go.Sort
set_option linter.unusedVariables false
set_option linter.unusedSimpArgs false

/-- `readOf`, so that it can be reckoned. -/
def partsF : Nat → List UInt8 → List (List UInt8 × Bool)
  | 0, l => [(l, true)]
  | n + 1, l => if l = [105, 110, 100, 101, 120] then [(l, true)] else match cutOf 120 l with
    | none => [(l, true)]
    | some (x, y) => (x, false) :: partsF n y
theorem partsF_eq : ∀ (n : Nat) (l : List UInt8), l.length ≤ n → partsF n l = partsOf l
  | 0, l, h => by
    have : l = [] := by simpa using h
    subst this
    rw [partsOf_last (.inr rfl)]; rfl
  | n + 1, l, h => by
    by_cases h0 : l = [105, 110, 100, 101, 120]
    · rw [partsOf_last (.inl h0), partsF, if_pos h0]
    · cases hc : cutOf 120 l with
      | none => rw [partsOf_last (.inr hc), partsF, if_neg h0, hc]
      | some p =>
        obtain ⟨x, y⟩ := p
        have := cutOf_len hc
        rw [partsOf_more h0 hc, partsF, if_neg h0, hc]
        dsimp only
        rw [partsF_eq n y (by omega)]
def shapeF (k : Nat) (l : List UInt8) : Option Pd := (shapeP [] (partsF l.length l)).map fun r => ⟨k, r.2, r.1⟩
theorem shapeF_eq (k : Nat) (l : List UInt8) : shapeF k l = shapeOf k l := by rw [shapeF, shapeOf, partsF_eq _ _ (Nat.le_refl _)]
def readF (l : List UInt8) : Option Pd :=
  match elemOf l with
  | some p => some p
  | none =>
    if Lib.hasSuffix l [62] then
      if Lib.hasPrefix (l.take (l.length - 1)) [109, 101, 109, 60] then shapeF 2 ((l.take (l.length - 1)).drop 4)
      else if Lib.hasPrefix (l.take (l.length - 1)) [97, 114, 114, 60] then shapeF 3 ((l.take (l.length - 1)).drop 4)
      else foreignOf l
    else foreignOf l
theorem readF_eq (l : List UInt8) : readF l = readOf l := by
  rw [readF, readOf]; simp only [shapeF_eq]; cases elemOf l <;> rfl
theorem ask_some {P : Nat → Bool} {l : List UInt8} {q : Pd} (h : readF l = some q) (hp : P q.kind = true) : askOf P l = (q, 0) := by
  rw [readF_eq] at h; unfold askOf; rw [h]; simp [hp]
theorem ask_none {P : Nat → Bool} {l : List UInt8} (h : readF l = none) : askOf P l = (⟨0, 0, []⟩, 10) := by
  rw [readF_eq] at h; unfold askOf; rw [h]

theorem aw1 : askAny [97, 114, 114, 60, 48, 120, 105, 110, 100, 101, 120, 62] = (⟨3, 0, [0]⟩, 0) := ask_some (by kernel_rfl) rfl
theorem aw2 : askCel [109, 101, 109, 60, 52, 120, 51, 120, 105, 51, 50, 62] = (⟨2, 32, [4, 3]⟩, 0) := ask_some (by kernel_rfl) rfl
theorem aw3 : askNum [105, 56] = (⟨0, 8, []⟩, 0) := ask_some (by kernel_rfl) rfl
theorem aw4 : askNum [105, 49] = (⟨0, 1, []⟩, 0) := ask_some (by kernel_rfl) rfl
theorem aw5 : makeOf 2 [4, 3] [105, 51, 50] = ([109, 101, 109, 60, 52, 120, 51, 120, 105, 51, 50, 62], 0) := by kernel_rfl
theorem aw6 : bodyOf [40, 105, 49, 44, 32, 105, 110, 100, 101, 120, 41] = some [105, 49, 44, 32, 105, 110, 100, 101, 120] := by kernel_rfl
theorem aw7 : piecesOf ⟨#[105, 49, 44, 32, 105, 110, 100, 101, 120]⟩ = [⟨#[105, 49]⟩, ⟨#[105, 110, 100, 101, 120]⟩] := by kernel_rfl
theorem aw8 : askCel [109, 101, 109, 60, 105, 56, 62] = (⟨2, 8, []⟩, 0) := ask_some (by kernel_rfl) rfl
theorem aw9 : askAny [33, 99, 97, 108, 99, 46, 110, 117, 109] = (⟨4, 0, []⟩, 0) := ask_some (by kernel_rfl) rfl
theorem aw10 : askAny [105, 48, 49] = (⟨0, 0, []⟩, 10) := ask_none (by kernel_rfl)
theorem aw11 : askAny [109, 101, 109, 60, 49, 48, 48, 120, 49, 48, 48, 120, 105, 56, 62] = (⟨0, 0, []⟩, 10) := ask_none (by kernel_rfl)
theorem aw12 : askAny [97, 114, 114, 60, 105, 56, 32, 62] = (⟨0, 0, []⟩, 10) := ask_none (by kernel_rfl)
theorem aw13 : textOf 3 [] (elStr 8) = [97, 114, 114, 60, 105, 56, 62] := by kernel_rfl
theorem aw14 : askAny [105, 49] = (⟨0, 1, []⟩, 0) := ask_some (by kernel_rfl) rfl
theorem aw15 : askAny [105, 110, 100, 101, 120] = (⟨1, 64, []⟩, 0) := ask_some (by kernel_rfl) rfl
end Go.Proofs.YtmepjbjmjbpchaaGreatDoor
end
section
/- A long statement in one frame: the operations that only reckon are run by the kernel; a call, or a read of the heap, is met by hand. -/
namespace Go.Proofs.YtmepjbjmjbpchaaGreatDoor
open Go
set_option linter.unusedVariables false
set_option linter.unusedSimpArgs false
section
variable {P : Program} {ops : Array Oper} {Q : Exit → Act → World → Prop}
/-- n operations from s on, each of which gives a value or is not wanted. -/
def runTo (P : Program) (ops : Array Oper) : Nat → Nat → Act → World → Option (Act × World)
  | s, 0, a, w => some (a, w)
  | s, n + 1, a, w =>
    match ops[s]? with
    | none => none
    | some o =>
      if Region.wanted o (yielded ops a.tmps) then
        match (execOp a.eval o).run P w with
        | .ok (.value v) w' => runTo P ops (s + 1) n (a.put o.dst v) w'
        | _ => none
      else runTo P ops (s + 1) n (a.put o.dst undef) w
theorem wpOps_run : ∀ (n s m : Nat) (a : Act) (w : World) (a' : Act) (w' : World), runTo P ops s n a w = some (a', w') → wpOps P ops Q (List.range' (s + n) m) a' w' → wpOps P ops Q (List.range' s (n + m)) a w
  | 0, s, m, a, w, a', w', h, hr => by
    simp only [runTo, Option.some.injEq, Prod.mk.injEq] at h
    obtain ⟨rfl, rfl⟩ := h
    simpa using hr
  | n + 1, s, m, a, w, a', w', h, hr => by
    rw [show n + 1 + m = (n + m) + 1 by omega, List.range'_succ]
    simp only [runTo] at h
    unfold wpOps
    cases ho : ops[s]? with
    | none => rw [ho] at h; cases h
    | some o =>
      rw [ho] at h
      dsimp only at h ⊢
      split at h
      · rename_i hw
        rw [if_pos hw]
        left
        unfold Oper.wp
        split at h
        · rename_i v w1 he
          rw [he]
          rw [Oper.upon_value]
          exact wpOps_run n (s + 1) m _ _ a' w' h (by rw [show s + 1 + n = s + (n + 1) by omega]; exact hr)
        · cases h
      · rename_i hw
        rw [if_neg hw]
        exact wpOps_run n (s + 1) m _ _ a' w' h (by rw [show s + 1 + n = s + (n + 1) by omega]; exact hr)
theorem wpOps_seg (n s m : Nat) {a : Act} {w : World} (h : (runTo P ops s n a w).isSome = true) (hw : ((runTo P ops s n a w).getD (a, w)).2 = w)
    (hr : wpOps P ops Q (List.range' (s + n) m) ((runTo P ops s n a w).getD (a, w)).1 w) : wpOps P ops Q (List.range' s (n + m)) a w := by
  obtain ⟨⟨a', w'⟩, he⟩ := Option.isSome_iff_exists.1 h
  rw [he] at hw hr
  simp only [Option.getD_some] at hw hr
  subst hw
  exact wpOps_run n s m a w' a' w' he hr
/-- One operation that is met by hand. -/
theorem wpOps_one {s m : Nat} {a : Act} {w : World} {o : Oper} (ho : ops[s]? = some o) (hw : Region.wanted o (yielded ops a.tmps) = true) (h : o.wp P a w (wpOps P ops Q (List.range' (s + 1) m)) Q) : wpOps P ops Q (List.range' s (m + 1)) a w := by
  rw [List.range'_succ]
  unfold wpOps
  rw [ho]
  dsimp only
  rw [if_pos hw]
  exact .inl h
theorem wp_region_from {id n : Nat} {a : Act} {w : World} (hn : ops.size = n) (h : wpOps P ops Q (List.range' 0 n) a w) : (Code.region id ops false).wp P Q a w :=
  wp_region (by rw [hn, List.range_eq_range']; exact h)
end
end Go.Proofs.YtmepjbjmjbpchaaGreatDoor
end
section
/- What every statement asks of a program whatever the input is: it is so. -/
namespace Go.Proofs.YtmepjbjmjbpchaaGreatDoor
open Go Go.RowKit Go.Sort
set_option linter.unusedVariables false
set_option linter.unusedSimpArgs false

/-- The library's variables that are read. -/
structure Glob (w : World) : Prop where
  pow : Pow w
  len : ∃ m : Int, w.cell? ⟨0, 0, none⟩ = some (.int .i64 m)
  pos : 0 < w.heap.size
theorem Glob.below {w w1 : World} (h : Glob w) (hb : Below w.heap.size w w1) : Glob w1 :=
  ⟨pow_below h.pow hb, by obtain ⟨m, hm⟩ := h.len; exact ⟨m, (rdCell hb 0 h.pos 0).trans hm⟩, Nat.lt_of_lt_of_le h.pos hb.size⟩

section
variable (w : World) (hg : Glob w)
theorem aw_check {l : List UInt8} {r : Pd × Nat} (h : askAny l = r) (hl : l.length ≤ 100) : Calls Tryz.prog 99 #[.string ⟨l.toArray⟩] w fun e w' => e = .returned (.int .i64 r.2) ∧ Below w.heap.size w w' :=
  (check_any ⟨l.toArray⟩ w (by simp [ByteArray.size]; omega)).mono fun e w' ⟨he, hb⟩ => ⟨by rw [he, ← h], hb⟩
theorem aw_split (hg : Glob w) : Calls Tryz.prog 74 #[.string ⟨#[40, 105, 49, 44, 32, 105, 110, 100, 101, 120, 41]⟩] w fun e w' => ∃ g c, e = .returned (.tuple #[.slice (some ⟨g, 0, none⟩) 2 c, .int .i64 0]) ∧ g < w'.heap.size ∧ w'.cell? ⟨g, 0, none⟩ = some (.string ⟨#[105, 49]⟩) ∧ w'.cell? ⟨g, 1, none⟩ = some (.string ⟨#[105, 110, 100, 101, 120]⟩) ∧ Below w.heap.size w w' := by
  obtain ⟨m, hm⟩ := hg.len
  refine (splitT_some ⟨#[40, 105, 49, 44, 32, 105, 110, 100, 101, 120, 41]⟩ w (by decide) m hm hg.pos ⟨#[105, 49, 44, 32, 105, 110, 100, 101, 120]⟩ aw6 (by decide)).mono ?_
  rintro e w' ⟨hb, h⟩
  rw [aw6] at h
  dsimp only at h
  have hok : okPieces ⟨[105, 49, 44, 32, 105, 110, 100, 101, 120].toArray⟩ = true := by
    rw [okPieces, aw7]
    have h1 : badTy ⟨#[105, 49]⟩ = false := by rw [badTy]; exact decide_eq_false (by rw [show (ByteArray.mk #[105, 49]).data.toList = [105, 49] from rfl, aw14]; simp)
    have h2 : badTy ⟨#[105, 110, 100, 101, 120]⟩ = false := by rw [badTy]; exact decide_eq_false (by rw [show (ByteArray.mk #[105, 110, 100, 101, 120]).data.toList = [105, 110, 100, 101, 120] from rfl, aw15]; simp)
    simp [h1, h2]
  rw [if_neg (by simp), if_pos hok] at h
  obtain ⟨g, c, he, hs⟩ := h
  rw [aw7] at he hs
  rcases hs with h | ⟨g', off, h1, h2, h3⟩
  · cases h
  · cases h1
    exact ⟨g, c, he, h2, h3 0 (by decide), h3 1 (by decide), hb⟩
end
end Go.Proofs.YtmepjbjmjbpchaaGreatDoor
end
section
/- Make, in the program and in the reference, at whatever arguments. -/
namespace Go.Proofs.YtmepjbjmjbpchaaGreatDoor
open Go Go.RowKit Go.Sort
set_option linter.unusedVariables false
set_option linter.unusedSimpArgs false

theorem makeOf_kind {k : Int} {zs : List Int} {el : List UInt8} (h : (k ≠ 2 ∧ k ≠ 3) ∨ 3 < (zs.length : Int)) : makeOf k zs el = ([], 1) := by
  rw [makeOf, if_pos]
  rcases h with h | h
  · exact .inl h
  · exact .inr (.inl (by omega))
end Go.Proofs.YtmepjbjmjbpchaaGreatDoor
end
section
/- What the laws use of types: the program's answers where a string is a number type, another type, or none. -/
namespace Go.Proofs.YtmepjbjmjbpchaaGreatDoor
open Go Go.RowKit Go.Sort
set_option linter.unusedVariables false
set_option linter.unusedSimpArgs false

theorem readOf_num {l : List UInt8} {q : Pd} (h : elemOf l = some q) : readOf l = some q := by unfold readOf; rw [h]
theorem readOf_kind {l : List UInt8} {q : Pd} (h : elemOf l = none) (hr : readOf l = some q) : 2 ≤ q.kind := by
  have hsh : ∀ {k : Nat} {l : List UInt8} {q : Pd}, shapeOf k l = some q → q.kind = k := fun h => by
    unfold shapeOf at h
    rw [Option.map_eq_some_iff] at h
    obtain ⟨r, -, rfl⟩ := h
    rfl
  have hfo : ∀ {l : List UInt8} {q : Pd}, foreignOf l = some q → q.kind = 4 := fun h => by rw [foreignOf_ok h]
  unfold readOf at hr
  rw [h] at hr
  dsimp only at hr
  split at hr
  · split at hr
    · rw [hsh hr]; decide
    · split at hr
      · rw [hsh hr]; decide
      · rw [hfo hr]; decide
  · rw [hfo hr]; decide
theorem askNum_num {l : List UInt8} {q : Pd} (h : elemOf l = some q) : askNum l = (q, 0) := by
  have hk := (elemOf_ok h).2
  unfold askNum askOf
  rw [readOf_num h]
  dsimp only
  rw [if_pos]
  simp; omega
theorem askNum_other {l : List UInt8} {q : Pd} (h : elemOf l = none) (hr : readOf l = some q) : askNum l = (⟨0, 0, []⟩, 1) := by
  have hk := readOf_kind h hr
  unfold askNum askOf
  rw [hr]
  dsimp only
  rw [if_neg]
  simp; omega
theorem askOf_no {P : Nat → Bool} {l : List UInt8} (hr : readOf l = none) : askOf P l = (⟨0, 0, []⟩, 10) := by
  unfold askOf; rw [hr]
section
variable (s : ByteArray) (w : World) (hs : s.size ≤ 140737488355328) (n : Int) (hn0 : -9223372036854775808 ≤ n) (hn1 : n ≤ 9223372036854775807)
include hs
end
end Go.Proofs.YtmepjbjmjbpchaaGreatDoor
end
section
/- The walk of the statement TypesLists. -/
namespace Go.Proofs.YtmepjbjmjbpchaaGreatDoor
open Go Go.RowKit Go.Sort
set_option linter.unusedVariables false
set_option linter.unusedSimpArgs false

theorem split_all (s : ByteArray) (w : World) (hs : s.size < 4294967281) (hg : Glob w) : Calls Tryz.prog 74 #[.string s] w (SplitPost s w) := by
  cases hb : bodyOf s.data.toList with
  | none => exact splitT_no s w (by omega) hb
  | some l =>
    by_cases hl : l = []
    · subst hl; exact splitT_empty s w (by omega) hb
    · obtain ⟨m, hm⟩ := hg.len
      exact splitT_some s w hs m hm hg.pos ⟨l.toArray⟩ hb hl
theorem badTy_isTy (s : ByteArray) : badTy s = !isTy s.data.toList := by
  unfold badTy isTy
  cases h : readOf s.data.toList with
  | none => rw [show askAny s.data.toList = (⟨0, 0, []⟩, 10) from askOf_no h]; rfl
  | some q => rw [show askAny s.data.toList = (q, 0) by unfold askAny askOf; rw [h]; rfl]; rfl
theorem okPieces_eq (b : ByteArray) : okPieces b = (decide ((piecesL b.data.toList).length ≤ 100) && (piecesL b.data.toList).all isTy) := by
  unfold okPieces
  rw [← pieces_data, List.length_map, List.all_map]
  congr 1
  rw [List.any_eq_not_all_not, Bool.not_not]
  congr 1
  funext x
  simp [badTy_isTy]
theorem data_inj : ∀ {a b : List ByteArray}, a.map (·.data.toList) = b.map (·.data.toList) → a = b
  | [], [], _ => rfl
  | [], _ :: _, h => by simp at h
  | _ :: _, [], h => by simp at h
  | x :: a, y :: b, h => by
    simp only [List.map_cons, List.cons.injEq] at h
    obtain ⟨h1, h2⟩ := h
    rw [data_inj h2, ByteArray.ext (Array.ext' h1)]
/-- What the two calls come to: both refuse, both are empty, or both are the same list. -/
inductive SpOut (s : ByteArray) : Prop
  | no (h1 : ∀ w, Glob w → Calls Tryz.prog 74 #[.string s] w fun e w' => e = .returned (.tuple #[.slice none 0 0, .int .i64 10]) ∧ Below w.heap.size w w')
      (h2 : ∀ w, Calls Tryz.prog 48 #[.string s] w fun e w' => (∃ sa n sc, e = .returned (.tuple #[.slice sa n sc, .bool false])) ∧ Below w.heap.size w w')
  | yes (ls : List ByteArray) (hl : ls.length ≤ 100) (h1 : ∀ w, Glob w → Calls Tryz.prog 74 #[.string s] w fun e w' => (∃ sa sc, e = .returned (.tuple #[.slice sa ls.length sc, .int .i64 0]) ∧ StrSl w' sa ls) ∧ Below w.heap.size w w')
      (h2 : ∀ w, Calls Tryz.prog 48 #[.string s] w fun e w' => (∃ sa sc, e = .returned (.tuple #[.slice sa ls.length sc, .bool true]) ∧ StrSl w' sa ls) ∧ Below w.heap.size w w')
theorem sp_out (s : ByteArray) (hs : s.size ≤ 4294967280) : SpOut s := by
  cases hb : bodyOf s.data.toList with
  | none =>
    refine .no (fun w hg => (split_all s w (by omega) hg).mono fun e w' ⟨hq, he⟩ => ?_) (fun w => (rsplit_any s w hs).mono fun e w' ⟨hq, he⟩ => ?_)
    · rw [hb] at he; exact ⟨he, hq⟩
    · rw [hb] at he; exact ⟨⟨_, _, _, he⟩, hq⟩
  | some l =>
    by_cases hl : l = []
    · subst hl
      refine .yes [] (by decide) (fun w hg => (split_all s w (by omega) hg).mono fun e w' ⟨hq, he⟩ => ?_) (fun w => (rsplit_any s w hs).mono fun e w' ⟨hq, he⟩ => ?_)
      · rw [hb] at he; exact ⟨⟨none, 0, he, .inl rfl⟩, hq⟩
      · rw [hb] at he; exact ⟨⟨none, 0, he, .inl rfl⟩, hq⟩
    · have hr := rsplit_eq _ l (Nat.le_refl _)
      have hok := okPieces_eq ⟨l.toArray⟩
      rw [show (⟨l.toArray⟩ : ByteArray).data.toList = l from rfl] at hok
      cases hc : okPieces ⟨l.toArray⟩ with
      | false =>
        refine .no (fun w hg => (split_all s w (by omega) hg).mono fun e w' ⟨hq, he⟩ => ?_) (fun w => (rsplit_any s w hs).mono fun e w' ⟨hq, he⟩ => ?_)
        · rw [hb] at he
          dsimp only at he
          rw [if_neg hl, if_neg (by rw [hc]; simp)] at he
          exact ⟨he, hq⟩
        · rw [hb] at he
          dsimp only at he
          rw [if_neg hl] at he
          refine ⟨?_, hq⟩
          rw [hc] at hok
          cases ha : (piecesL l).all isTy with
          | false =>
            rw [ha] at hr
            rw [hr] at he
            exact ⟨_, _, _, he⟩
          | true =>
            rw [ha, if_pos rfl] at hr
            rw [hr] at he
            obtain ⟨sa, sc, ls, he, -, -⟩ := he
            rw [ha, Bool.and_true] at hok
            rw [← hok] at he
            exact ⟨_, _, _, he⟩
      | true =>
        rw [hc] at hok
        have h2 := hok.symm
        rw [Bool.and_eq_true, decide_eq_true_eq] at h2
        obtain ⟨hlen, hall⟩ := h2
        rw [hall, if_pos rfl] at hr
        have hpl : (piecesOf ⟨l.toArray⟩).length = (piecesL l).length := by
          rw [← show (piecesOf ⟨l.toArray⟩).map (·.data.toList) = piecesL l from pieces_data _, List.length_map]
        refine .yes (piecesOf ⟨l.toArray⟩) (by omega) (fun w hg => (split_all s w (by omega) hg).mono fun e w' ⟨hq, he⟩ => ?_) (fun w => (rsplit_any s w hs).mono fun e w' ⟨hq, he⟩ => ?_)
        · rw [hb] at he
          dsimp only at he
          rw [if_neg hl, if_pos hc] at he
          obtain ⟨g, c, he, hsl⟩ := he
          exact ⟨⟨_, _, he, hsl⟩, hq⟩
        · rw [hb] at he
          dsimp only at he
          rw [if_neg hl, hr] at he
          obtain ⟨sa, sc, ls, he, hsl, hm⟩ := he
          have hls : ls = piecesOf ⟨l.toArray⟩ := data_inj (by rw [hm]; exact (pieces_data ⟨l.toArray⟩).symm)
          subst hls
          rw [decide_eq_true hlen, ← hpl] at he
          exact ⟨⟨_, _, he, hsl⟩, hq⟩

end Go.Proofs.YtmepjbjmjbpchaaGreatDoor
end
section
/- The reference's Join; Split of a joined list. -/
namespace Go.Proofs.YtmepjbjmjbpchaaGreatDoor
open Go Go.RowKit Go.Sort
set_option linter.unusedVariables false
set_option linter.unusedSimpArgs false

theorem jn_first {ls : List (List UInt8)} (h : 0 < ls.length) (sep : List UInt8) : Lib.join (ls.take 1) sep = ls[0] := by
  match ls, h with
  | x :: r, _ => simp [Lib.join_one]
theorem jn_snoc {ls : List (List UInt8)} {j : Nat} (h : j < ls.length) (h0 : 0 < j) (sep : List UInt8) : Lib.join (ls.take (j + 1)) sep = Lib.join (ls.take j) sep ++ sep ++ ls[j] := by
  match ls, h with
  | x :: r, h =>
    obtain ⟨i, rfl⟩ : ∃ i, j = i + 1 := ⟨j - 1, by omega⟩
    have hi : i < r.length := by simpa using h
    rw [List.take_succ_cons, List.take_succ_cons, Lib.join_cons, Lib.join_cons, Lib.joinTail_take_succ sep r i r[i] (List.getElem?_eq_getElem hi)]
    simp
def joinS (ls : List ByteArray) : List UInt8 := Lib.join (ls.map (·.data.toList)) [44, 32]
theorem joinS_first {ls : List ByteArray} (h : 0 < ls.length) : joinS (ls.take 1) = (ls[0]).data.toList := by
  unfold joinS
  rw [List.map_take, jn_first (by simpa using h)]
  simp
theorem joinS_snoc {ls : List ByteArray} {j : Nat} (h : j < ls.length) (h0 : 0 < j) : joinS (ls.take (j + 1)) = joinS (ls.take j) ++ [44, 32] ++ (ls[j]).data.toList := by
  unfold joinS
  rw [List.map_take, jn_snoc (by simpa using h) h0, List.map_take]
  simp
theorem joinS_len : ∀ (ls : List ByteArray), (∀ s ∈ ls, s.size ≤ 1000) → (joinS ls).length ≤ 1002 * ls.length
  | ls, h => by
    unfold joinS
    cases ls with
    | nil => simp [Lib.join_nil]
    | cons x r =>
      rw [List.map_cons, Lib.join_length]
      have := lens_le 1000 ((x :: r).map (·.data.toList)) (by
        intro y hy
        rw [List.mem_map] at hy
        obtain ⟨z, hz, rfl⟩ := hy
        have h1 := h z hz
        have h2 : z.data.toList.length = z.size := by simp
        omega)
      rw [List.map_cons] at this
      simp only [List.length_cons, List.length_nil, List.length_map] at this ⊢
      omega
set_option maxRecDepth 100000 in
set_option maxHeartbeats 2000000 in
theorem rjoin_any (a : Option Addr) (c : Nat) (ls : List ByteArray) (w : World) (hs : StrSl w a ls) (hl : ls.length ≤ 1000) (hsz : ∀ s ∈ ls, s.size ≤ 1000) :
    Calls Tryz.prog 62 #[.slice a ls.length c] w fun e w' => e = .returned (.string ⟨(40 :: joinS ls ++ [41]).toArray⟩) ∧ w = w' := by
  have HS := Lib.hid hs
  have HSZ := Lib.hid hsz
  clear hs hsz
  go_enter Tryz.func62, Tryz.ntmps62
  go_wp2_with fail
  go_loop [3, 4] (fun t i => ∃ (j : Nat) (st : ByteArray), j ≤ ls.length ∧ i = .int .i64 j ∧ t = .string st ∧ st.data.toList = 40 :: joinS (ls.take j)) (fun _ i => ls.length - (intOf i).toNat)
  case atStart => exact ⟨0, _, Nat.zero_le _, rfl, rfl, rfl⟩
  case round =>
    obtain ⟨j, st, hj, rfl, rfl, hst⟩ := hrel
    have hsts : st.size ≤ 1100000 := by
      have h1 := joinS_len (ls.take j) (fun s hs => HSZ.out s (List.mem_of_mem_take hs))
      have h2 : (ls.take j).length ≤ 1000 := by simp; omega
      have h3 := congrArg List.length hst
      have h4 : st.data.toList.length = st.size := by simp
      rw [h4, List.length_cons] at h3
      omega
    have HST := Lib.hid hst
    clear hst
    rcases Nat.lt_or_ge j ls.length with hlt | hge
    · obtain ⟨g, off, rfl, hcell⟩ := HS.out.at hlt
      have hxs := HSZ.out ls[j] (List.getElem_mem _)
      obtain ⟨x, hx⟩ : ∃ x, x = ls[j] := ⟨_, rfl⟩
      rw [← hx] at hcell hxs
      have hlt' : (j : Int) < (ls.length : Int) := by omega
      rcases Nat.eq_zero_or_pos j with h0 | h0
      · have hf := joinS_first (ls := ls) (by omega)
        have HX := Lib.hid hx
        have HF := Lib.hid hf
        clear hx hf
        subst h0
        rw [Nat.add_zero] at hcell
        go_wp2_with fail
        go_round
        case rel =>
          refine ⟨1, _, hlt, rfl, rfl, ?_⟩
          rw [HF.out, ← HX.out]
          simp [HST.out, joinS, Lib.join_nil]
        case measure => simp [intOf]; omega
      · have hf := joinS_snoc (ls := ls) hlt h0
        have HX := Lib.hid hx
        have HF := Lib.hid hf
        have h0i : (0 : Int) < (j : Int) := by omega
        clear hx hf
        go_wp2_with fail
        go_round
        case rel =>
          refine ⟨j + 1, _, hlt, by simp, rfl, ?_⟩
          rw [HF.out, ← HX.out]
          simp [HST.out]
        case measure => simp [intOf]; omega
    · have hje : j = ls.length := by omega
      subst hje
      go_wp2_with fail
      go_ret
      refine ⟨?_, rfl⟩
      have e1 : st ++ ⟨#[41]⟩ = ⟨(40 :: joinS ls ++ [41]).toArray⟩ := by
        apply ByteArray.ext
        apply Array.ext'
        have := HST.out
        rw [List.take_length] at this
        simp [this]
      exact congrArg (fun t => Ending.returned (.string t)) e1

theorem pieces_join : ∀ (ls : List (List UInt8)), ls ≠ [] → (∀ x ∈ ls, (44 : UInt8) ∉ x) → piecesL (Lib.join ls [44, 32]) = ls
  | [], h, _ => absurd rfl h
  | [x], _, h => by
    rw [Lib.join_one]
    refine piecesL_miss (Lib.index_none fun j hj => ?_)
    rw [Bool.eq_false_iff]
    intro ho
    exact h x (by simp) (List.mem_of_getElem? (occ_at ho).1)
  | x :: y :: r, _, h => by
    have hj : Lib.join (x :: y :: r) [44, 32] = x ++ 44 :: 32 :: Lib.join (y :: r) [44, 32] := by
      rw [Lib.join_cons, Lib.join_cons]
      simp [Lib.joinTail]
    rw [hj, piecesL_hit (index_cut (h x (by simp)))]
    congr 1
    · simp
    · rw [show (x ++ 44 :: 32 :: Lib.join (y :: r) [44, 32]).drop (x.length + 2) = Lib.join (y :: r) [44, 32] by simp [List.drop_append]]
      exact pieces_join (y :: r) (by simp) (fun z hz => h z (by simp [hz]))
theorem isTy_nil : isTy [] = false := by rfl
theorem bodyOf_join (l : List UInt8) : bodyOf (40 :: l ++ [41]) = some l := by
  unfold bodyOf
  have h1 : Lib.hasPrefix ((40 : UInt8) :: l ++ [41]) [40] = true := by simp [Lib.hasPrefix, List.isPrefixOf]
  have h2 : Lib.hasSuffix ((40 : UInt8) :: l ++ [41]).tail [41] = true := by
    rw [List.cons_append, List.tail_cons, suffix_iff (by simp)]
    simp
  rw [h1, h2]
  simp
theorem goodTy {s : ByteArray} : badTy s = false ↔ isTy s.data.toList = true := by rw [badTy_isTy]; simp
theorem isTy_len {l : List UInt8} (h : isTy l = true) : l.length ≤ 60 := by
  unfold isTy at h
  obtain ⟨q, hq⟩ := Option.isSome_iff_exists.1 h
  exact readOf_len hq
theorem joinS_ne {ls : List ByteArray} (h : ls ≠ []) (hg : ls.any badTy = false) : joinS ls ≠ [] := by
  match ls, h with
  | x :: r, _ =>
    intro he
    unfold joinS at he
    rw [List.map_cons, Lib.join_cons, List.append_eq_nil_iff] at he
    rw [List.any_eq_false] at hg
    have := goodTy.1 (by simpa using hg x (by simp))
    rw [he.1, isTy_nil] at this
    cases this
theorem joinS_pieces {ls : List ByteArray} (h : ls ≠ []) (hg : ls.any badTy = false) : piecesL (joinS ls) = ls.map (·.data.toList) := by
  refine pieces_join _ (by simpa using h) ?_
  intro x hx
  rw [List.mem_map] at hx
  obtain ⟨s, hs, rfl⟩ := hx
  rw [List.any_eq_false] at hg
  exact isTy_no44 (goodTy.1 (by simpa using hg s hs))
/-- Split of a joined list: the list, or too many. -/
theorem split_join (ls : List ByteArray) (w : World) (hg : Glob w) (hgd : ls.any badTy = false) (hl : ls.length ≤ 1000) (s : ByteArray) (hs : s.data.toList = 40 :: joinS ls ++ [41]) :
    Calls Tryz.prog 74 #[.string s] w fun e w' => Below w.heap.size w w' ∧ (if ls.length ≤ 100 then ∃ sa sc, e = .returned (.tuple #[.slice sa ls.length sc, .int .i64 0]) ∧ StrSl w' sa ls else e = .returned (.tuple #[.slice none 0 0, .int .i64 10])) := by
  have hsz : s.size < 4294967281 := by
    have h1 := joinS_len ls (fun x hx => by
      rw [List.any_eq_false] at hgd
      have := isTy_len (goodTy.1 (by simpa using hgd x hx))
      simp at this; omega)
    have h2 := congrArg List.length hs
    have h3 : s.data.toList.length = s.size := by simp
    rw [h3] at h2
    simp at h2
    omega
  refine (split_all s w hsz hg).mono fun e w' ⟨hb, he⟩ => ⟨hb, ?_⟩
  rw [hs, bodyOf_join] at he
  dsimp only at he
  by_cases h0 : ls = []
  · subst h0
    rw [if_pos (show joinS [] = [] from rfl)] at he
    rw [if_pos (by decide)]
    exact ⟨none, 0, he, .inl rfl⟩
  · rw [if_neg (joinS_ne h0 hgd)] at he
    have hp := joinS_pieces h0 hgd
    have hpo : piecesOf ⟨(joinS ls).toArray⟩ = ls := data_inj (by rw [show (piecesOf ⟨(joinS ls).toArray⟩).map (·.data.toList) = piecesL (joinS ls) from pieces_data _, hp])
    have hok : okPieces ⟨(joinS ls).toArray⟩ = decide (ls.length ≤ 100) := by
      unfold okPieces
      rw [hpo, hgd]; simp
    rw [hok, hpo] at he
    by_cases h100 : ls.length ≤ 100
    · rw [if_pos (by simpa using h100)] at he
      rw [if_pos h100]
      obtain ⟨g, c, he, hsl⟩ := he
      exact ⟨_, _, he, hsl⟩
    · rw [if_neg (by simpa using h100)] at he
      rw [if_neg h100]
      exact he
theorem split_long (ls : List ByteArray) (n : Nat) (hn : ls.length = n) (w : World) (hg : Glob w) (hgd : ls.any badTy = false) (hl : 100 < n ∧ n ≤ 1000) (s : ByteArray) (hs : s.data.toList = 40 :: joinS ls ++ [41]) :
    Calls Tryz.prog 74 #[.string s] w fun e w' => Below w.heap.size w w' ∧ e = .returned (.tuple #[.slice none 0 0, .int .i64 10]) := by
  subst hn
  exact (split_join ls w hg hgd hl.2 s hs).mono fun e w' ⟨hb, he⟩ => ⟨hb, by rw [if_neg (by omega)] at he; exact he⟩
theorem split_short (ls : List ByteArray) (n : Nat) (hn : ls.length = n) (w : World) (hg : Glob w) (hgd : ls.any badTy = false) (hl : n ≤ 100) (s : ByteArray) (hs : s.data.toList = 40 :: joinS ls ++ [41]) :
    Calls Tryz.prog 74 #[.string s] w fun e w' => Below w.heap.size w w' ∧ ∃ sa sc, e = .returned (.tuple #[.slice sa n sc, .int .i64 0]) ∧ StrSl w' sa ls := by
  subst hn
  exact (split_join ls w hg hgd (by omega) s hs).mono fun e w' ⟨hb, he⟩ => ⟨hb, by rw [if_pos hl] at he; exact he⟩
end Go.Proofs.YtmepjbjmjbpchaaGreatDoor
end
section
/- The strings of values: two right attributes of one name and kind with the same string are the same (plain law). -/
namespace Go.Proofs.YtmepjbjmjbpchaaGreatDoor
open Go Go.RowKit
set_option linter.unusedVariables false
set_option linter.unusedSimpArgs false

theorem dec_digit (u : Nat) : ∀ c ∈ Lib.decDigits u, 48 ≤ c.toNat ∧ c.toNat ≤ 57 := by
  induction u using Nat.strongRecOn with
  | ind u ih =>
    unfold Lib.decDigits
    split
    · intro c hc
      rw [List.mem_singleton.1 hc, UInt8.toNat_ofNat']
      omega
    · intro c hc
      rcases List.mem_append.1 hc with hc | hc
      · exact ih (u / 10) (by omega) c hc
      · rw [List.mem_singleton.1 hc, UInt8.toNat_ofNat']
        omega
/-- The number of a list of digits. -/
def numOfL (a : Nat) : List UInt8 → Nat
  | [] => a
  | c :: r => numOfL (10 * a + (c.toNat - 48)) r
theorem numOfL_append (l m : List UInt8) : ∀ a, numOfL a (l ++ m) = numOfL (numOfL a l) m := by
  induction l with
  | nil => intro a; rfl
  | cons c r ih => intro a; exact ih _
theorem dig_toNat {d : Nat} (h : d < 10) : (UInt8.ofNat (48 + d)).toNat - 48 = d := by
  rw [UInt8.toNat_ofNat', Nat.mod_eq_of_lt (by omega)]; omega
theorem numOfL_dec (u : Nat) : numOfL 0 (Lib.decDigits u) = u := by
  induction u using Nat.strongRecOn with
  | ind u ih =>
    rw [Lib.decDigits]
    split
    · show 10 * 0 + ((UInt8.ofNat (48 + u)).toNat - 48) = u
      rw [dig_toNat (by assumption)]; omega
    · rw [numOfL_append, ih (u / 10) (by omega)]
      show 10 * (u / 10) + ((UInt8.ofNat (48 + u % 10)).toNat - 48) = u
      rw [dig_toNat (by omega)]; omega
theorem dec_inj {u v : Nat} (h : Lib.decDigits u = Lib.decDigits v) : u = v := by rw [← numOfL_dec u, h, numOfL_dec]
theorem itoa_inj {m n : Int} (h : Lib.itoa m = Lib.itoa n) : m = n := by
  unfold Lib.itoa at h
  have hd : ∀ (u : Nat) (l : List UInt8), Lib.decDigits u ≠ 45 :: l := by
    intro u l e
    have := dec_digit u 45 (by rw [e]; exact List.mem_cons_self ..)
    simp at this
  split at h <;> split at h
  · have := dec_inj (List.cons.inj h).2
    omega
  · exact absurd h.symm (hd _ _)
  · exact absurd h (hd _ _)
  · have := dec_inj h
    omega
theorem itoa_no44 (n : Int) : (44 : UInt8) ∉ Lib.itoa n := by
  have hd : ∀ u : Nat, (44 : UInt8) ∉ Lib.decDigits u := fun u h => by have := dec_digit u 44 h; simp at this
  unfold Lib.itoa
  split
  · intro h
    rcases List.mem_cons.1 h with h | h
    · cases h
    · exact hd _ h
  · exact hd _
theorem itoa_ne (n : Int) : Lib.itoa n ≠ [] := by
  unfold Lib.itoa
  split
  · simp
  · unfold Lib.decDigits; split <;> simp
/-- The number of a hexadecimal digit. -/
def nibB (c : UInt8) : Nat := if 48 ≤ c.toNat ∧ c.toNat ≤ 57 then c.toNat - 48 else c.toNat - 87
/-- The first byte that is written, and the rest. -/
def unesc1 : List UInt8 → Option (UInt8 × List UInt8)
  | [] => none
  | c :: r => if c = 92 then (match r with | [] => none | e :: r => if e = 34 ∨ e = 92 then some (e, r) else if e = 110 then some (10, r) else match r with | a :: b :: r => some (UInt8.ofNat (16 * nibB a + nibB b), r) | _ => none) else some (c, r)
theorem nib_all : ∀ n < 256, UInt8.ofNat (16 * nibB (hexOf ((UInt8.ofNat n).toNat / 16)) + nibB (hexOf ((UInt8.ofNat n).toNat % 16))) = UInt8.ofNat n := by decide +kernel
theorem unesc1_esc (c : UInt8) (r : List UInt8) : unesc1 (escOf c ++ r) = some (c, r) := by
  have hn := nib_all c.toNat c.toNat_lt
  simp only [UInt8.ofNat_toNat] at hn
  unfold escOf
  by_cases h1 : c = 34
  · subst h1; rfl
  · rw [if_neg h1]
    by_cases h2 : c = 92
    · subst h2; rfl
    · rw [if_neg h2]
      by_cases h3 : c = 10
      · subst h3; rfl
      · rw [if_neg h3]
        split
        · simp only [List.cons_append, List.nil_append, unesc1, if_true]
          rw [if_neg (by decide), if_neg (by decide), hn]
        · simp [unesc1, h2]
theorem escL_inj : ∀ {l m : List UInt8}, escL l = escL m → l = m
  | [], [], _ => rfl
  | [], d :: m, h => by
    have := congrArg unesc1 h
    rw [show escL (d :: m) = escOf d ++ escL m from rfl, unesc1_esc] at this
    cases this
  | c :: l, [], h => by
    have := congrArg unesc1 h
    rw [show escL (c :: l) = escOf c ++ escL l from rfl, unesc1_esc] at this
    cases this
  | c :: l, d :: m, h => by
    have := congrArg unesc1 h
    rw [show escL (c :: l) = escOf c ++ escL l from rfl, unesc1_esc, show escL (d :: m) = escOf d ++ escL m from rfl, unesc1_esc] at this
    simp only [Option.some.injEq, Prod.mk.injEq] at this
    rw [this.1, escL_inj this.2]
theorem quoteL_inj {l m : List UInt8} (h : quoteL l = quoteL m) : l = m := by
  unfold quoteL at h
  exact escL_inj (List.append_cancel_right (List.cons.inj h).2)
theorem join_inj {l m : List (List UInt8)} (hl : ∀ x ∈ l, (44 : UInt8) ∉ x ∧ x ≠ []) (hm : ∀ x ∈ m, (44 : UInt8) ∉ x ∧ x ≠ []) (h : Lib.join l [44, 32] = Lib.join m [44, 32]) : l = m := by
  have key : ∀ {k : List (List UInt8)}, (∀ x ∈ k, (44 : UInt8) ∉ x ∧ x ≠ []) → Lib.join k [44, 32] = [] → k = [] := by
    intro k hk h
    match k, hk, h with
    | [], _, _ => rfl
    | [x], hk, h => exact absurd (by simpa [Lib.join] using h) (hk x (by simp)).2
    | x :: y :: k, hk, h => simp [Lib.join] at h
  by_cases h1 : l = []
  · subst h1
    exact (key hm h.symm).symm
  · by_cases h2 : m = []
    · subst h2
      exact key hl h
    · rw [← pieces_join l h1 fun x hx => (hl x hx).1, h, pieces_join m h2 fun x hx => (hm x hx).1]
theorem ints_inj {l m : List Int} (h : Lib.join ((l.map itoaB).map (·.data.toList)) [44, 32] = Lib.join ((m.map itoaB).map (·.data.toList)) [44, 32]) : l = m := by
  have e : ∀ k : List Int, (k.map itoaB).map (·.data.toList) = k.map Lib.itoa := fun k => by simp [itoaB, Function.comp_def]
  rw [e, e] at h
  have hk : ∀ k : List Int, ∀ x ∈ k.map Lib.itoa, (44 : UInt8) ∉ x ∧ x ≠ [] := by
    intro k x hx
    obtain ⟨n, _, rfl⟩ := List.mem_map.1 hx
    exact ⟨itoa_no44 n, itoa_ne n⟩
  have := join_inj (hk l) (hk m) h
  exact (List.map_inj_right (fun a b h => itoa_inj h)).1 this
theorem bytes_inj {s t : ByteArray} (h : s.data.toList = t.data.toList) : s = t := ByteArray.ext (Array.toList_inj.1 h)
theorem texts_inj {l m : List ByteArray} (hl : l.all isTyB = true) (hm : m.all isTyB = true) (h : Lib.join (l.map (·.data.toList)) [44, 32] = Lib.join (m.map (·.data.toList)) [44, 32]) : l = m := by
  have hk : ∀ k : List ByteArray, k.all isTyB = true → ∀ x ∈ k.map (·.data.toList), (44 : UInt8) ∉ x ∧ x ≠ [] := by
    intro k hk x hx
    obtain ⟨s, hs, rfl⟩ := List.mem_map.1 hx
    have h1 : isTy s.data.toList = true := List.all_eq_true.1 hk s hs
    refine ⟨isTy_no44 h1, fun e => ?_⟩
    rw [e, isTy_nil] at h1
    cases h1
  have := join_inj (hk l hl) (hk m hm) h
  exact (List.map_inj_right (fun a b h => bytes_inj h)).1 this
theorem joinOf_right {l : List ByteArray} (h : l.all isTyB = true) (hl : l.length ≤ 100) : joinOf l = (40 :: Lib.join (l.map (·.data.toList)) [44, 32] ++ [41], 0) := by
  unfold joinOf
  have h1 : l.any badTy = false := by
    rw [List.any_eq_false]
    intro s hs
    have := List.all_eq_true.1 h s hs
    rw [badTy_isTy]
    have h2 : isTy s.data.toList = true := this
    simp [h2]
  rw [h1]
  simp
  omega
/-- What is right of an attribute's data. -/
def rightD (d : Dat) : Bool := rightA ⟨d.name, d.kind, d.num, d.text, none, d.ints, 0, none, d.texts, 0⟩
theorem rightA_D (a : Atr) : rightA a = rightD a.dat := rfl
theorem valD_inj {d e : Dat} (hd : rightD d = true) (he : rightD e = true) (hn : d.name = e.name) (hk : d.kind = e.kind) (hv : valD d = valD e) : d = e := by
  obtain ⟨dn, dk, dm, dt, di, ds⟩ := d
  obtain ⟨en, ek, em, et, ei, es⟩ := e
  dsimp only at hn hk
  subst hn hk
  simp only [rightD, rightA, Bool.and_eq_true, decide_eq_true_eq] at hd he
  obtain ⟨⟨⟨hkr, -⟩, hd1⟩, hd2⟩ := hd
  obtain ⟨⟨-, he1⟩, he2⟩ := he
  have hem : ∀ {x y : ByteArray}, x.toList.isEmpty = true → y.toList.isEmpty = true → x = y := by
    intro x y hx hy
    rw [List.isEmpty_iff] at hx hy
    exact toList_inj.1 (hx.trans hy.symm)
  have hln : ∀ {α : Type} {x y : List α}, ((x.length : Int) == 0) = true → ((y.length : Int) == 0) = true → x = y := by
    intro α x y hx hy
    simp at hx hy
    rw [hx, hy]
  have hln2 : ∀ {α : Type} {x y : List α}, (x.length == 0) = true → (y.length == 0) = true → x = y := by
    intro α x y hx hy
    simp at hx hy
    rw [hx, hy]
  have h6 : dk = 0 ∨ dk = 1 ∨ dk = 2 ∨ dk = 3 ∨ dk = 4 ∨ dk = 5 := by omega
  rcases h6 with rfl | rfl | rfl | rfl | rfl | rfl
  all_goals simp only [ownB, aloneB, noTextB, noNumB, noneOfB, noListsB, valD, Bool.and_eq_true, beq_iff_eq, decide_eq_true_eq, if_true, true_or, or_true, reduceIte, Int.reduceEq, false_or, or_false, or_self] at hd1 hd2 he1 he2 hv
  · obtain ⟨a1, a2, a3⟩ := hd2
    obtain ⟨b1, b2, b3⟩ := he2
    obtain rfl := itoa_inj hv
    obtain rfl := hem a1 b1
    obtain rfl : di = ei := hln (by simpa using a2) (by simpa using b2)
    obtain rfl : ds = es := hln (by simpa using a3) (by simpa using b3)
    rfl
  · obtain ⟨a1, a2, a3⟩ := hd2
    obtain ⟨b1, b2, b3⟩ := he2
    obtain rfl : dt = et := bytes_inj (quoteL_inj hv)
    subst a1 b1
    obtain rfl : di = ei := hln (by simpa using a2) (by simpa using b2)
    obtain rfl : ds = es := hln (by simpa using a3) (by simpa using b3)
    rfl
  · obtain ⟨a1, a2, a3⟩ := hd2
    obtain ⟨b1, b2, b3⟩ := he2
    obtain rfl : dt = et := bytes_inj (List.cons.inj hv).2
    subst a1 b1
    obtain rfl : di = ei := hln (by simpa using a2) (by simpa using b2)
    obtain rfl : ds = es := hln (by simpa using a3) (by simpa using b3)
    rfl
  · obtain ⟨a1, a2, a3⟩ := hd2
    obtain ⟨b1, b2, b3⟩ := he2
    obtain rfl : dt = et := bytes_inj hv
    subst a1 b1
    obtain rfl : di = ei := hln (by simpa using a2) (by simpa using b2)
    obtain rfl : ds = es := hln (by simpa using a3) (by simpa using b3)
    rfl
  · obtain ⟨a1, a2⟩ := hd2
    obtain ⟨b1, b2⟩ := he2
    obtain rfl := hem a2 b2
    subst a1 b1
    obtain rfl : di = ei := ints_inj (List.append_cancel_right (List.cons.inj hv).2)
    obtain rfl : ds = es := hln2 (by simpa using hd1.2) (by simpa using he1.2)
    rfl
  · obtain ⟨a1, a2⟩ := hd2
    obtain ⟨b1, b2⟩ := he2
    obtain rfl := hem a2 b2
    subst a1 b1
    obtain ⟨⟨c1, c2⟩, c3⟩ := hd1
    obtain ⟨⟨f1, f2⟩, f3⟩ := he1
    rw [joinOf_right c2 c1, joinOf_right f2 f1] at hv
    obtain rfl : ds = es := texts_inj c2 f2 (by simpa using hv)
    obtain rfl : di = ei := hln2 (by simpa using c3) (by simpa using f3)
    rfl
end Go.Proofs.YtmepjbjmjbpchaaGreatDoor
end
section
/- attrs.Read over what attrs.guess gives. -/
namespace Go.Proofs.YtmepjbjmjbpchaaGreatDoor
open Go Go.RowKit Go.Sort
set_option linter.unusedVariables false
set_option linter.unusedSimpArgs false

/-- What a call that gives an attribute with these data gives. -/
def GsPost (D : Dat) (w : World) (e : Ending) (w' : World) : Prop :=
  ∃ a : Atr, e = .returned a.val ∧ a.dat = D ∧ a.Lies w' ∧ a.Fits ∧ (∀ x, (a.ia = some x ∨ a.ta = some x) → w.heap.size ≤ x.block ∧ x.block < w'.heap.size) ∧ Below w.heap.size w w'
/-- .. or none, with an error. -/
def RdPost (o : Option Dat) (n : Int) (w : World) (e : Ending) (w' : World) : Prop :=
  match o with
  | some D => ∃ a : Atr, e = .returned (.tuple #[a.val, .int .i64 0]) ∧ a.dat = D ∧ a.Lies w' ∧ a.Fits ∧ (∀ x, (a.ia = some x ∨ a.ta = some x) → w.heap.size ≤ x.block ∧ x.block < w'.heap.size) ∧ Below w.heap.size w w'
  | none => e = .returned (.tuple #[zAt, .int .i64 n]) ∧ Below w.heap.size w w'
def readOk (D : Dat) (s : ByteArray) : Bool := rightD D && decide (valD D = s.data.toList)
set_option maxRecDepth 100000 in
set_option maxHeartbeats 8000000 in
theorem read_of (nm s : ByteArray) (D : Dat) (w : World) (hn : nameOf nm.data.toList = true) (hg : ∀ W, Below w.heap.size w W → Calls Tryz.prog 43 #[.string nm, .string s] W (GsPost D W)) (hp : Pow w) :
    Calls Tryz.prog 22 #[.string nm, .string s] w (RdPost (if readOk D s then some D else none) 70 w) := by
  have HN := Lib.hid hn
  have HG := Lib.hid hg
  have HP := Lib.hid hp
  obtain ⟨vs, hvs⟩ : ∃ vs : ByteArray, vs = ⟨(valD D).toArray⟩ := ⟨_, rfl⟩
  have hve : decide (valD D = s.data.toList) = decide (vs = s) := by
    rw [decide_eq_decide, hvs]
    constructor
    · intro h; rw [h]
    · intro h; rw [← h]
  obtain ⟨r, hr⟩ : ∃ r, r = rightD D := ⟨_, rfl⟩
  have hok : readOk D s = (r && decide (vs = s)) := by rw [readOk, hve, hr]
  rw [hok]
  have HVS := Lib.hid hvs
  have HR := Lib.hid hr
  have hzat : ∀ W : World, True := fun _ => trivial
  clear hn hg hp hvs hve hr hok hzat
  have hcs : r = false ∨ (r = true ∧ ¬ vs = s) ∨ (r = true ∧ vs = s) := by
    cases r
    · exact .inl rfl
    · by_cases h : vs = s
      · exact .inr (.inr ⟨rfl, h⟩)
      · exact .inr (.inl ⟨rfl, h⟩)
  rcases hcs with rfl | ⟨rfl, hv⟩ | ⟨rfl, hv⟩
  · go_enter Tryz.func22, Tryz.ntmps22
    go_wp2_with (first
      | (go_at_call 45; refine Calls.mono (textA_any x _ (HL.out.below ?_) HF.out (by rw [HRX.out]) (pow_below HP.out ?_)) ?_; (focus ((repeat (first | (with_reducible refine below_set ?_ (by first | exact Nat.le_refl _ | omega) _ _) | with_reducible exact Below.refl _ _ | with_reducible refine belowA ?_ _ | with_reducible refine below_own' ?_ hb3 | with_reducible refine belowD ?_ | with_reducible refine belowN ?_ _)); done)); (focus ((repeat (first | (with_reducible refine below_set ?_ (by first | exact Nat.le_refl _ | omega) _ _) | with_reducible exact Below.refl _ _ | with_reducible refine belowA ?_ _ | with_reducible refine below_own' ?_ hb3 | with_reducible refine below_own' ?_ hb2 | with_reducible refine belowD ?_ | with_reducible refine belowN ?_ _)); done)); rintro e w4 ⟨rfl, hb4⟩; rw [HTX.out]; have c4 := fun j => (rdCell hb4 w.heap.size (by omega) j).trans (c3 j); have f4 := fun j => (rdFree hb4 w.heap.size (by omega) j).trans (f3 j); have d4 := fun j => (rdCell hb4 w2.heap.size (by omega) j).trans (d3 j); have hzw4 : w2.heap.size < w4.heap.size := Nat.lt_of_lt_of_le hzw3 hb4.size)
      | (go_at_call 44; refine Calls.mono (isRight_any x _ (HL.out.below ?_) HF.out) ?_; (focus ((repeat (first | (with_reducible refine below_set ?_ (by first | exact Nat.le_refl _ | omega) _ _) | with_reducible exact Below.refl _ _ | with_reducible refine belowA ?_ _ | with_reducible refine belowD ?_ | with_reducible refine belowN ?_ _)); done)); rintro e w3 ⟨rfl, hb3⟩; rw [HRX.out]; have c3 := rdCell hb3 w.heap.size (by simp; omega); have f3 := rdFree hb3 w.heap.size (by simp; omega); have d3 := rdCell hb3 w2.heap.size (by simp); have hzw3 : w2.heap.size < w3.heap.size := (by have := Below.size hb3; simp at this; omega))
      | (go_at_call 43; refine Calls.mono (HG.out _ ?_) ?_; (focus ((repeat (first | (with_reducible refine below_set ?_ (by first | exact Nat.le_refl _ | omega) _ _) | with_reducible exact Below.refl _ _ | with_reducible refine belowA ?_ _ | with_reducible refine belowD ?_ | with_reducible refine belowN ?_ _)); done)); rintro e w2 ⟨x, rfl, hd, hl, hf, hfr, hb2⟩; have HRX : Hid (rightA x = _) := Lib.hid (by rw [rightA_D, hd, ← HR.out]); have HTX : Hid ((⟨(valD x.dat).toArray⟩ : ByteArray) = vs) := Lib.hid (by rw [hd, HVS.out]); have c2 := rdCell hb2 w.heap.size (by first | (simp; done) | (simp; omega)); have f2 := rdFree hb2 w.heap.size (by first | (simp; done) | (simp; omega)); have hzw2 : w.heap.size < w2.heap.size := (by have := Below.size hb2; simp at this; omega); have HL := Lib.hid hl; have HF := Lib.hid hf; have HD := Lib.hid hd; have HFR := Lib.hid hfr; clear hl hf hd hfr)
      | (go_at_call 42; refine (isName_any nm _).mono ?_; rintro e w1 ⟨rfl, rfl⟩; rw [HN.out]))
    refine bodyPost_ret (v := .tuple #[zAt, .int .i64 70]) (by simp [results, Tryz.results22, go_sem, c3, f3, c2, f2, hzw2, show w.heap.size < w3.heap.size by omega, zAt]) rfl ?_
    exact ⟨rfl, by (repeat (first | (with_reducible refine below_set ?_ (by first | exact Nat.le_refl _ | omega) _ _) | with_reducible exact Below.refl _ _ | with_reducible refine belowA ?_ _ | with_reducible refine below_own' ?_ hb3 | with_reducible refine below_own' ?_ hb2 | with_reducible refine belowD ?_ | with_reducible refine belowN ?_ _))⟩
  · have hvl : (vs.toList == s.toList) = false := by simpa [toList_inj] using hv
    rw [if_neg (by simpa using hv)]
    go_enter Tryz.func22, Tryz.ntmps22
    go_wp2_with (first
      | (go_at_call 45; refine Calls.mono (textA_any x _ (HL.out.below ?_) HF.out (by rw [HRX.out]) (pow_below HP.out ?_)) ?_; (focus ((repeat (first | (with_reducible refine below_set ?_ (by first | exact Nat.le_refl _ | omega) _ _) | with_reducible exact Below.refl _ _ | with_reducible refine belowA ?_ _ | with_reducible refine below_own' ?_ hb3 | with_reducible refine belowD ?_ | with_reducible refine belowN ?_ _)); done)); (focus ((repeat (first | (with_reducible refine below_set ?_ (by first | exact Nat.le_refl _ | omega) _ _) | with_reducible exact Below.refl _ _ | with_reducible refine belowA ?_ _ | with_reducible refine below_own' ?_ hb3 | with_reducible refine below_own' ?_ hb2 | with_reducible refine belowD ?_ | with_reducible refine belowN ?_ _)); done)); rintro e w4 ⟨rfl, hb4⟩; rw [HTX.out]; have c4 := fun j => (rdCell hb4 w.heap.size (by omega) j).trans (c3 j); have f4 := fun j => (rdFree hb4 w.heap.size (by omega) j).trans (f3 j); have d4 := fun j => (rdCell hb4 w2.heap.size (by omega) j).trans (d3 j); have hzw4 : w2.heap.size < w4.heap.size := Nat.lt_of_lt_of_le hzw3 hb4.size)
      | (go_at_call 44; refine Calls.mono (isRight_any x _ (HL.out.below ?_) HF.out) ?_; (focus ((repeat (first | (with_reducible refine below_set ?_ (by first | exact Nat.le_refl _ | omega) _ _) | with_reducible exact Below.refl _ _ | with_reducible refine belowA ?_ _ | with_reducible refine belowD ?_ | with_reducible refine belowN ?_ _)); done)); rintro e w3 ⟨rfl, hb3⟩; rw [HRX.out]; have c3 := rdCell hb3 w.heap.size (by simp; omega); have f3 := rdFree hb3 w.heap.size (by simp; omega); have d3 := rdCell hb3 w2.heap.size (by simp); have hzw3 : w2.heap.size < w3.heap.size := (by have := Below.size hb3; simp at this; omega))
      | (go_at_call 43; refine Calls.mono (HG.out _ ?_) ?_; (focus ((repeat (first | (with_reducible refine below_set ?_ (by first | exact Nat.le_refl _ | omega) _ _) | with_reducible exact Below.refl _ _ | with_reducible refine belowA ?_ _ | with_reducible refine belowD ?_ | with_reducible refine belowN ?_ _)); done)); rintro e w2 ⟨x, rfl, hd, hl, hf, hfr, hb2⟩; have HRX : Hid (rightA x = _) := Lib.hid (by rw [rightA_D, hd, ← HR.out]); have HTX : Hid ((⟨(valD x.dat).toArray⟩ : ByteArray) = vs) := Lib.hid (by rw [hd, HVS.out]); have c2 := rdCell hb2 w.heap.size (by first | (simp; done) | (simp; omega)); have f2 := rdFree hb2 w.heap.size (by first | (simp; done) | (simp; omega)); have hzw2 : w.heap.size < w2.heap.size := (by have := Below.size hb2; simp at this; omega); have HL := Lib.hid hl; have HF := Lib.hid hf; have HD := Lib.hid hd; have HFR := Lib.hid hfr; clear hl hf hd hfr)
      | (go_at_call 42; refine (isName_any nm _).mono ?_; rintro e w1 ⟨rfl, rfl⟩; rw [HN.out]))
    refine bodyPost_ret (v := .tuple #[zAt, .int .i64 70]) (by simp [results, Tryz.results22, go_sem, c4, f4, c2, f2, hzw2, show w.heap.size < w4.heap.size by omega, zAt]) rfl ?_
    exact ⟨rfl, by (repeat (first | (with_reducible refine below_set ?_ (by first | exact Nat.le_refl _ | omega) _ _) | with_reducible exact Below.refl _ _ | with_reducible refine belowA ?_ _ | with_reducible refine below_own' ?_ hb4 | with_reducible refine below_own' ?_ hb3 | with_reducible refine below_own' ?_ hb2 | with_reducible refine belowD ?_ | with_reducible refine belowN ?_ _))⟩
  · have hvl : (vs.toList == s.toList) = true := by simpa [toList_inj] using hv
    rw [if_pos (by simpa using hv)]
    go_enter Tryz.func22, Tryz.ntmps22
    go_wp2_with (first
      | (go_at_call 45; refine Calls.mono (textA_any x _ (HL.out.below ?_) HF.out (by rw [HRX.out]) (pow_below HP.out ?_)) ?_; (focus ((repeat (first | (with_reducible refine below_set ?_ (by first | exact Nat.le_refl _ | omega) _ _) | with_reducible exact Below.refl _ _ | with_reducible refine belowA ?_ _ | with_reducible refine below_own' ?_ hb3 | with_reducible refine belowD ?_ | with_reducible refine belowN ?_ _)); done)); (focus ((repeat (first | (with_reducible refine below_set ?_ (by first | exact Nat.le_refl _ | omega) _ _) | with_reducible exact Below.refl _ _ | with_reducible refine belowA ?_ _ | with_reducible refine below_own' ?_ hb3 | with_reducible refine below_own' ?_ hb2 | with_reducible refine belowD ?_ | with_reducible refine belowN ?_ _)); done)); rintro e w4 ⟨rfl, hb4⟩; rw [HTX.out]; have c4 := fun j => (rdCell hb4 w.heap.size (by omega) j).trans (c3 j); have f4 := fun j => (rdFree hb4 w.heap.size (by omega) j).trans (f3 j); have d4 := fun j => (rdCell hb4 w2.heap.size (by omega) j).trans (d3 j); have hzw4 : w2.heap.size < w4.heap.size := Nat.lt_of_lt_of_le hzw3 hb4.size)
      | (go_at_call 44; refine Calls.mono (isRight_any x _ (HL.out.below ?_) HF.out) ?_; (focus ((repeat (first | (with_reducible refine below_set ?_ (by first | exact Nat.le_refl _ | omega) _ _) | with_reducible exact Below.refl _ _ | with_reducible refine belowA ?_ _ | with_reducible refine belowD ?_ | with_reducible refine belowN ?_ _)); done)); rintro e w3 ⟨rfl, hb3⟩; rw [HRX.out]; have c3 := rdCell hb3 w.heap.size (by simp; omega); have f3 := rdFree hb3 w.heap.size (by simp; omega); have d3 := rdCell hb3 w2.heap.size (by simp); have hzw3 : w2.heap.size < w3.heap.size := (by have := Below.size hb3; simp at this; omega))
      | (go_at_call 43; refine Calls.mono (HG.out _ ?_) ?_; (focus ((repeat (first | (with_reducible refine below_set ?_ (by first | exact Nat.le_refl _ | omega) _ _) | with_reducible exact Below.refl _ _ | with_reducible refine belowA ?_ _ | with_reducible refine belowD ?_ | with_reducible refine belowN ?_ _)); done)); rintro e w2 ⟨x, rfl, hd, hl, hf, hfr, hb2⟩; have HRX : Hid (rightA x = _) := Lib.hid (by rw [rightA_D, hd, ← HR.out]); have HTX : Hid ((⟨(valD x.dat).toArray⟩ : ByteArray) = vs) := Lib.hid (by rw [hd, HVS.out]); have c2 := rdCell hb2 w.heap.size (by first | (simp; done) | (simp; omega)); have f2 := rdFree hb2 w.heap.size (by first | (simp; done) | (simp; omega)); have hzw2 : w.heap.size < w2.heap.size := (by have := Below.size hb2; simp at this; omega); have HL := Lib.hid hl; have HF := Lib.hid hf; have HD := Lib.hid hd; have HFR := Lib.hid hfr; clear hl hf hd hfr)
      | (go_at_call 42; refine (isName_any nm _).mono ?_; rintro e w1 ⟨rfl, rfl⟩; rw [HN.out]))
    refine bodyPost_ret (v := .tuple #[x.val, .int .i64 0]) (by simp [results, Tryz.results22, go_sem, c4, f4, c2, f2, hzw2, show w.heap.size < w4.heap.size by omega]) rfl ?_
    have hbw : Below w.heap.size w w4 := by (repeat (first | (with_reducible refine below_set ?_ (by first | exact Nat.le_refl _ | omega) _ _) | with_reducible exact Below.refl _ _ | with_reducible refine belowA ?_ _ | with_reducible refine below_own' ?_ hb4 | with_reducible refine below_own' ?_ hb3 | with_reducible refine below_own' ?_ hb2 | with_reducible refine belowD ?_ | with_reducible refine belowN ?_ _))
    have hgr := six_grown w4 w.heap.size 0 x
    have hb24 : Below w2.heap.size w2 w4 := below_own' (by (repeat (first | (with_reducible refine below_set ?_ (by first | exact Nat.le_refl _ | omega) _ _) | with_reducible exact Below.refl _ _ | with_reducible refine belowA ?_ _ | with_reducible refine below_own' ?_ hb3 | with_reducible refine belowD ?_ | with_reducible refine belowN ?_ _))) hb4
    refine ⟨x, rfl, HD.out, ((HL.out.below hb24).grown hgr fun y hy e => ?_), HF.out, fun y hy => ?_, hbw.grown hgr hbw.size (fun t e => by cases e; exact Nat.le_refl _)⟩
    · have h1 := HFR.out y hy
      have h2 := Option.some.inj e
      simp at h1; omega
    · have h1 := HFR.out y hy
      have h2 : (six w4 w.heap.size 0 x).heap.size = w4.heap.size := by simp [six, World.setCell]
      have h3 := hb24.size
      have h4 := h1.1
      have h5 := h1.2
      simp at h4
      refine ⟨by omega, ?_⟩
      show y.block < (six w4 w.heap.size 0 x).heap.size
      omega
end Go.Proofs.YtmepjbjmjbpchaaGreatDoor
end
section
/- attrs.Parse over what attrs.Read gives at the pieces. -/
namespace Go.Proofs.YtmepjbjmjbpchaaGreatDoor
open Go Go.RowKit Go.Sort
set_option linter.unusedVariables false
set_option linter.unusedSimpArgs false

/-- The name and the string of a value that a piece holds. -/
def nmOf (p : ByteArray) : ByteArray := ⟨(Lib.cut (Lib.trimPrefix p.data.toList [32]) [32, 61, 32]).1.toArray⟩
def vlOf (p : ByteArray) : ByteArray := ⟨(Lib.cut (Lib.trimPrefix p.data.toList [32]) [32, 61, 32]).2.1.toArray⟩
def RdAny (o : Option Dat) (w : World) (e : Ending) (w' : World) : Prop := ∃ n : Int, n ≠ 0 ∧ RdPost o n w e w'
def readAll (F : ByteArray → Option Dat) : List ByteArray → Option (List Dat)
  | [] => some []
  | p :: r => match F p with | none => none | some d => (readAll F r).map (d :: ·)
theorem readAll_snoc (F : ByteArray → Option Dat) (p : ByteArray) : ∀ l : List ByteArray, readAll F (l ++ [p]) = (readAll F l).bind fun ds => (F p).map fun d => ds ++ [d]
  | [] => by simp [readAll]; cases F p <;> rfl
  | q :: r => by
    rw [List.cons_append]
    unfold readAll
    cases F q with
    | none => rfl
    | some d =>
      rw [readAll_snoc F p r]
      cases readAll F r with
      | none => rfl
      | some ds => cases F p <;> rfl
theorem readAll_none (F : ByteArray → Option Dat) : ∀ (l m : List ByteArray), readAll F l = none → readAll F (l ++ m) = none
  | [], m, h => by cases h
  | q :: r, m, h => by
    rw [List.cons_append]
    unfold readAll at h ⊢
    cases hq : F q with
    | none => rfl
    | some d =>
      rw [hq] at h
      cases hr : readAll F r with
      | none => simp only [readAll_none F r m hr]; rfl
      | some ds => rw [hr] at h; cases h
def atrOf (d : Dat) : Atr := ⟨d.name, d.kind, d.num, d.text, none, d.ints, 0, none, d.texts, 0⟩
/-- What Parse answers at the attributes of all pieces. -/
def parseOk (o : Option (List Dat)) (s : ByteArray) : Option (List Dat) := o.bind fun ds => if rightL (ds.map atrOf) && decide (listD ds = s.data.toList) then some ds else none
theorem rightL_D (l : List Atr) : rightL l = rightL ((l.map Atr.dat).map atrOf) := by
  have h : ∀ j, okAt l j = okAt ((l.map Atr.dat).map atrOf) j := by
    intro j
    unfold okAt
    rw [List.map_map, List.getElem?_map]
    cases l[j]? with
    | none => rfl
    | some a =>
      cases j with
      | zero => rfl
      | succ k =>
        simp only [Option.map_some, List.getElem?_map]
        cases l[k]? <;> rfl
  unfold rightL
  rw [List.length_map, List.length_map, funext h]
def PsPost (o : Option (List Dat)) (w : World) (e : Ending) (w' : World) : Prop :=
  Below w.heap.size w w' ∧ match o with
  | some ds => ∃ v l, e = .returned (.tuple #[v, .int .i64 0]) ∧ AtrOwn w' w.heap.size v l ∧ l.map Atr.dat = ds
  | none => e = .returned (.tuple #[.slice none 0 0, .int .i64 70])
theorem pcs_len (s : ByteArray) : ∀ (n pos : Nat) (d : Int) (q : Bool) (f : Nat) (k : Bool), (pcs s n pos d q f k).length ≤ n + 1
  | 0, _, _, _, _, _ => by simp [pcs]
  | n + 1, pos, d, q, f, k => by
    unfold pcs
    have ih := pcs_len s n
    repeat' split
    all_goals first | (refine Nat.le_trans (ih _ _ _ _ _) (by omega)) | (simp only [List.length_cons]; exact Nat.succ_le_succ (ih _ _ _ _ _)) | simp
set_option maxRecDepth 100000 in
set_option maxHeartbeats 8000000 in
theorem parse_of (F : ByteArray → Option Dat) (s : ByteArray) (w : World) (h2 : 2 ≤ s.size) (hs : s.size ≤ 1099511627) (ha : (s[0]'(by omega)).toNat = 123) (hb : (s[s.size - 1]'(by omega)).toNat = 125) (hG : Glob w)
    (hR : ∀ p ∈ piecesB (s.extract 1 (s.size - 1)), p.size < 4294967281 ∧ ∀ W, Below w.heap.size w W → Calls Tryz.prog 22 #[.string (nmOf p), .string (vlOf p)] W (RdAny (F p) W)) :
    Calls Tryz.prog 25 #[.string s] w (PsPost (parseOk (readAll F (piecesB (s.extract 1 (s.size - 1)))) s) w) := by
  obtain ⟨i0, hin, hz0, hz1, hz2⟩ := info_parts (show (Tryz.prog.info? 27).map (fun i => (i.zero, i.size, i.bytes)) = some (some zAttr, 6, 96) by kernel_rfl)
  obtain ⟨b, hbd⟩ : ∃ b, b = s.extract 1 (s.size - 1) := ⟨_, rfl⟩
  rw [← hbd] at hR ⊢
  have hbz : b.size ≤ s.size := by rw [hbd]; simp; omega
  obtain ⟨N, hNd⟩ : ∃ N, N = (piecesB b).length := ⟨_, rfl⟩
  have hN9 : N ≤ 1099511628 := by rw [hNd]; have := pcs_len b b.size 0 0 false 0 false; unfold piecesB; omega
  have HR := Lib.hid hR
  have HG := Lib.hid hG
  have HBD := Lib.hid hbd
  have HN := Lib.hid hNd
  have hpc : Hid (∀ W, Calls Tryz.prog 50 #[.string b] W fun e w' => ∃ sa sc, e = .returned (.slice sa N sc) ∧ Hid (StrSl w' sa (piecesB b)) ∧ Below W.heap.size W w') := Lib.hid (fun W => (pieces_any b W (by omega)).mono fun e w' ⟨sa, sc, he, ho, hb⟩ => ⟨sa, sc, by rw [he, hNd], Lib.hid (own_strs ho), hb⟩)
  have hne := not_empty (show 0 < s.size by omega)
  have h1 : (1 : Int) ≤ (s.size : Int) := by omega
  have h20 : ¬ ((s.size : Int) < 2) := by omega
  have h21 : (2 : Int) ≤ (s.size : Int) := by omega
  have h22 : (1 : Int) ≤ (s.size : Int) - 1 := by omega
  have h23 : (0 : Int) < (s.size : Int) := by omega
  have hlast : ((s.size : Int) - 1).toNat = s.size - 1 := by omega
  clear hR hG hbd hNd
  go_enter Tryz.func25, Tryz.ntmps25
  go_wp2_with (go_at_call 50; rw [← HBD.out]; refine (hpc.out _).mono ?_; rintro e w1 ⟨sa, sc, rfl, hs1, hb1⟩)
  have HS1 := Lib.hid hs1.out
  have HB1 := Lib.hid hb1
  clear hs1 hb1
  have hzw1 : w.heap.size ≤ w1.heap.size := HB1.out.size
  go_loopw [4, 37] (fun v i wr => ∃ (j : Nat) (pa : Option Addr) (pc : Nat) (l' : List Atr), v = .slice pa j pc ∧ j = l'.length ∧ i = .int .i64 j ∧ j ≤ N ∧ AtrOwn wr w1.heap.size (.slice pa j pc) l' ∧ readAll F ((piecesB b).take j) = some (l'.map Atr.dat) ∧ Below w1.heap.size w1 wr) (fun _ i _ => N - (intOf i).toNat)
  case atStart => exact ⟨0, none, 0, [], rfl, rfl, rfl, Nat.zero_le _, AtrOwn.emp _ _, rfl, Below.refl _ _⟩
  case round =>
    obtain ⟨j, pa, pc, l', rfl, hn, rfl, hj, ho, hra, hb⟩ := hrel
    have HLN := Lib.hid hn
    have HO := Lib.hid ho
    have HRA := Lib.hid hra
    have HB := Lib.hid hb
    have HOW : Hid (∀ W, Below wr.heap.size wr W → W.ownsRow w1.heap.size 27 6 (.slice pa j pc) j (l'.flatMap Atr.cells)) := Lib.hid fun W h => by have := (HO.out.below h).own; rwa [← HLN.out] at this
    clear hn ho hra hb
    rcases Nat.lt_or_ge j N with hlt | hge
    · have hjl : j < (piecesB b).length := by rw [← HN.out]; exact hlt
      obtain ⟨g, off, rfl, hcell⟩ := (HS1.out.below HB.out).at hjl
      obtain ⟨p, hp⟩ : ∃ p, p = (piecesB b)[j] := ⟨_, rfl⟩
      rw [← hp] at hcell
      have hpm : p ∈ piecesB b := by rw [hp]; exact List.getElem_mem _
      obtain ⟨hpz, hrd⟩ := HR.out p hpm
      have hTK : Hid ((piecesB b).take (j + 1) = (piecesB b).take j ++ [p]) := Lib.hid (by rw [List.take_succ_eq_append_getElem hjl, hp])
      obtain ⟨tq, htq⟩ : ∃ tq : ByteArray, tq = ⟨(Lib.trimPrefix p.data.toList [32]).toArray⟩ := ⟨_, rfl⟩
      obtain ⟨nm, hnm⟩ : ∃ nm, nm = nmOf p := ⟨_, rfl⟩
      obtain ⟨vl, hvl⟩ : ∃ vl, vl = vlOf p := ⟨_, rfl⟩
      have HTRIM : Hid (∀ W, Calls Tryz.prog 52 #[.string p, .string ⟨#[32]⟩] W fun e w' => e = .returned (.string tq) ∧ W = w') := Lib.hid (fun W => (Tryz.strings_TrimPrefix p ⟨#[32]⟩ W).mono fun e w' ⟨he, hw⟩ => ⟨by rw [he, htq], hw.symm⟩)
      have htz : tq.size < 4294967281 := by
        have h1 : (Lib.trimPrefix p.data.toList [32]).length ≤ p.data.toList.length := by unfold Lib.trimPrefix; split <;> simp
        have h2 : tq.size = (Lib.trimPrefix p.data.toList [32]).length := by rw [htq]; rfl
        have h3 : p.data.toList.length = p.size := by rw [Array.length_toList]; rfl
        omega
      have HCUT : Hid (∀ W, Below w.heap.size w W → Calls Tryz.prog 51 #[.string tq, .string ⟨#[32, 61, 32]⟩] W fun e w' => ∃ f, e = .returned (.tuple #[.string nm, .string vl, .bool f]) ∧ Below W.heap.size W w') := Lib.hid (fun W hW => by
        obtain ⟨m, hm⟩ := (HG.out.below hW).len
        refine (Tryz.strings_Cut tq ⟨#[32, 61, 32]⟩ m W htz hm).mono ?_
        rintro e w' ⟨he, k, hw⟩
        refine ⟨(Lib.cut tq.data.toList [32, 61, 32]).2.2, ?_, by rw [hw]; exact below_drewN (Below.refl _ _) k⟩
        rw [he, hnm, hvl, htq]; rfl)
      rw [← hnm, ← hvl] at hrd
      have HRD := Lib.hid hrd
      have hj0 : (0 : Int) ≤ (j : Int) := by omega
      have hjN : (j : Int) < (N : Int) := by omega
      clear hrd hpm hp htq hnm hvl htz hpz
      obtain ⟨o, ho⟩ : ∃ o, o = F p := ⟨_, rfl⟩
      have HFO := Lib.hid ho
      rw [← ho] at HRD
      clear ho
      cases o with
      | none =>
        have HRN : Hid (∀ W, Below w.heap.size w W → Calls Tryz.prog 22 #[.string nm, .string vl] W fun e w' => ∃ n : Int, (n == 0) = false ∧ e = .returned (.tuple #[.agg #[.string ⟨#[]⟩, .int .i64 0, .int .i64 0, .string ⟨#[]⟩, .slice none 0 0, .slice none 0 0], .int .i64 n]) ∧ Below W.heap.size W w') := Lib.hid fun W hW => (HRD.out W hW).mono fun e w' ⟨n, h1, h2, h3⟩ => ⟨n, by simpa using h1, h2, h3⟩
        go_wp2_with (first
          | (go_at_call 22; refine Calls.mono (HRN.out _ ?_) ?_; (focus ((repeat (first | (with_reducible refine below_set ?_ (by first | exact Nat.le_refl _ | omega) _ _) | with_reducible exact Below.refl _ _ | with_reducible refine belowA ?_ _ | with_reducible refine below_own' ?_ hb3 | with_reducible refine below_own' ?_ HB.out | with_reducible refine below_own' ?_ HB1.out | with_reducible refine belowD ?_ | with_reducible refine belowN ?_ _)); done)); rintro e w4 ⟨n4, hn4, rfl, hb4⟩)
          | (go_at_call 51; refine Calls.mono (HCUT.out _ ?_) ?_; (focus ((repeat (first | (with_reducible refine below_set ?_ (by first | exact Nat.le_refl _ | omega) _ _) | with_reducible exact Below.refl _ _ | with_reducible refine belowA ?_ _ | with_reducible refine below_own' ?_ HB.out | with_reducible refine below_own' ?_ HB1.out | with_reducible refine belowD ?_ | with_reducible refine belowN ?_ _)); done)); rintro e w3 ⟨f3, rfl, hb3⟩)
          | (go_at_call 52; refine (HTRIM.out _).mono ?_; rintro e w2 ⟨rfl, rfl⟩))
        have HFN : Hid (readAll F (piecesB b) = none) := Lib.hid (by
          rw [← List.take_append_drop (j + 1) (piecesB b)]
          refine readAll_none F _ _ ?_
          rw [hTK.out, readAll_snoc, ← HFO.out]
          cases readAll F ((piecesB b).take j) <;> rfl)
        go_ret2
        refine ⟨by (repeat (first | (with_reducible refine below_set ?_ (by first | exact Nat.le_refl _ | omega) _ _) | with_reducible exact Below.refl _ _ | with_reducible refine belowA ?_ _ | with_reducible refine below_own' ?_ hb4 | with_reducible refine below_own' ?_ hb3 | with_reducible refine below_own' ?_ HB.out | with_reducible refine below_own' ?_ HB1.out | with_reducible refine belowD ?_ | with_reducible refine belowN ?_ _)), ?_⟩
        rw [HFN.out]
        rfl
      | some D =>
        have HRS : Hid (∀ W, Below w.heap.size w W → Calls Tryz.prog 22 #[.string nm, .string vl] W fun e w' => ∃ a : Atr, e = .returned (.tuple #[a.val, .int .i64 0]) ∧ a.dat = D ∧ a.Lies w' ∧ a.Fits ∧ (∀ x, (a.ia = some x ∨ a.ta = some x) → W.heap.size ≤ x.block ∧ x.block < w'.heap.size) ∧ Below W.heap.size W w') := Lib.hid fun W hW => (HRD.out W hW).mono fun e w' ⟨n, h1, h2⟩ => h2
        go_wp2_with (first
          | (at_builtin; refine wpList_append_own_at _ rfl _ _ 22 rfl w1.heap.size 27 i0 zAttr 6 96 Tryz.underlying22 hin hz0 hz1 hz2 rfl (by decide) (.slice pa j pc) j (l'.flatMap Atr.cells) (by simp [Act.eval]) (HOW.out _ (by (repeat (first | (with_reducible refine below_set ?_ (by first | exact Nat.le_refl _ | omega) _ _) | with_reducible exact Below.refl _ _ | with_reducible refine belowA ?_ _ | with_reducible refine below_own' ?_ hb4 | with_reducible refine below_own' ?_ hb3 | with_reducible refine belowD ?_ | with_reducible refine belowN ?_ _)))) ⟨w4.heap.size + 1, 0, none⟩ 1 1 [.string a0.name, .int .i64 a0.kind, .int .i64 a0.num, .string a0.text, .slice a0.ia a0.ints.length a0.ic, .slice a0.ta a0.texts.length a0.tc] (by simp [Act.eval]) rfl ?c1 ?c2 ?c3 ?c4 ?c5 ?_)
          | (go_at_call 22; refine Calls.mono (HRS.out _ ?_) ?_; (focus ((repeat (first | (with_reducible refine below_set ?_ (by first | exact Nat.le_refl _ | omega) _ _) | with_reducible exact Below.refl _ _ | with_reducible refine belowA ?_ _ | with_reducible refine below_own' ?_ hb3 | with_reducible refine below_own' ?_ HB.out | with_reducible refine below_own' ?_ HB1.out | with_reducible refine belowD ?_ | with_reducible refine belowN ?_ _)); done)); rintro e w4 ⟨a0, rfl, hd4, hl4, hf4, hfr4, hb4⟩)
          | (go_at_call 51; refine Calls.mono (HCUT.out _ ?_) ?_; (focus ((repeat (first | (with_reducible refine below_set ?_ (by first | exact Nat.le_refl _ | omega) _ _) | with_reducible exact Below.refl _ _ | with_reducible refine belowA ?_ _ | with_reducible refine below_own' ?_ HB.out | with_reducible refine below_own' ?_ HB1.out | with_reducible refine belowD ?_ | with_reducible refine belowN ?_ _)); done)); rintro e w3 ⟨f3, rfl, hb3⟩)
          | (go_at_call 52; refine (HTRIM.out _).mono ?_; rintro e w2 ⟨rfl, rfl⟩))
        case c1 =>
          intro t u hj
          have hlt6 : t < 6 := by have := (List.getElem?_eq_some_iff.1 hj).1; simpa using this
          have hadd : (⟨w4.heap.size + 1, 0, none⟩ : Addr).add t = ⟨w4.heap.size + 1, 0 + t, none⟩ := by
            unfold Addr.add; split
            · rename_i h; subst h; rfl
            · rfl
          rw [hadd, Nat.zero_add, blkCell (heap_alloc_new' _ _ (by simp))]
          have ht : t = 0 ∨ t = 1 ∨ t = 2 ∨ t = 3 ∨ t = 4 ∨ t = 5 := by omega
          rcases ht with rfl | rfl | rfl | rfl | rfl | rfl <;> simpa using hj
        case c2 =>
          intro u hu
          simp only [List.mem_cons, List.not_mem_nil, or_false] at hu
          rcases hu with rfl | rfl | rfl | rfl | rfl | rfl <;> rfl
        case c3 => unfold maxLen; omega
        case c4 => omega
        case c5 => have h3 := HB.out.size; have h4 := hb3.size; have h5 := hb4.size; simp; omega
        intro v' w7 hown' hgrow _ hat
        have hb6 : Below wr.heap.size wr ((w4.alloc (.cells #[.string a0.name, .int .i64 a0.kind, .int .i64 a0.num, .string a0.text, .slice a0.ia a0.ints.length a0.ic, .slice a0.ta a0.texts.length a0.tc] 27)).alloc (.cells #[.string a0.name, .int .i64 a0.kind, .int .i64 a0.num, .string a0.text, .slice a0.ia a0.ints.length a0.ic, .slice a0.ta a0.texts.length a0.tc] 27)) := by (repeat (first | (with_reducible refine below_set ?_ (by first | exact Nat.le_refl _ | omega) _ _) | with_reducible exact Below.refl _ _ | with_reducible refine belowA ?_ _ | with_reducible refine below_own' ?_ hb4 | with_reducible refine below_own' ?_ hb3 | with_reducible refine belowD ?_ | with_reducible refine belowN ?_ _))
        have hb46 : Below w4.heap.size w4 ((w4.alloc (.cells #[.string a0.name, .int .i64 a0.kind, .int .i64 a0.num, .string a0.text, .slice a0.ia a0.ints.length a0.ic, .slice a0.ta a0.texts.length a0.tc] 27)).alloc (.cells #[.string a0.name, .int .i64 a0.kind, .int .i64 a0.num, .string a0.text, .slice a0.ia a0.ints.length a0.ic, .slice a0.ta a0.texts.length a0.tc] 27)) := by (repeat (first | (with_reducible refine below_set ?_ (by first | exact Nat.le_refl _ | omega) _ _) | with_reducible exact Below.refl _ _ | with_reducible refine belowA ?_ _ | with_reducible refine belowD ?_ | with_reducible refine belowN ?_ _))
        have hlies : a0.Lies _ := hl4.below hb46
        have hszx : (((w4.alloc (.cells #[.string a0.name, .int .i64 a0.kind, .int .i64 a0.num, .string a0.text, .slice a0.ia a0.ints.length a0.ic, .slice a0.ta a0.texts.length a0.tc] 27)).alloc (.cells #[.string a0.name, .int .i64 a0.kind, .int .i64 a0.num, .string a0.text, .slice a0.ia a0.ints.length a0.ic, .slice a0.ta a0.texts.length a0.tc] 27))).heap.size = w4.heap.size + 2 := by simp
        have hnew := AtrOwn.snoc (a := a0) (HO.out.below hb6) hlies hf4 (fun x hx => ⟨by have := (hfr4 x hx).2; omega, fun e => by have h1 := (hfr4 x hx).1; have h2 := (HO.out.own.lt _ e).2; have h3 := hb3.size; omega⟩)
          (by rw [← HLN.out]; exact hown') hgrow hat (by simp)
        obtain ⟨pa', pc', rfl, -⟩ := own_form hown'
        have HNEW := Lib.hid hnew
        have hb7 : Below w1.heap.size w1 w7 := (below_own' HB.out hb6).grown hgrow (below_own' HB.out hb6).size (fun k hk => (HO.out.own.lt k hk).1)
        have HB7 := Lib.hid hb7
        have HRA7 : Hid (readAll F ((piecesB b).take (j + 1)) = some ((l' ++ [a0]).map Atr.dat)) := Lib.hid (by
          rw [hTK.out, readAll_snoc, HRA.out, ← HFO.out, List.map_append, ← hd4]; rfl)
        clear hnew hown' hgrow hat hb6 hb46 hlies hb7 hl4 hfr4
        go_wp2_with fail
        go_roundw
        case rel => exact ⟨j + 1, pa', pc', l' ++ [a0], rfl, by rw [List.length_append, ← HLN.out]; rfl, by go_num, by omega, HNEW.out, HRA7.out, HB7.out⟩
        case measure => simp [intOf]; omega
    · obtain rfl : N = j := by omega
      have HRALL : Hid (readAll F (piecesB b) = some (l'.map Atr.dat)) := Lib.hid (by
        have := HRA.out
        rwa [List.take_of_length_le (by rw [← HN.out]; exact Nat.le_refl _)] at this)
      have hsl := HO.out.sl
      have hck := check_any' pa pc l' wr hsl (by rw [← HLN.out]; omega)
      rw [← HLN.out] at hck
      obtain ⟨r, hr⟩ : ∃ r, r = rightL l' := ⟨_, rfl⟩
      unfold CkPost at hck
      rw [← hr] at hck
      have HCK := Lib.hid hck
      have HR2 := Lib.hid hr
      clear hr hck hsl
      have hpo : Hid (parseOk (readAll F (piecesB b)) s = if r && decide (listD (l'.map Atr.dat) = s.data.toList) then some (l'.map Atr.dat) else none) := Lib.hid (by
        rw [HRALL.out, parseOk, Option.bind_some, ← rightL_D, ← HR2.out])
      cases r with
      | false =>
        go_wp2_with (go_at_call 19; refine HCK.out.mono ?_; rintro e w2 ⟨rfl, hb2⟩; simp only [Bool.false_eq_true, if_false])
        go_ret2
        refine ⟨by (repeat (first | (with_reducible refine below_set ?_ (by first | exact Nat.le_refl _ | omega) _ _) | with_reducible exact Below.refl _ _ | with_reducible refine belowA ?_ _ | with_reducible refine below_own' ?_ hb2 | with_reducible refine below_own' ?_ HB.out | with_reducible refine below_own' ?_ HB1.out | with_reducible refine belowD ?_ | with_reducible refine belowN ?_ _)), ?_⟩
        rw [hpo.out, if_neg (by simp)]
        rfl
      | true =>
        have hmem := rightL_mem HR2.out.symm
        have hlen := rightL_len HR2.out.symm
        obtain ⟨vs, hvs⟩ : ∃ vs : ByteArray, vs = ⟨(listD (l'.map Atr.dat)).toArray⟩ := ⟨_, rfl⟩
        have hve : decide (listD (l'.map Atr.dat) = s.data.toList) = decide (vs = s) := by
          rw [decide_eq_decide, hvs]
          constructor
          · intro h; rw [h]
          · intro h; rw [← h]
        have hpv : Hid (parseOk (readAll F (piecesB b)) s = if true && decide (vs = s) then some (l'.map Atr.dat) else none) := Lib.hid (by rw [hpo.out, hve])
        have hli : ∀ W, Below wr.heap.size wr W → Calls Tryz.prog 53 #[.slice pa N pc] W fun e w' => e = .returned (.string vs) ∧ Below W.heap.size W w' := by
          intro W hW
          have := list_any pa pc l' W (HO.out.below hW).sl hmem hlen (pow_below HG.out.pow (by (repeat (first | (with_reducible refine below_set ?_ (by first | exact Nat.le_refl _ | omega) _ _) | with_reducible exact Below.refl _ _ | with_reducible refine belowA ?_ _ | with_reducible refine below_own' ?_ hW | with_reducible refine below_own' ?_ HB.out | with_reducible refine below_own' ?_ HB1.out | with_reducible refine belowD ?_ | with_reducible refine belowN ?_ _))))
          rw [← HLN.out, ← hvs] at this
          exact this
        have HLI := Lib.hid hli
        clear hmem hlen hvs hve hli
        by_cases hv : vs = s
        · have hvl : (vs.toList == s.toList) = true := by simpa [toList_inj] using hv
          go_wp2_with (first
            | (go_at_call 53; refine Calls.mono (HLI.out _ ?_) ?_; (focus ((repeat (first | (with_reducible refine below_set ?_ (by first | exact Nat.le_refl _ | omega) _ _) | with_reducible exact Below.refl _ _ | with_reducible refine belowA ?_ _ | with_reducible refine below_own' ?_ hb2 | with_reducible refine belowD ?_ | with_reducible refine belowN ?_ _)); done)); rintro e w3 ⟨rfl, hb3⟩)
            | (go_at_call 19; refine HCK.out.mono ?_; rintro e w2 ⟨rfl, hb2⟩; simp only [if_true]))
          go_ret2
          refine ⟨by (repeat (first | (with_reducible refine below_set ?_ (by first | exact Nat.le_refl _ | omega) _ _) | with_reducible exact Below.refl _ _ | with_reducible refine belowA ?_ _ | with_reducible refine below_own' ?_ hb3 | with_reducible refine below_own' ?_ hb2 | with_reducible refine below_own' ?_ HB.out | with_reducible refine below_own' ?_ HB1.out | with_reducible refine belowD ?_ | with_reducible refine belowN ?_ _)), ?_⟩
          rw [hpv.out, if_pos (by simpa using hv)]
          refine ⟨.slice pa N pc, l', rfl, ?_, rfl⟩
          have hbx : Below wr.heap.size wr w3 := by (repeat (first | (with_reducible refine below_set ?_ (by first | exact Nat.le_refl _ | omega) _ _) | with_reducible exact Below.refl _ _ | with_reducible refine belowA ?_ _ | with_reducible refine below_own' ?_ hb3 | with_reducible refine below_own' ?_ hb2 | with_reducible refine belowD ?_ | with_reducible refine belowN ?_ _))
          exact (HO.out.below hbx).mono hzw1
        · have hvl : (vs.toList == s.toList) = false := by simpa [toList_inj] using hv
          go_wp2_with (first
            | (go_at_call 53; refine Calls.mono (HLI.out _ ?_) ?_; (focus ((repeat (first | (with_reducible refine below_set ?_ (by first | exact Nat.le_refl _ | omega) _ _) | with_reducible exact Below.refl _ _ | with_reducible refine belowA ?_ _ | with_reducible refine below_own' ?_ hb2 | with_reducible refine belowD ?_ | with_reducible refine belowN ?_ _)); done)); rintro e w3 ⟨rfl, hb3⟩)
            | (go_at_call 19; refine HCK.out.mono ?_; rintro e w2 ⟨rfl, hb2⟩; simp only [if_true]))
          go_ret2
          refine ⟨by (repeat (first | (with_reducible refine below_set ?_ (by first | exact Nat.le_refl _ | omega) _ _) | with_reducible exact Below.refl _ _ | with_reducible refine belowA ?_ _ | with_reducible refine below_own' ?_ hb3 | with_reducible refine below_own' ?_ hb2 | with_reducible refine below_own' ?_ HB.out | with_reducible refine below_own' ?_ HB1.out | with_reducible refine belowD ?_ | with_reducible refine belowN ?_ _)), ?_⟩
          rw [hpv.out, if_neg (by simpa using hv)]
          rfl
end Go.Proofs.YtmepjbjmjbpchaaGreatDoor
end
section
/- The reference: Digits of any number, Quote. -/
namespace Go.Proofs.YtmepjbjmjbpchaaGreatDoor
open Go Go.RowKit
set_option linter.unusedVariables false
set_option linter.unusedSimpArgs false

set_option maxRecDepth 100000 in
theorem rdigits_any (n : Int) (h0 : -9223372036854775808 ≤ n) (h1 : n ≤ 9223372036854775807) (w : World) : Calls Tryz.prog 60 #[.int .i64 n] w fun e w' => e = .returned (.string (itoaB n)) ∧ w = w' := by
  rcases Int.lt_or_le n 0 with h | h
  · obtain ⟨k, hk⟩ : ∃ k : Nat, n = -(k : Int) := ⟨n.natAbs, by omega⟩
    have hkb : k < 18446744073709551616 := by omega
    have hn := (natural_any k k (Nat.le_refl _) hkb w).mono (R' := fun e w' => ∃ t : ByteArray, e = .returned (.string t) ∧ Hid (t.data.toList = Lib.decDigits k) ∧ t.size ≤ 20 ∧ w = w') fun e w' ⟨he, hw⟩ => ⟨_, he, rfl, by simpa [ByteArray.size] using dig_len hkb, hw⟩
    have HN := Lib.hid hn
    have hw1 : IntKind.u64.wrap (-(IntKind.u64.wrap n)) = (k : Int) := by rw [IntKind.wrap_u64, IntKind.wrap_u64]; omega
    have HE : Hid (Lib.itoa n = 45 :: Lib.decDigits k) := Lib.hid (by unfold Lib.itoa; rw [if_pos h, hk]; simp)
    have h2 : n < 0 := h
    have HK := Lib.hid hk
    clear hn hk
    go_enter Tryz.func60, Tryz.ntmps60
    go_wp2_with (go_at_call 82; refine HN.out.mono ?_; rintro e w' ⟨t, rfl, ht, htl, rfl⟩)
    go_ret
    refine ⟨?_, rfl⟩
    have e1 : (⟨#[45]⟩ ++ t : ByteArray) = itoaB n := by
      apply ByteArray.ext; apply Array.ext'
      simp [itoaB, HE.out, ht.out]
    rw [← e1]; rfl
  · exact digits_any n h h1 w
theorem rhex_any (n : Nat) (h : n < 16) (w : World) : Calls Tryz.prog 83 #[.int .u8 (n : Int)] w fun e w' => e = .returned (.int .u8 ((hexOf n).toNat : Int)) ∧ w = w' := by
  have he : (((hexOf n).toNat : Nat) : Int) = if n < 10 then 48 + (n : Int) else 87 + n := by
    unfold hexOf
    split
    · rw [UInt8.toNat_ofNat']; omega
    · rw [UInt8.toNat_ofNat']; omega
  have HE := Lib.hid he
  clear he
  rcases Nat.lt_or_ge n 10 with hn | hn
  all_goals
    go_enter Tryz.func83, Tryz.ntmps83
    go_wp2_with fail
    go_ret
    refine ⟨?_, rfl⟩
    rw [HE.out]
  · rw [if_pos hn]; rfl
  · rw [if_neg (by omega)]
    exact congrArg (fun z => Ending.returned (.int .u8 z)) (by omega)

theorem rhex_at (z : Int) (n : Nat) (hz : z = (n : Int)) (h : n < 16) (w : World) : Calls Tryz.prog 83 #[.int .u8 z] w fun e w' => e = .returned (.int .u8 ((hexOf n).toNat : Int)) ∧ w = w' := by subst hz; exact rhex_any n h w
/-- A row of bytes of the call's own. -/
structure RowB (w : World) (sa : Option Addr) (sc : Nat) (pre : List UInt8) (W : World) : Prop where
  own : W.ownsRow w.heap.size 5 1 (.slice sa pre.length sc) pre.length (Lib.byteCells pre)
  below : Below w.heap.size w W
theorem RowB.app {w W W3 : World} {sa : Option Addr} {sc k n : Nat} {pre : List UInt8} {v' : Value} (m : List UInt8) (N : Nat) {o : Obj} (h : RowB w sa sc pre W) (hk : k = m.length) (hn : n = pre.length) (hN : n + k = N) (hown : W3.ownsRow w.heap.size 5 1 v' (n + k) (Lib.byteCells pre ++ Lib.byteCells m))
    (hg : (W.alloc o).grownBy W3 (Value.ownBlock (.slice sa n sc))) : ∃ sa' sc', v' = .slice sa' N sc' ∧ RowB w sa' sc' (pre ++ m) W3 := by
  subst hN hk hn
  obtain ⟨sa', sc', rfl⟩ := own_slice hown
  refine ⟨sa', sc', rfl, ?_, (belowA h.below o).grown hg (by simp; have := h.below.size; omega) (fun k hk => (h.own.lt k hk).1)⟩
  rw [Lib.byteCells_append, List.length_append]; exact hown
theorem RowB.conv {w W : World} {sa : Option Addr} {sc n : Nat} {pre : List UInt8} (h : RowB w sa sc pre W) (hn : n = pre.length) (hne : pre ≠ []) : (convert 60 9 (.slice sa n sc)).run Tryz.prog W = .ok (.string ⟨pre.toArray⟩) W := by
  subst hn
  rcases h.own.2 with ⟨h1, h2⟩ | ⟨g, cap, cur, h1, hb, h2, h4, h5, h6, h7⟩
  · exact absurd (List.eq_nil_of_length_eq_zero h2) hne
  · cases h1
    refine run_convert_bytes_back W 60 9 5 ⟨g, 0, none⟩ sc pre Tryz.underlying60 Tryz.underlying5 Tryz.underlying9 (fun j hj => ?_)
    refine h.own.cells (g := g) rfl j _ ?_
    rw [Lib.byteCells, List.getElem?_map, List.getElem?_eq_getElem hj]; rfl

set_option maxRecDepth 100000 in
set_option maxHeartbeats 8000000 in
theorem rquote_any (s : ByteArray) (w : World) (hs : 4 * s.size + 2 ≤ 140737488355328) :
    Calls Tryz.prog 61 #[.string s] w fun e w' => e = .returned (.string ⟨(quoteL s.data.toList).toArray⟩) ∧ Below w.heap.size w w' := by
  obtain ⟨i0, hin, hz0, hz1, hz2⟩ := info_parts (show (Tryz.prog.info? 5).map (fun i => (i.zero, i.size, i.bytes)) = some (some (.int .u8 0), 1, 1) by kernel_rfl)
  have hq : ∀ i, (escL (s.data.toList.take i)).length ≤ 4 * i := fun i => by
    have := escL_len (s.data.toList.take i)
    have h2 : (s.data.toList.take i).length ≤ i := by simp; omega
    omega
  have HQ := Lib.hid hq
  have h0 : RowB w none 0 [] w := ⟨World.ownsRow_nil _ _ _ _, Below.refl _ _⟩
  have H0 := Lib.hid h0
  clear hq h0
  go_enter Tryz.func61, Tryz.ntmps61
  go_wp2_with (at_builtin; refine wpList_append_own _ rfl _ _ 60 rfl w.heap.size 5 i0 (.int .u8 0) 1 1 Tryz.underlying60 hin hz0 hz1 hz2 rfl (by decide) _ _ _ rfl (H0.out.own.alloc _) ⟨w.heap.size, 0, none⟩ 1 1 [.int .u8 34] rfl rfl ?q1c1 ?q1c2 ?q1c3 ?q1c4 ?q1c5 ?_)
  case q1c1 =>
    intro t u hj
    match t, hj with
    | 0, hj => simp at hj; subst hj; simp [Addr.add]
  case q1c2 => intro u hu; simp at hu; rcases hu with rfl <;> rfl
  case q1c3 => simp [maxLen]
  case q1c4 => simp
  case q1c5 => simp
  intro v' w3 hown' hgrow _
  obtain ⟨sa', sc', rfl, hr3⟩ := RowB.app ([34]) 1 H0.out rfl (by first | rfl | simp) rfl hown' hgrow
  have HR3 := Lib.hid hr3
  clear hown' hr3
  go_wp2_with fail
  go_loopw [3, 4] (fun v i wr => ∃ (j : Nat) (sa : Option Addr) (sc : Nat), v = .slice sa (34 :: escL (s.data.toList.take j)).length sc ∧ i = .int .i64 j ∧ j ≤ s.size ∧ RowB w sa sc (34 :: escL (s.data.toList.take j)) wr) (fun _ i _ => s.size - (intOf i).toNat)
  case atStart => exact ⟨0, sa', sc', rfl, rfl, Nat.zero_le _, HR3.out⟩
  case round =>
    clear H0 HR3
    obtain ⟨j, sa, sc, rfl, rfl, hj, hI⟩ := hrel
    have hq := HQ.out j
    obtain ⟨pre, hpre⟩ : ∃ pre, pre = 34 :: escL (s.data.toList.take j) := ⟨_, rfl⟩
    have hpl : pre.length ≤ 4 * j + 1 := by rw [hpre]; simp; omega
    rw [← hpre] at hI ⊢
    have HR := Lib.hid hI
    have hszw := hI.below.size
    have HPRE := Lib.hid hpre
    clear hpre hq hI
    rcases Nat.lt_or_ge j s.size with hjs | hge
    · have hll : j < s.data.toList.length := by simpa using hjs
      have HS : Hid (34 :: escL (s.data.toList.take (j + 1)) = pre ++ escOf (s[j]'hjs)) := Lib.hid (by rw [HPRE.out, escL_snoc hll]; rfl)
      have hx := (s[j]'hjs).toNat_lt
      by_cases c34 : (s[j]'hjs).toNat = 34
      · have hc : s[j]'hjs = 34 := UInt8.toNat_inj.1 c34
        have he : Hid (escOf (s[j]'hjs) = [92, 34]) := Lib.hid (by rw [hc]; rfl)
        clear hc
        go_wp2_with (at_builtin; refine wpList_append_own _ rfl _ _ 60 rfl w.heap.size 5 i0 (.int .u8 0) 1 1 Tryz.underlying60 hin hz0 hz1 hz2 rfl (by decide) _ _ _ rfl (HR.out.own.alloc _) ⟨wr.heap.size, 0, none⟩ 2 2 [.int .u8 92, .int .u8 34] rfl rfl ?q2c1 ?q2c2 ?q2c3 ?q2c4 ?q2c5 ?_)
        case q2c1 =>
          intro t u hj
          match t, hj with
          | 0, hj => simp at hj; subst hj; simp [Addr.add]
          | 1, hj => simp at hj; subst hj; simp [Addr.add]
        case q2c2 => intro u hu; simp at hu; rcases hu with rfl | rfl <;> rfl
        case q2c3 => unfold maxLen; omega
        case q2c4 => omega
        case q2c5 => simp; omega
        intro v' w3 hown' hgrow _
        obtain ⟨sa', sc', rfl, hr3⟩ := RowB.app ([92, 34]) (pre.length + 2) HR.out rfl (by first | rfl | simp) rfl hown' hgrow
        have HR3 := Lib.hid hr3
        clear hown' hr3
        clear c34
        go_wp2_with fail
        go_roundw
        · exact ⟨j + 1, sa', sc', by rw [HS.out, he.out]; simp, by go_num, by omega, by rw [HS.out, he.out]; exact HR3.out⟩
        · simp [intOf]; omega
      · by_cases c92 : (s[j]'hjs).toNat = 92
        · have hc : s[j]'hjs = 92 := UInt8.toNat_inj.1 c92
          have he : Hid (escOf (s[j]'hjs) = [92, 92]) := Lib.hid (by rw [hc]; rfl)
          clear hc
          go_wp2_with (at_builtin; refine wpList_append_own _ rfl _ _ 60 rfl w.heap.size 5 i0 (.int .u8 0) 1 1 Tryz.underlying60 hin hz0 hz1 hz2 rfl (by decide) _ _ _ rfl (HR.out.own.alloc _) ⟨wr.heap.size, 0, none⟩ 2 2 [.int .u8 92, .int .u8 92] rfl rfl ?q3c1 ?q3c2 ?q3c3 ?q3c4 ?q3c5 ?_)
          case q3c1 =>
            intro t u hj
            match t, hj with
            | 0, hj => simp at hj; subst hj; simp [Addr.add]
            | 1, hj => simp at hj; subst hj; simp [Addr.add]
          case q3c2 => intro u hu; simp at hu; rcases hu with rfl | rfl <;> rfl
          case q3c3 => unfold maxLen; omega
          case q3c4 => omega
          case q3c5 => simp; omega
          intro v' w3 hown' hgrow _
          obtain ⟨sa', sc', rfl, hr3⟩ := RowB.app ([92, 92]) (pre.length + 2) HR.out rfl (by first | rfl | simp) rfl hown' hgrow
          have HR3 := Lib.hid hr3
          clear hown' hr3
          clear c92
          go_wp2_with fail
          go_roundw
          · exact ⟨j + 1, sa', sc', by rw [HS.out, he.out]; simp, by go_num, by omega, by rw [HS.out, he.out]; exact HR3.out⟩
          · simp [intOf]; omega
        · have b34 : (((s[j]'hjs).toNat : Int) == 34) = false := by simp; omega
          have b92 : (((s[j]'hjs).toNat : Int) == 92) = false := by simp; omega
          have n34 : ¬ s[j]'hjs = 34 := fun h => c34 (by rw [h]; rfl)
          have n92 : ¬ s[j]'hjs = 92 := fun h => c92 (by rw [h]; rfl)
          by_cases c10 : (s[j]'hjs).toNat = 10
          · have hc : s[j]'hjs = 10 := UInt8.toNat_inj.1 c10
            have he : Hid (escOf (s[j]'hjs) = [92, 110]) := Lib.hid (by rw [hc]; rfl)
            clear hc n34 n92
            go_wp2_with (at_builtin; refine wpList_append_own _ rfl _ _ 60 rfl w.heap.size 5 i0 (.int .u8 0) 1 1 Tryz.underlying60 hin hz0 hz1 hz2 rfl (by decide) _ _ _ rfl (HR.out.own.alloc _) ⟨wr.heap.size, 0, none⟩ 2 2 [.int .u8 92, .int .u8 110] rfl rfl ?q4c1 ?q4c2 ?q4c3 ?q4c4 ?q4c5 ?_)
            case q4c1 =>
              intro t u hj
              match t, hj with
              | 0, hj => simp at hj; subst hj; simp [Addr.add]
              | 1, hj => simp at hj; subst hj; simp [Addr.add]
            case q4c2 => intro u hu; simp at hu; rcases hu with rfl | rfl <;> rfl
            case q4c3 => unfold maxLen; omega
            case q4c4 => omega
            case q4c5 => simp; omega
            intro v' w3 hown' hgrow _
            obtain ⟨sa', sc', rfl, hr3⟩ := RowB.app ([92, 110]) (pre.length + 2) HR.out rfl (by first | rfl | simp) rfl hown' hgrow
            have HR3 := Lib.hid hr3
            clear hown' hr3
            clear c10
            go_wp2_with fail
            go_roundw
            · exact ⟨j + 1, sa', sc', by rw [HS.out, he.out]; simp, by go_num, by omega, by rw [HS.out, he.out]; exact HR3.out⟩
            · simp [intOf]; omega
          · have b10 : (((s[j]'hjs).toNat : Int) == 10) = false := by simp; omega
            have n10 : ¬ s[j]'hjs = 10 := fun h => c10 (by rw [h]; rfl)
            by_cases cx : (s[j]'hjs).toNat < 32 ∨ 126 < (s[j]'hjs).toNat
            · have he : Hid (escOf (s[j]'hjs) = [92, 120, hexOf ((s[j]'hjs).toNat / 16), hexOf ((s[j]'hjs).toNat % 16)]) := Lib.hid (by unfold escOf; rw [if_neg n34, if_neg n92, if_neg n10, if_pos cx])
              clear n34 n92 n10
              have CX := Lib.hid cx
              clear cx
              rcases CX.out with c32 | c126
              all_goals
                go_wp2_with (first | (have tok := tok1; clear tok tok1; go_at_call 83; refine (rhex_at _ ((s[j]'hjs).toNat % 16) ?_ (by omega) _).mono ?_; (focus (first | omega | (rw [Int.tmod_eq_emod_of_nonneg (by omega)]; omega))); rintro e w3 ⟨rfl, rfl⟩) | (go_at_call 83; refine (rhex_at _ ((s[j]'hjs).toNat / 16) ?_ (by omega) _).mono ?_; (focus (first | omega | (rw [u8_keep _ (by omega) (by omega)]; omega))); rintro e w2 ⟨rfl, rfl⟩; have tok1 : True := trivial) | (at_builtin; refine wpList_append_own _ rfl _ _ 60 rfl w.heap.size 5 i0 (.int .u8 0) 1 1 Tryz.underlying60 hin hz0 hz1 hz2 rfl (by decide) _ _ _ rfl (HR.out.own.alloc _) ⟨wr.heap.size, 0, none⟩ 4 4 [.int .u8 92, .int .u8 120, .int .u8 ((hexOf ((s[j]'hjs).toNat / 16)).toNat : Int), .int .u8 ((hexOf ((s[j]'hjs).toNat % 16)).toNat : Int)] rfl rfl ?q5c1 ?q5c2 ?q5c3 ?q5c4 ?q5c5 ?_))
                case q5c1 =>
                  intro t u hj
                  match t, hj with
                  | 0, hj => simp at hj; subst hj; simp [Addr.add]
                  | 1, hj => simp at hj; subst hj; simp [Addr.add]
                  | 2, hj => simp at hj; subst hj; simp [Addr.add]
                  | 3, hj => simp at hj; subst hj; simp [Addr.add]
                case q5c2 => intro u hu; simp at hu; rcases hu with rfl | rfl | rfl | rfl <;> rfl
                case q5c3 => unfold maxLen; omega
                case q5c4 => omega
                case q5c5 => simp; omega
                intro v' w3 hown' hgrow _
                obtain ⟨sa', sc', rfl, hr3⟩ := RowB.app ([92, 120, hexOf ((s[j]'hjs).toNat / 16), hexOf ((s[j]'hjs).toNat % 16)]) (pre.length + 4) HR.out rfl (by first | rfl | simp) rfl hown' hgrow
                have HR3 := Lib.hid hr3
                clear hown' hr3
                go_wp2_with fail
                go_roundw
                · exact ⟨j + 1, sa', sc', by rw [HS.out, he.out]; simp, by go_num, by omega, by rw [HS.out, he.out]; exact HR3.out⟩
                · simp [intOf]; omega
            · have he : Hid (escOf (s[j]'hjs) = [s[j]'hjs]) := Lib.hid (by unfold escOf; rw [if_neg n34, if_neg n92, if_neg n10, if_neg cx])
              clear n34 n92 n10
              have b32 : ¬ ((s[j]'hjs).toNat : Int) < 32 := by omega
              have b126 : ¬ (126 : Int) < ((s[j]'hjs).toNat : Int) := by omega
              clear cx
              go_wp2_with (at_builtin; refine wpList_append_own _ rfl _ _ 60 rfl w.heap.size 5 i0 (.int .u8 0) 1 1 Tryz.underlying60 hin hz0 hz1 hz2 rfl (by decide) _ _ _ rfl (HR.out.own.alloc _) ⟨wr.heap.size, 0, none⟩ 1 1 [.int .u8 ((s[j]'hjs).toNat : Int)] rfl rfl ?q6c1 ?q6c2 ?q6c3 ?q6c4 ?q6c5 ?_)
              case q6c2 => rfl
              case q6c3 => unfold maxLen; omega
              case q6c4 => omega
              case q6c5 => omega
              intro v' w3 hown' hgrow _
              obtain ⟨sa', sc', rfl, hr3⟩ := RowB.app ([s[j]'hjs]) (pre.length + 1) HR.out rfl (by first | rfl | simp) rfl hown' hgrow
              have HR3 := Lib.hid hr3
              clear hown' hr3
              go_wp2_with fail
              go_roundw
              · exact ⟨j + 1, sa', sc', by rw [HS.out, he.out]; simp, by go_num, by omega, by rw [HS.out, he.out]; exact HR3.out⟩
              · simp [intOf]; omega
    · have HL : Hid (j = s.size) := Lib.hid (by omega)
      go_wp2_with (at_builtin; refine wpList_append_own _ rfl _ _ 60 rfl w.heap.size 5 i0 (.int .u8 0) 1 1 Tryz.underlying60 hin hz0 hz1 hz2 rfl (by decide) _ _ _ rfl (HR.out.own.alloc _) ⟨wr.heap.size, 0, none⟩ 1 1 [.int .u8 34] rfl rfl ?q7c1 ?q7c2 ?q7c3 ?q7c4 ?q7c5 ?_)
      case q7c1 =>
        intro t u hj
        match t, hj with
        | 0, hj => simp at hj; subst hj; simp [Addr.add]
      case q7c2 => intro u hu; simp at hu; rcases hu with rfl <;> rfl
      case q7c3 => unfold maxLen; omega
      case q7c4 => omega
      case q7c5 => simp; omega
      intro v' w3 hown' hgrow _
      obtain ⟨sa', sc', rfl, hr3⟩ := RowB.app ([34]) (pre.length + 1) HR.out rfl (by first | rfl | simp) rfl hown' hgrow
      have HR3 := Lib.hid hr3
      clear hown' hr3
      have hconv := HR3.out.conv (n := pre.length + 1) (by simp) (by simp)
      go_wp2_with fail
      go_ret
      refine ⟨?_, HR3.out.below⟩
      have e1 : pre ++ [34] = quoteL s.data.toList := by rw [HPRE.out, HL.out, quoteL, List.take_of_length_le (by simp)]; rfl
      rw [e1]; rfl
end Go.Proofs.YtmepjbjmjbpchaaGreatDoor
end
section
/- The reference: Value. -/
namespace Go.Proofs.YtmepjbjmjbpchaaGreatDoor
open Go Go.RowKit
set_option linter.unusedVariables false
set_option linter.unusedSimpArgs false

section
variable (nm : ByteArray) (n : Int) (tx : ByteArray) (ia : Option Addr) (il ic : Nat) (ta : Option Addr) (tl tc : Nat) (w : World)
theorem rval0 (h0 : -9223372036854775808 ≤ n) (h1 : n ≤ 9223372036854775807) : Calls Tryz.prog 33 #[av nm 0 n tx ia il ic ta tl tc] w fun e w' => e = .returned (.string (itoaB n)) ∧ Below w.heap.size w w' := by
  go_enter Tryz.func33, Tryz.ntmps33
  go_wp2_with (go_at_call 60; refine (rdigits_any n h0 h1 _).mono ?_; rintro e w1 ⟨rfl, rfl⟩)
  go_ret
  exact ⟨rfl, (Below.refl _ w).alloc (Nat.le_refl _) _⟩
theorem rval1 (hs : tx.size ≤ 1000) : Calls Tryz.prog 33 #[av nm 1 n tx ia il ic ta tl tc] w fun e w' => e = .returned (.string ⟨(quoteL tx.data.toList).toArray⟩) ∧ Below w.heap.size w w' := by
  go_enter Tryz.func33, Tryz.ntmps33
  go_wp2_with (go_at_call 61; refine (rquote_any tx _ (by omega)).mono ?_; rintro e w1 ⟨rfl, hb1⟩)
  go_ret
  exact ⟨rfl, below_own hb1⟩
theorem rval2 (hx : tx.size ≤ 140737488351232) : Calls Tryz.prog 33 #[av nm 2 n tx ia il ic ta tl tc] w fun e w' => e = .returned (.string (⟨#[64]⟩ ++ tx)) ∧ Below w.heap.size w w' := by
  go_enter Tryz.func33, Tryz.ntmps33
  go_wp2_with fail
  go_ret
  exact ⟨rfl, (Below.refl _ w).alloc (Nat.le_refl _) _⟩
theorem rval3 : Calls Tryz.prog 33 #[av nm 3 n tx ia il ic ta tl tc] w fun e w' => e = .returned (.string tx) ∧ Below w.heap.size w w' := by
  go_enter Tryz.func33, Tryz.ntmps33
  go_wp2_with fail
  go_ret
  exact ⟨rfl, (Below.refl _ w).alloc (Nat.le_refl _) _⟩
theorem rval5 (ls : List ByteArray) (hs : StrSl w ta ls) (hl : ls.length ≤ 1000) (hsz : ∀ s ∈ ls, s.size ≤ 1000) :
    Calls Tryz.prog 33 #[av nm 5 n tx ia il ic ta ls.length tc] w fun e w' => e = .returned (.string ⟨(40 :: joinS ls ++ [41]).toArray⟩) ∧ Below w.heap.size w w' := by
  have hb0 := (Below.refl w.heap.size w).alloc (Nat.le_refl _) (.cells (avCells nm 5 n tx ia il ic ta ls.length tc) 27)
  have HJ := Lib.hid (rjoin_any ta tc ls _ (hs.below hb0) hl hsz)
  have HB := Lib.hid hb0
  clear hb0 hs hsz
  go_enter Tryz.func33, Tryz.ntmps33
  go_wp2_with (go_at_call 62; refine HJ.out.mono ?_; rintro e w1 ⟨rfl, rfl⟩)
  go_ret
  exact ⟨rfl, HB.out⟩
set_option maxRecDepth 100000 in
set_option maxHeartbeats 2000000 in
theorem rval4 (zs : List Int) (hs : IntSl w ia zs) (hlen : zs.length ≤ 100) (hz : ∀ z ∈ zs, -9223372036854775808 ≤ z ∧ z ≤ 9223372036854775807) :
    Calls Tryz.prog 33 #[av nm 4 n tx ia zs.length ic ta tl tc] w fun e w' => e = .returned (.string ⟨(91 :: (Lib.join ((zs.map itoaB).map (·.data.toList)) [44, 32] ++ [93])).toArray⟩) ∧ Below w.heap.size w w' := by
  have HZ := Lib.hid hz
  obtain ⟨ls, hls⟩ : ∃ ls, ls = zs.map itoaB := ⟨_, rfl⟩
  obtain ⟨N, hN⟩ : ∃ N, N = zs.length := ⟨_, rfl⟩
  rw [← hls, ← hN]
  rw [← hN] at hlen
  have HLN : Hid (ls.length = N) := Lib.hid (by rw [hls, hN]; simp)
  have HLS := Lib.hid hls
  have HN := Lib.hid hN
  have hb0 := (Below.refl w.heap.size w).alloc (Nat.le_refl _) (.cells #[.string nm, .int .i64 4, .int .i64 n, .string tx, .slice ia N ic, .slice ta tl tc] 27)
  have HS := Lib.hid (hs.below hb0)
  have HB := Lib.hid hb0
  clear hb0 hs hz hls hN
  go_enter Tryz.func33, Tryz.ntmps33
  go_wp2_with fail
  go_loop [3, 4] (fun t i => ∃ (j : Nat) (st : ByteArray), j ≤ N ∧ i = .int .i64 j ∧ t = .string st ∧ st.data.toList = 91 :: joinS (ls.take j)) (fun _ i => N - (intOf i).toNat)
  case atStart => exact ⟨0, _, Nat.zero_le _, rfl, rfl, rfl⟩
  case round =>
    obtain ⟨j, st, hj, rfl, rfl, hst⟩ := hrel
    have hsts : st.size ≤ 1100000 := by
      have h1 := joinS_len (ls.take j) (fun s hs => by
        have := List.mem_of_mem_take hs
        rw [HLS.out] at this
        obtain ⟨z, hz, rfl⟩ := List.mem_map.1 this
        have := itoaB_size z (HZ.out z hz).1 (HZ.out z hz).2
        omega)
      have h2 : (ls.take j).length ≤ 100 := by simp; omega
      have h3 := congrArg List.length hst
      have h4 : st.data.toList.length = st.size := by simp
      rw [h4, List.length_cons] at h3
      omega
    have HST := Lib.hid hst
    clear hst
    rcases Nat.lt_or_ge j N with hlt | hge
    · have hl0 : j < zs.length := by rw [← HN.out]; exact hlt
      have hll : j < ls.length := by rw [HLN.out]; exact hlt
      obtain ⟨g, off, rfl, hg, hcell⟩ := HS.out.at hl0
      obtain ⟨z, hze⟩ : ∃ z, z = zs.getD j 0 := ⟨_, rfl⟩
      rw [← hze] at hcell
      have hzj : z = zs[j] := by rw [hze, List.getD_eq_getElem?_getD, List.getElem?_eq_getElem hl0]; rfl
      obtain ⟨z0, z1⟩ := HZ.out z (by rw [hzj]; exact List.getElem_mem _)
      have HX : Hid (itoaB z = ls[j]) := Lib.hid (by simp only [HLS.out, List.getElem_map, hzj])
      obtain ⟨x, hx⟩ : ∃ x, x = itoaB z := ⟨_, rfl⟩
      have hxs : x.size ≤ 21 := by rw [hx]; exact itoaB_size z z0 z1
      have HD : Hid (∀ W : World, Calls Tryz.prog 60 #[.int .i64 z] W fun e w' => e = .returned (.string x) ∧ W = w') := Lib.hid (fun W => by rw [hx]; exact rdigits_any z z0 z1 W)
      rw [← hx] at HX
      have hlt' : (j : Int) < (N : Int) := by omega
      clear hze hzj hx hg
      rcases Nat.eq_zero_or_pos j with h0 | h0
      · have hf := joinS_first (ls := ls) (by omega)
        have HF := Lib.hid hf
        clear hf
        subst h0
        rw [Nat.add_zero] at hcell
        go_wp2_with (go_at_call 60; refine (HD.out _).mono ?_; rintro e w1 ⟨rfl, rfl⟩)
        go_round
        case rel =>
          refine ⟨1, _, hlt, rfl, rfl, ?_⟩
          rw [HF.out, ← HX.out]
          simp [HST.out, joinS, Lib.join_nil]
        case measure => simp [intOf]; omega
      · have hf := joinS_snoc (ls := ls) hll h0
        have HF := Lib.hid hf
        have h0i : (0 : Int) < (j : Int) := by omega
        clear hf
        go_wp2_with (go_at_call 60; refine (HD.out _).mono ?_; rintro e w1 ⟨rfl, rfl⟩)
        go_round
        case rel =>
          refine ⟨j + 1, _, hlt, by simp, rfl, ?_⟩
          rw [HF.out, ← HX.out]
          simp [HST.out]
        case measure => simp [intOf]; omega
    · obtain rfl : N = j := by omega
      go_wp2_with fail
      go_ret
      refine ⟨?_, HB.out⟩
      have e1 : st ++ ⟨#[93]⟩ = ⟨(91 :: (Lib.join (ls.map (·.data.toList)) [44, 32] ++ [93])).toArray⟩ := by
        apply ByteArray.ext
        apply Array.ext'
        have := HST.out
        rw [List.take_of_length_le (by rw [HLN.out]; exact Nat.le_refl _)] at this
        simp [this, joinS]
      exact congrArg (fun t => Ending.returned (.string t)) e1
end
theorem rvalue_any (a : Atr) (w : World) (hl : a.Lies w) (hf : a.Fits) (hr : rightA a = true) :
    Calls Tryz.prog 33 #[a.val] w fun e w' => e = .returned (.string ⟨(valD a.dat).toArray⟩) ∧ Below w.heap.size w w' := by
  obtain ⟨k0, k5⟩ := av_kind_row hr
  have h6 : a.kind = 0 ∨ a.kind = 1 ∨ a.kind = 2 ∨ a.kind = 3 ∨ a.kind = 4 ∨ a.kind = 5 := by omega
  have hown : ownB a = true := by unfold rightA at hr; simp only [Bool.and_eq_true] at hr; exact hr.1.2
  have go : ∀ r : ByteArray, (Calls Tryz.prog 33 #[a.val] w fun e w' => e = .returned (.string r) ∧ Below w.heap.size w w') → r = ⟨(valD a.dat).toArray⟩ →
      Calls Tryz.prog 33 #[a.val] w fun e w' => e = .returned (.string ⟨(valD a.dat).toArray⟩) ∧ Below w.heap.size w w' := by
    intro r h1 h2; rw [← h2]; exact h1
  have hv : ∀ k : Int, a.kind = k → a.val = av a.name k a.num a.text a.ia a.ints.length a.ic a.ta a.texts.length a.tc := by rintro k rfl; rfl
  rcases h6 with h | h | h | h | h | h
  · refine go _ (by rw [hv _ h]; exact rval0 _ _ _ _ _ _ _ _ _ w hf.num.1 hf.num.2) ?_
    simp [valD, Atr.dat, h, itoaB]
  · refine go _ (by rw [hv _ h]; exact rval1 _ _ _ _ _ _ _ _ _ w (by simpa [ownB, h] using hown)) ?_
    simp [valD, Atr.dat, h]
  · refine go _ (by rw [hv _ h]; exact rval2 _ _ _ _ _ _ _ _ _ w hf.text) ?_
    apply ByteArray.ext; apply Array.ext'
    simp [valD, Atr.dat, h]
  · refine go _ (by rw [hv _ h]; exact rval3 _ _ _ _ _ _ _ _ _ w) ?_
    simp [valD, Atr.dat, h]
  · refine go _ (by rw [hv _ h]; exact rval4 _ _ _ _ _ _ _ _ w a.ints hl.ints (by simp [ownB, h] at hown; exact hown.1) hf.ints) ?_
    simp [valD, Atr.dat, h]
  · have h1 : a.texts.length ≤ 100 ∧ ∀ x ∈ a.texts, isTyB x = true := by simp [ownB, h] at hown; exact ⟨hown.1.1, hown.1.2⟩
    have h2 : ∀ s ∈ a.texts, s.size ≤ 1000 := fun s hs => by
      have := goodTy_len (s := s) (by rw [badTy_eq, h1.2 s hs]; rfl)
      simp at this; omega
    have h3 : a.texts.any badTy = false := by
      rw [List.any_eq_false]; intro x hx; rw [badTy_eq, h1.2 x hx]; simp
    refine go _ (by rw [hv _ h]; exact rval5 _ _ _ _ _ _ _ _ w a.texts hl.texts (by omega) h2) ?_
    have h4 : ¬ 100 < a.texts.length := by omega
    simp [valD, Atr.dat, h, joinOf, h3, h4, joinS]
end Go.Proofs.YtmepjbjmjbpchaaGreatDoor
end
section
/- A region that draws its order: a slot that only a late operation writes is read as it was. -/
set_option linter.unusedVariables false
set_option linter.unusedSimpArgs false
namespace Go.Proofs.YtmepjbjmjbpchaaGreatDoor
open Go

/-- Operation k has not come up. -/
def Late (k : Nat) (listed : Array Bool) : Prop := listed.getD k true = false
theorem late_start {k s : Nat} (h : k < s) : Late k (Array.replicate s false) := by simp [Late, h]
theorem late_set {i k : Nat} {listed : Array Bool} (h : Late k listed) (hne : i ≠ k) : Late k (listed.setIfInBounds i true) := by
  unfold Late at h ⊢
  rw [Array.getD_eq_getD_getElem?] at h ⊢
  rw [Array.getElem?_setIfInBounds_ne hne]; exact h
def onlyDst (ops : Array Oper) (d k : Nat) : Bool := (List.range ops.size).all fun j => j == k || (ops[j]?.bind (·.dst)) != some d
theorem Agrees.eval_late {ops : Array Oper} {V : Nat → Value} {a0 a : Act} {listed : Array Bool} (h : Agrees ops V a0 listed a) {d k : Nat} (ho : onlyDst ops d k = true) (hl : Late k listed) : a.eval (.tmp d) = a0.eval (.tmp d) := by
  have := h.old d fun j o hj hlj hd => by
    have hjs : j < ops.size := (Array.getElem?_eq_some_iff.1 hj).1
    have h1 := List.all_eq_true.1 ho j (List.mem_range.2 hjs)
    rw [hj] at h1
    simp [hd] at h1
    subst h1
    unfold Late at hl
    rw [getD_both hl] at hlj; cases hlj
  simp only [Act.eval, Array.getD_eq_getD_getElem?, this]
end Go.Proofs.YtmepjbjmjbpchaaGreatDoor
end
