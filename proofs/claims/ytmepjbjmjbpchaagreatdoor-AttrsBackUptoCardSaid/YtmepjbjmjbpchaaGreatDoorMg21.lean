/- Texts of this claim, laid together: AqJ, Lwe0, AqK, Post, Roa0, Roa1. -/
import Derived.Test.YtmepjbjmjbpchaaGreatDoorProg
import Derived.ProofKit
import Derived.OpenShut
import Derived.Carry
import Derived.WalkKit
import Derived.SizedLaws
import Derived.SliceStrings
import Derived.ChangeSlices
import Derived.Deep.Slices
import Derived.Deep.Fields
import Derived.Deep.DeepHandedRow
import Derived.Test.YtmepjbjmjbpchaaGreatDoorCards
import Derived.Test.YtmepjbjmjbpchaaGreatDoorTie
import Derived.Deep.DeepWitnessRowRef
import Derived.Lib.LaidTab
import Derived.Test.YtmepjbjmjbpchaaGreatDoorMg4
import Derived.Test.YtmepjbjmjbpchaaGreatDoorMg14
import Derived.Test.YtmepjbjmjbpchaaGreatDoorMg17
import Derived.Test.YtmepjbjmjbpchaaGreatDoorMg20
section
/- attrs.Parse at any string. -/
namespace Go.Proofs.YtmepjbjmjbpchaaGreatDoor
open Go Go.RowKit Go.Sort
set_option linter.unusedVariables false
set_option linter.unusedSimpArgs false

set_option maxRecDepth 100000 in
set_option maxHeartbeats 4000000 in
theorem parse_empty (w : World) : Calls Tryz.prog 25 #[.string ⟨#[]⟩] w (PsPost (some []) w) := by
  go_enter Tryz.func25, Tryz.ntmps25
  go_wp2_with fail
  refine bodyPost_ret (v := .tuple #[.slice none 0 0, .int .i64 0]) (by simp [results, Tryz.results25, go_sem]) rfl ?_
  exact ⟨Below.refl _ _, _, [], rfl, AtrOwn.emp _ _, rfl⟩
set_option maxRecDepth 100000 in
set_option maxHeartbeats 4000000 in
theorem parse_one (s : ByteArray) (w : World) (h1 : s.size = 1) : Calls Tryz.prog 25 #[.string s] w (PsPost none w) := by
  have hne := not_empty (show 0 < s.size by omega)
  have h20 : ((s.size : Int) < 2) := by omega
  go_enter Tryz.func25, Tryz.ntmps25
  go_wp2_with fail
  refine bodyPost_ret (v := .tuple #[.slice none 0 0, .int .i64 70]) (by simp [results, Tryz.results25, go_sem]) rfl ?_
  exact ⟨by (repeat (first | (with_reducible refine below_set ?_ (by first | exact Nat.le_refl _ | omega) _ _) | with_reducible exact Below.refl _ _ | with_reducible refine belowA ?_ _ | with_reducible refine belowD ?_ | with_reducible refine belowN ?_ _)), rfl⟩
set_option maxRecDepth 100000 in
set_option maxHeartbeats 4000000 in
theorem parse_first (s : ByteArray) (w : World) (h2 : 2 ≤ s.size) (hs : s.size ≤ 140737488355328) (ha : (s[0]'(by omega)).toNat ≠ 123) : Calls Tryz.prog 25 #[.string s] w (PsPost none w) := by
  have hne := not_empty (show 0 < s.size by omega)
  have h20 : ¬ ((s.size : Int) < 2) := by omega
  have h21 : (2 : Int) ≤ (s.size : Int) := by omega
  have h23 : (0 : Int) < (s.size : Int) := by omega
  have ha1 : ¬ (((s[0]'(by omega)).toNat : Int) = 123) := by omega
  go_enter Tryz.func25, Tryz.ntmps25
  go_wp2_with fail
  refine bodyPost_ret (v := .tuple #[.slice none 0 0, .int .i64 70]) (by simp [results, Tryz.results25, go_sem]) rfl ?_
  exact ⟨by (repeat (first | (with_reducible refine below_set ?_ (by first | exact Nat.le_refl _ | omega) _ _) | with_reducible exact Below.refl _ _ | with_reducible refine belowA ?_ _ | with_reducible refine belowD ?_ | with_reducible refine belowN ?_ _)), rfl⟩
set_option maxRecDepth 100000 in
set_option maxHeartbeats 4000000 in
theorem parse_last (s : ByteArray) (w : World) (h2 : 2 ≤ s.size) (hs : s.size ≤ 140737488355328) (ha : (s[0]'(by omega)).toNat = 123) (hb : (s[s.size - 1]'(by omega)).toNat ≠ 125) : Calls Tryz.prog 25 #[.string s] w (PsPost none w) := by
  have hne := not_empty (show 0 < s.size by omega)
  have h1 : (1 : Int) ≤ (s.size : Int) := by omega
  have h20 : ¬ ((s.size : Int) < 2) := by omega
  have h21 : (2 : Int) ≤ (s.size : Int) := by omega
  have h22 : (1 : Int) ≤ (s.size : Int) - 1 := by omega
  have h23 : (0 : Int) < (s.size : Int) := by omega
  have hlast : ((s.size : Int) - 1).toNat = s.size - 1 := by omega
  have hb1 : ¬ (((s[s.size - 1]'(by omega)).toNat : Int) = 125) := by omega
  go_enter Tryz.func25, Tryz.ntmps25
  go_wp2_with fail
  refine bodyPost_ret (v := .tuple #[.slice none 0 0, .int .i64 70]) (by simp [results, Tryz.results25, go_sem]) rfl ?_
  exact ⟨by (repeat (first | (with_reducible refine below_set ?_ (by first | exact Nat.le_refl _ | omega) _ _) | with_reducible exact Below.refl _ _ | with_reducible refine belowA ?_ _ | with_reducible refine belowD ?_ | with_reducible refine belowN ?_ _)), rfl⟩
theorem pcs_size (s : ByteArray) : ∀ (n pos : Nat) (d : Int) (q : Bool) (f : Nat) (k : Bool), ∀ p ∈ pcs s n pos d q f k, p.size ≤ s.size
  | 0, _, _, _, f, _ => fun p hp => by
    unfold pcs at hp
    rw [List.mem_singleton.1 hp]
    first | (simp; done) | (simp; omega)
  | n + 1, pos, d, q, f, k => by
    have ih := pcs_size s n
    intro p hp
    unfold pcs at hp
    repeat' split at hp
    all_goals first
      | exact ih _ _ _ _ _ p hp
      | (rcases List.mem_cons.1 hp with rfl | hp
         · first | (simp; done) | (simp; omega)
         · exact ih _ _ _ _ _ p hp)
      | (rw [List.mem_singleton.1 hp]; first | (simp; done) | (simp; omega))
theorem cutL_le (p : ByteArray) : (nmOf p).size ≤ p.size ∧ (vlOf p).size ≤ p.size := by
  have h := Lib.trimPrefix_le p.data.toList [32]
  rw [list_size] at h
  have e : ∀ l : List UInt8, (Lib.cut l [32, 61, 32]).1.length ≤ l.length ∧ (Lib.cut l [32, 61, 32]).2.1.length ≤ l.length := by
    intro l
    unfold Lib.cut
    split
    · first | (simp; done) | (simp; omega)
    · simp
  obtain ⟨e1, e2⟩ := e (Lib.trimPrefix p.data.toList [32])
  unfold nmOf vlOf
  rw [← list_size, ← list_size]
  exact ⟨Nat.le_trans e1 h, Nat.le_trans e2 h⟩
/-- What Parse gives at any string. -/
theorem parse_any (s : ByteArray) (w : World) (hs : s.size ≤ 1099511627) (hg : GlobE w) :
    ∃ o : Option (List Dat), Calls Tryz.prog 25 #[.string s] w (PsPost o w) ∧ (∀ ds, o = some ds → CanL s ds) ∧ (∀ ds, CanL s ds → o = some ds) := by
  by_cases h0 : s.size = 0
  · have e : s = ⟨#[]⟩ := by
      refine bytes_inj (List.eq_nil_of_length_eq_zero ?_)
      rw [list_size, h0]
    subst e
    refine ⟨some [], parse_empty w, fun ds h => ?_, fun ds h => ?_⟩
    · cases h
      exact ⟨rfl, by simp, rfl⟩
    · obtain ⟨-, -, h⟩ := h
      cases ds with
      | nil => rfl
      | cons d ds => simp [listD] at h
  · have key : ∀ ds, CanL s ds → ∃ m, s.data.toList = 123 :: (m ++ [125]) := fun ds h => by
      obtain ⟨-, -, h⟩ := h
      unfold listD at h
      split at h
      · exfalso; apply h0; rw [← list_size, ← h]; rfl
      · exact ⟨_, h.symm⟩
    have no : (∀ m, s.data.toList ≠ 123 :: (m ++ [125])) → Calls Tryz.prog 25 #[.string s] w (PsPost none w) → ∃ o : Option (List Dat), Calls Tryz.prog 25 #[.string s] w (PsPost o w) ∧ (∀ ds, o = some ds → CanL s ds) ∧ (∀ ds, CanL s ds → o = some ds) := fun hm hc =>
      ⟨none, hc, (fun ds h => by cases h), (fun ds h => by obtain ⟨m, h⟩ := key ds h; exact absurd h (hm m))⟩
    by_cases h1 : s.size = 1
    · refine no (fun m h => ?_) (parse_one s w h1)
      have := congrArg List.length h
      rw [list_size, h1] at this
      simp at this
    · have h2 : 2 ≤ s.size := by omega
      by_cases ha : (s[0]'(by omega)).toNat = 123
      · by_cases hb : (s[s.size - 1]'(by omega)).toNat = 125
        · obtain ⟨F, hF⟩ := can_fun
          obtain ⟨p1, p2⟩ := parse_can F hF s h2
          refine ⟨_, parse_of (fun p => F (nmOf p) (vlOf p)) s w h2 hs ha hb hg.glob (fun p hp => ?_), p1, p2⟩
          have hz : p.size ≤ s.size := by
            have := pcs_size _ _ _ _ _ _ _ p hp
            refine Nat.le_trans this ?_
            first | (simp; done) | (simp; omega)
          refine ⟨by omega, fun W hW => ?_⟩
          obtain ⟨c1, c2⟩ := cutL_le p
          refine (readA_any F hF (nmOf p) (vlOf p) W (by omega) (by omega) (hg.below hW)).mono fun e w' h => ?_
          exact ⟨_, by split <;> decide, h⟩
        · refine no (fun m h => hb ?_) (parse_last s w h2 (by omega) ha hb)
          have hl := list_size s
          have h4 : s.data.toList[s.size - 1]? = some 125 := by
            rw [h] at hl
            rw [h, ← hl]
            simp
          rw [Array.getElem?_toList, Array.getElem?_eq_getElem (by show s.size - 1 < s.size; omega)] at h4
          have := Option.some.inj h4
          exact congrArg UInt8.toNat this
      · refine no (fun m h => ha ?_) (parse_first s w h2 (by omega) ha)
        have h4 : s.data.toList[0]? = some 123 := by rw [h]; rfl
        rw [Array.getElem?_toList, Array.getElem?_eq_getElem (by show 0 < s.size; omega)] at h4
        have := Option.some.inj h4
        exact congrArg UInt8.toNat this
end Go.Proofs.YtmepjbjmjbpchaaGreatDoor
end
section
/- AttrsEdits: merges that give the list back. -/
namespace Go.Proofs.YtmepjbjmjbpchaaGreatDoor
open Go Go.RowKit Go.Sort
set_option linter.unusedVariables false
set_option linter.unusedSimpArgs false

/-- A list that comes back with given data. -/
def LsPost (ds : List Dat) (w : World) (e : Ending) (w' : World) : Prop := ∃ sv cv n lv, e = .returned (.tuple #[.slice sv n cv, .int .i64 0]) ∧ n = lv.length ∧ n ≤ cv ∧ AtrSl w' sv lv ∧ lv.map Atr.dat = ds ∧ Below w.heap.size w w'
end Go.Proofs.YtmepjbjmjbpchaaGreatDoor
end
section
/- AttrsBack: what Parse, Print, Read and Value give, by the cases of the law. -/
namespace Go.Proofs.YtmepjbjmjbpchaaGreatDoor
open Go Go.RowKit Go.Sort
set_option linter.unusedVariables false
set_option linter.unusedSimpArgs false

theorem ps_ls {ds : List Dat} {w : World} {e : Ending} {w' : World} (h : PsPost (some ds) w e w') : LsPost ds w e w' := by
  obtain ⟨hb, v, lv, he, ho, hd⟩ := h
  obtain ⟨sv, cv, rfl, hnc, -⟩ := own_form ho.own
  exact ⟨sv, cv, lv.length, lv, he, rfl, hnc, ho.sl, hd, hb⟩
/-- Parse at a string that is a list's. -/
theorem parse_yes (s : ByteArray) (ds : List Dat) (hs : s.size ≤ 1099511627) (hc : CanL s ds) (W : World) (hg : GlobE W) : Calls Tryz.prog 25 #[.string s] W (LsPost ds W) := by
  obtain ⟨o, h1, h2, h3⟩ := parse_any s W hs hg
  rw [h3 ds hc] at h1
  exact h1.mono fun e w' h => ps_ls h
/-- Parse at a string that is no list's. -/
theorem parse_no (s : ByteArray) (hs : s.size ≤ 1099511627) (hc : ∀ ds, ¬ CanL s ds) (W : World) (hg : GlobE W) : Calls Tryz.prog 25 #[.string s] W fun e w' => e = .returned (.tuple #[.slice none 0 0, .int .i64 70]) ∧ Below W.heap.size W w' := by
  obtain ⟨o, h1, h2, h3⟩ := parse_any s W hs hg
  cases o with
  | some ds => exact absurd (h2 ds rfl) (hc ds)
  | none => exact h1.mono fun e w' h => ⟨h.2, h.1⟩
/-- A right list that lies in memory is the list with its string. -/
theorem can_list {l : List Atr} (h : rightL l = true) (hf : ∀ a ∈ l, a.Fits) {s : ByteArray} (hs : s.data.toList = listD (l.map Atr.dat)) : CanL s (l.map Atr.dat) := by
  refine ⟨by rw [← rightL_D]; exact h, fun d hd => ?_, hs.symm⟩
  obtain ⟨a, ha, rfl⟩ := List.mem_map.1 hd
  exact (hf a ha).inR
/-- Print at a list that was read from a string. -/
theorem print_back (s : ByteArray) (ds : List Dat) (hc : CanL s ds) (p : Option Addr) (n c : Nat) (l : List Atr) (W : World) (hs : AtrSl W p l) (hn : n = l.length) (hd : l.map Atr.dat = ds) (hp : Pow W) :
    Calls Tryz.prog 30 #[.slice p n c] W fun e w' => e = .returned (if s.size ≤ 262144 then .tuple #[.string s, .int .i64 0] else .tuple #[.string ⟨#[]⟩, .int .i64 2]) ∧ Below W.heap.size W w' := by
  have hr : rightL l = true := by rw [rightL_D, hd]; exact hc.1
  have hlen := rightL_len hr
  rw [hn]
  refine (print_any p c l W hs (by omega) hp).mono fun e w' h => ?_
  obtain ⟨h1, h2⟩ := h
  rw [hr, if_pos rfl, hd, hc.2.2, list_size] at h1
  refine ⟨?_, h2⟩
  split at h1
  · rename_i h3
    rw [if_pos h3, h1]
  · rename_i h3
    rw [if_neg h3, h1]
/-- Read at the string of an attribute. -/
theorem read_yes (nm s : ByteArray) (D : Dat) (hnm : nm.size ≤ 140737488351232) (hs : s.size ≤ 4294967280) (hc : Can nm s D) (W : World) (hg : GlobE W) :
    Calls Tryz.prog 22 #[.string nm, .string s] W fun e w' => ∃ a : Atr, e = .returned (.tuple #[a.val, .int .i64 0]) ∧ a.Lies w' ∧ a.Fits ∧ a.dat = D ∧ Below W.heap.size W w' := by
  obtain ⟨F, hF⟩ := can_fun
  have h := readA_any F hF nm s W hnm hs hg
  rw [can_F F hF hc] at h
  refine h.mono fun e w' h => ?_
  obtain ⟨a, h1, h2, h3, h4, -, h5⟩ := h
  exact ⟨a, h1, h3, h4, h2, h5⟩
/-- Read at a string that is no attribute's. -/
theorem read_no (nm s : ByteArray) (hnm : nm.size ≤ 140737488351232) (hs : s.size ≤ 4294967280) (hc : ∀ D, ¬ Can nm s D) (hn : nameOf nm.data.toList = true) (W : World) (hg : GlobE W) :
    Calls Tryz.prog 22 #[.string nm, .string s] W fun e w' => e = .returned (.tuple #[zAt, .int .i64 70]) ∧ Below W.heap.size W w' := by
  obtain ⟨F, hF⟩ := can_fun
  have h := readA_any F hF nm s W hnm hs hg
  have hf : F nm s = none := by
    cases hf : F nm s with
    | none => rfl
    | some D => exact absurd ((hF nm s).1 D hf) (hc D)
  rw [hf, if_pos hn] at h
  exact h
/-- Value at an attribute that was read from a string. -/
theorem value_back (nm s : ByteArray) (D : Dat) (hc : Can nm s D) (a : Atr) (W : World) (hl : a.Lies W) (hf : a.Fits) (hd : a.dat = D) (hp : Pow W) :
    Calls Tryz.prog 32 #[a.val] W fun e w' => e = .returned (.tuple #[.string s, .int .i64 0]) ∧ Below W.heap.size W w' := by
  have hr : rightA a = true := by rw [rightA_D, hd]; exact hc.2.1
  refine (value_any a W hl hf hp).mono fun e w' h => ?_
  obtain ⟨h1, h2⟩ := h
  have h3 := valD_len hr hf
  rw [hr, if_pos rfl, if_pos (by omega), hd, hc.2.2.2] at h1
  exact ⟨h1, h2⟩
/-- A right attribute that lies in memory is the attribute with its name and string. -/
theorem can_atr {a : Atr} (h : rightA a = true) (hf : a.Fits) {s : ByteArray} (hs : s.data.toList = valD a.dat) : Can a.name s a.dat :=
  ⟨rfl, h, hf.inR, hs.symm⟩
theorem requal_same (a b : Atr) (W : World) (ha : a.Lies W) (hb : b.Lies W) (fa : a.Fits) (fb : b.Fits) (h : a.dat = b.dat) :
    Calls Tryz.prog 24 #[a.val, b.val] W fun e w' => e = .returned (.bool true) ∧ Below W.heap.size W w' := by
  have := requal_any a b W ha hb fa fb
  rw [sameA_dat, decide_eq_true h] at this
  exact this
end Go.Proofs.YtmepjbjmjbpchaaGreatDoor
end
section
/- A law's answer where the call leaves new blocks, frozen ones among them: of what was there nothing has turned. -/
namespace Go.Proofs.YtmepjbjmjbpchaaGreatDoor
open Go.ChangeShapes Go.WideShapes Go.ChangeAt Go.RowKit
set_option linter.unusedVariables false

section
variable {H : Type} {enc : TypeId × Value → H} {P : Program}
theorem trodAll_stays {enc : TypeId × Value → H} (hl : laidOutB P = true) {W W' : World} {sp' : Nat → Bool} : ∀ (ts : List TypeId) (vs : List Value) (ds : List (DataW H)) (ps : List MemPlace), (∀ t ∈ ts, P.readableRec t = true ∧ t < P.types.size) →
    DataW.TrodAll enc P W 0 (fun _ => true) true ts vs ds ps → (∀ p ∈ ps, W.sameAt W' p) → (∀ p ∈ ps, sp' p.block = true) → DataW.TrodAll enc P W' 0 sp' true ts vs ds ps := by
  intro ts
  induction ts with
  | nil => intro vs ds ps _ h _ _; obtain ⟨rfl, rfl, rfl⟩ := trodAll_nil h; exact trodAll_mk0
  | cons t ts ih =>
    intro vs ds ps hr h hs hp
    obtain ⟨v, vs', d, ds', p, q, rfl, rfl, rfl, h0, r⟩ := trodAll_cons h
    exact trodAll_cons_mk (WideElems.Trod_stays hl (hr t (by simp)).1 (hr t (by simp)).2 h0 (fun x hx => hs x (by simp [hx])) (fun x hx => hp x (by simp [hx])))
      (ih vs' ds' q (fun u hu => hr u (by simp [hu])) r (fun x hx => hs x (by simp [hx])) (fun x hx => hp x (by simp [hx])))
theorem post_below {f : Func} {s : ChangeSpec} {W W' : World} {args : Array Value} {v : Value} {ds : List (DataW H)} {before : List MemPlace}
    (hl : laidOutB P = true) (hr : ∀ t ∈ f.params.toList, P.readableRec t = true ∧ t < P.types.size) (hvs : s.vars = [])
    (hW : DataW.Whole enc P f.params.toList s.vars false W args.toList ds [] before)
    (hfn : s.fn H (ds ++ []) = { results := [.lit (.bool true)], args := ds })
    (hb : Below W.heap.size W W') (t : TypeId) (ht : P.underlying t = some .bool) (hrt : f.resultTypes = #[t]) (hv : v = .bool true) :
    s.post enc P f false true false false W args v W' := by
  have hlt : ∀ p ∈ before, p.block < W.heap.size := fun p hp => hW.lt p hp
  have hW0 := hW
  obtain ⟨p, q, hA, hV, hpq, -, -⟩ := hW0
  rw [hvs] at hV
  obtain ⟨-, hq⟩ := trodVars_none hV
  subst hq
  rw [List.append_nil] at hpq
  subst hpq
  refine ⟨ds, [], before, [], before, [], hW, ?_, ?_, ?_, hb.frame _, fun h => by cases h⟩
  · rw [hfn, hrt, hv]
    exact trodAll_cons_mk (shut_bool ht _) trodAll_mk0
  · rw [hfn]
    exact trodAll_stays hl _ _ _ _ hr hA (fun x hx => hb.same (hlt x hx)) (fun x hx => by simpa using hlt x hx)
  · rw [hfn, hvs]
    rfl
end
end Go.Proofs.YtmepjbjmjbpchaaGreatDoor
end
section
/- An attribute, and a list of attributes, as a row's argument: what the memory holds of them. -/
namespace Go.Proofs.YtmepjbjmjbpchaaGreatDoor
open Go.ChangeShapes Go.WideShapes Go.ChangeAt Go.RowKit
set_option linter.unusedVariables false
set_option linter.unusedSimpArgs false

section
variable {H : Type} {enc : TypeId × Value → H} {W : World}
theorem addr_plain {a : Addr} {n : Nat} {f : Nat → Value} (hcell : ∀ i, i < n → W.cell? (a.add i) = some (f i)) (hn : 0 < n) : ∃ g off, a = ⟨g, off, none⟩ ∧ g < W.heap.size ∧ ∀ j, j < n → W.cell? ⟨g, off + j, none⟩ = some (f j) := by
  obtain ⟨g, off, vw⟩ := a
  have h0 := hcell 0 hn
  have hvw : vw = none ∧ g < W.heap.size := by
    cases hb : W.heap[g]? with
    | none => cases vw <;> simp [World.cell?, Addr.add, hb] at h0
    | some o =>
      refine ⟨?_, blkLt hb⟩
      cases vw with
      | none => rfl
      | some u => cases o <;> simp [World.cell?, Addr.add, hb] at h0
  obtain ⟨rfl, hg⟩ := hvw
  refine ⟨g, off, rfl, hg, fun j hj => ?_⟩
  have had : (Addr.mk g off none).add j = ⟨g, off + j, none⟩ := by
    unfold Addr.add; split
    · rename_i h; subst h; rfl
    · rfl
  rw [← had]; exact hcell j hj
theorem weightsAll_sub {P : Program} {e : TypeId} : ∀ {l : List (DataW H)} {d : DataW H}, d ∈ l → ∀ n ∈ d.weights P e, n ∈ DataW.weightsAll P e l
  | x :: l, d, h, n, hn => by
    simp only [DataW.weightsAll]
    rcases List.mem_cons.1 h with rfl | h
    · exact List.mem_append_left _ hn
    · exact List.mem_append_right _ (weightsAll_sub h n hn)
theorem reach_eq : reachBytes = 140737488351232 := rfl
/-- A slice of numbers as the row reads it. -/
theorem intsF {n : Nat} {v : Value} {x : DataW H × List MemPlace} (hx : DataW.trod enc Tryz.prog W 0 (fun _ => true) true n 24 [v] = some x) (hw : ∀ k ∈ x.1.weights Tryz.prog 24, k ≤ reachBytes) :
    ∃ (a : Option Addr) (zs : List Int) (c : Nat), v = .slice a zs.length c ∧ IntSl W a zs ∧ (∀ z ∈ zs, -9223372036854775808 ≤ z ∧ z ≤ 9223372036854775807) ∧ zs.length ≤ c ∧ zs.length * 8 ≤ 140737488351232 := by
  rcases open_ints Tryz.underlying24 Tryz.underlying2 (by kernel_rfl) hx with ⟨hcs, hx⟩ | ⟨a1, len, cap, zs, hcs, -, hl, hm, hz, hxe, hcell, hwz⟩
  · simp at hcs
    subst hcs
    exact ⟨none, [], 0, rfl, .inl rfl, by simp, by simp, by simp⟩
  · simp only [List.cons.injEq, and_true] at hcs
    subst hcs
    have hz' : zs.length = cap := by simpa using hz
    have hr64 : ∀ z ∈ zs, -9223372036854775808 ≤ z ∧ z ≤ 9223372036854775807 := fun z h => bounds_i64 (hwz z h)
    have hlen : (zs.take len).length = len := by simp; omega
    have hbytes : len * 8 ≤ 140737488351232 := by
      have hb : Tryz.prog.bytesOf 2 = 8 := by kernel_rfl
      have := hw ((len + (zs.length - len)) * 8) (by rw [hxe]; simp only [DataW.weights, Tryz.underlying24]; rw [hb]; refine List.mem_cons.2 (.inl ?_); simp [lits]; omega)
      rw [reach_eq] at this
      omega
    refine ⟨some a1, zs.take len, cap, by rw [hlen], ?_, fun z h => hr64 z (List.mem_of_mem_take h), by omega, by omega⟩
    rcases Nat.eq_zero_or_pos len with rfl | hpos
    · exact .inl rfl
    · obtain ⟨g, off, rfl, hg, hcl⟩ := addr_plain hcell (by omega)
      refine .inr ⟨g, off, rfl, hg, fun j hj => ?_⟩
      have hj' : j < len := by omega
      rw [hcl j (by omega)]
      simp [hj']
/-- A slice of strings as the row reads it. -/
theorem strsF {n : Nat} {v : Value} {x : DataW H × List MemPlace} (hx : DataW.trod enc Tryz.prog W 0 (fun _ => true) true n 25 [v] = some x) (hw : ∀ k ∈ x.1.weights Tryz.prog 25, k ≤ reachBytes) :
    ∃ (a : Option Addr) (zs : List ByteArray) (c : Nat), v = .slice a zs.length c ∧ StrSl W a zs ∧ (∀ z ∈ zs, z.size ≤ 140737488351232) ∧ zs.length ≤ c ∧ zs.length * 16 ≤ 140737488351232 := by
  rcases open_strings Tryz.underlying25 Tryz.underlying9 (by kernel_rfl) hx with ⟨hcs, hx⟩ | ⟨a1, len, cap, zs, hcs, -, hl, hm, hz, hxe, hcell, hwz⟩
  · simp at hcs
    subst hcs
    exact ⟨none, [], 0, rfl, .inl rfl, by simp, by simp, by simp⟩
  · simp only [List.cons.injEq, and_true] at hcs
    subst hcs
    have hz' : zs.length = cap := by simpa using hz
    have hlen : (zs.take len).length = len := by simp; omega
    have hbytes : len * 16 ≤ 140737488351232 := by
      have hb : Tryz.prog.bytesOf 9 = 16 := by kernel_rfl
      have := hw ((len + (zs.length - len)) * 16) (by rw [hxe]; simp only [DataW.weights, Tryz.underlying25]; rw [hb]; refine List.mem_cons.2 (.inl ?_); simp [strs]; omega)
      rw [reach_eq] at this
      omega
    refine ⟨some a1, zs.take len, cap, by rw [hlen], ?_, fun s h => ?_, by omega, by omega⟩
    · rcases Nat.eq_zero_or_pos len with rfl | hpos
      · exact .inl rfl
      · obtain ⟨g, off, rfl, hg, hcl⟩ := addr_plain hcell (by omega)
        refine .inr ⟨g, off, rfl, hg, fun j hj => ?_⟩
        have hj' : j < len := by omega
        rw [hcl j (by omega)]
        rw [List.getElem_take, List.getD_eq_getElem?_getD, List.getElem?_eq_getElem (by omega), Option.getD_some]
    · have := hw s.data.toList.length (by
        rw [hxe]
        simp only [DataW.weights, Tryz.underlying25]
        refine List.mem_cons_of_mem _ (List.mem_append_left _ (weightsAll_sub (d := .lit (.string s.data.toList)) ?_ _ (by simp [DataW.weights])))
        exact List.mem_map.2 ⟨s, h, rfl⟩)
      rw [reach_eq] at this
      simpa using this
theorem strF {n : Nat} {v : Value} {x : DataW H × List MemPlace} (hx : DataW.trod enc Tryz.prog W 0 (fun _ => true) true n 9 [v] = some x) (hw : ∀ k ∈ x.1.weights Tryz.prog 9, k ≤ reachBytes) : ∃ s : ByteArray, v = .string s ∧ s.size ≤ 140737488351232 := by
  obtain ⟨s, hs, hx1, _⟩ := DataW.trod_string Tryz.underlying9 hx
  simp only [List.cons.injEq, and_true] at hs
  refine ⟨s, hs, ?_⟩
  have := hw s.data.toList.length (by rw [hx1]; simp [DataW.weights])
  rw [reach_eq] at this
  simpa using this
theorem intF {n : Nat} {t : TypeId} {v : Value} {x : DataW H × List MemPlace} (ht : Tryz.prog.underlying t = some (.int .i64)) (hx : DataW.trod enc Tryz.prog W 0 (fun _ => true) true n t [v] = some x) : ∃ z : Int, v = .int .i64 z ∧ -9223372036854775808 ≤ z ∧ z ≤ 9223372036854775807 := by
  obtain ⟨z, hz, hx1, hw⟩ := DataW.trod_int ht hx
  simp only [List.cons.injEq, and_true] at hz
  exact ⟨z, hz, bounds_i64 hw⟩
theorem plain_add (g off j : Nat) : (Addr.mk g off none).add j = ⟨g, off + j, none⟩ := by
  unfold Addr.add; split
  · rename_i h; subst h; rfl
  · rfl
set_option maxRecDepth 100000 in
/-- An attribute as the row reads it. -/
theorem attrF {n : Nat} {cs : List Value} {x : DataW H × List MemPlace} (hx : DataW.trod enc Tryz.prog W 0 (fun _ => true) true n 27 cs = some x) (hw : ∀ k ∈ x.1.weights Tryz.prog 27, k ≤ reachBytes) :
    ∃ a : Atr, cs = a.cells ∧ a.Lies W ∧ a.Fits := by
  obtain ⟨xs, m, rfl, hxe, hl, hlen, hf⟩ := DataW.trod_struct Tryz.underlying27 hx
  have hc6 : Tryz.prog.cellsOf 27 = 6 := by kernel_rfl
  rw [hc6] at hl
  have q0 : Tryz.prog.cellsOf 9 = 1 := by kernel_rfl
  have q1 : Tryz.prog.cellsOf 23 = 1 := by kernel_rfl
  have q2 : Tryz.prog.cellsOf 2 = 1 := by kernel_rfl
  have q4 : Tryz.prog.cellsOf 24 = 1 := by kernel_rfl
  have q5 : Tryz.prog.cellsOf 25 = 1 := by kernel_rfl
  match cs, hl with
  | [c0, c1, c2, c3, c4, c5], _ =>
    match xs, hlen with
    | [y0, y1, y2, y3, y4, y5], _ =>
      have f0 : DataW.trod enc Tryz.prog W 0 (fun _ => true) true m 9 [c0] = some y0 := by have := hf 0 _ rfl; simpa [q0] using this
      have f1 : DataW.trod enc Tryz.prog W 0 (fun _ => true) true m 23 [c1] = some y1 := by have := hf 1 _ rfl; simpa [q1] using this
      have f2 : DataW.trod enc Tryz.prog W 0 (fun _ => true) true m 2 [c2] = some y2 := by have := hf 2 _ rfl; simpa [q2] using this
      have f3 : DataW.trod enc Tryz.prog W 0 (fun _ => true) true m 9 [c3] = some y3 := by have := hf 3 _ rfl; simpa [q0] using this
      have f4 : DataW.trod enc Tryz.prog W 0 (fun _ => true) true m 24 [c4] = some y4 := by have := hf 4 _ rfl; simpa [q4] using this
      have f5 : DataW.trod enc Tryz.prog W 0 (fun _ => true) true m 25 [c5] = some y5 := by have := hf 5 _ rfl; simpa [q5] using this
      have hwe : ∀ k ∈ DataW.weightsEach Tryz.prog [9, 23, 2, 9, 24, 25] [y0.1, y1.1, y2.1, y3.1, y4.1, y5.1], k ≤ reachBytes := by
        intro k hk
        refine hw k ?_
        rw [hxe]
        simp only [DataW.weights, Tryz.underlying27]
        exact hk
      obtain ⟨s0, rfl, b0⟩ := strF f0 fun k hk => hwe k (DataW.weights_mem_each (j := 0) rfl rfl k hk)
      obtain ⟨z1, rfl, b1⟩ := intF Tryz.underlying23 f1
      obtain ⟨z2, rfl, b2⟩ := intF Tryz.underlying2 f2
      obtain ⟨s3, rfl, b3⟩ := strF f3 fun k hk => hwe k (DataW.weights_mem_each (j := 3) rfl rfl k hk)
      obtain ⟨a4, l4, k4, rfl, h4, r4, m4, n4⟩ := intsF f4 fun k hk => hwe k (DataW.weights_mem_each (j := 4) rfl rfl k hk)
      obtain ⟨a5, l5, k5, rfl, h5, r5, m5, n5⟩ := strsF f5 fun k hk => hwe k (DataW.weights_mem_each (j := 5) rfl rfl k hk)
      exact ⟨⟨s0, z1, z2, s3, a4, l4, k4, a5, l5, k5⟩, rfl, ⟨h4, h5⟩, ⟨b0, b3, b2, b1, m4, r4, n4, m5, r5, n5⟩⟩
/-- A list of attributes as the row reads it. -/
theorem attrsF {n : Nat} {v : Value} {x : DataW H × List MemPlace} (hx : DataW.trod enc Tryz.prog W 0 (fun _ => true) true n 22 [v] = some x) (hw : ∀ k ∈ x.1.weights Tryz.prog 22, k ≤ reachBytes) :
    ∃ (p : Option Addr) (l : List Atr) (c : Nat), v = .slice p l.length c ∧ AtrSl W p l ∧ l.length ≤ c ∧ l.length ≤ 100000000000000 := by
  rcases Go.Deep.open_slice Tryz.underlying22 hx with ⟨hcs, hx⟩ | ⟨a, len, cap, m, k, D, Pl, hcs, -, hl, hm, hmm, hxe, hi⟩
  · simp at hcs
    subst hcs
    exact ⟨none, [], 0, rfl, ⟨.inl rfl, by simp, by simp⟩, by simp, by simp⟩
  · simp only [List.cons.injEq, and_true] at hcs
    subst hcs
    have hm' : m = cap := by simpa using hmm
    subst hm'
    have hc6 : Tryz.prog.cellsOf 27 = 6 := by kernel_rfl
    have hwe : ∀ z ∈ (len + (m - len)) * 96 :: (DataW.weightsAll Tryz.prog 27 ((List.range len).map D) ++ DataW.weightsAll Tryz.prog 27 ((List.range (m - len)).map fun j => D (len + j))), z ≤ reachBytes := by
      intro z hz
      refine hw z ?_
      rw [hxe]
      have hb : Tryz.prog.bytesOf 27 = 96 := by kernel_rfl
      simp only [DataW.weights, Tryz.underlying22, hb, List.length_map, List.length_range]
      exact hz
    have hbig := hwe _ (List.mem_cons_self ..)
    rw [reach_eq] at hbig
    have key : ∀ i, i < len → ∃ b : Atr, (∀ j, j < 6 → W.cell? ((a.add (i * 6)).add j) = b.cells[j]?) ∧ b.Lies W ∧ b.Fits := by
      intro i h
      obtain ⟨cs', hc, ht⟩ := hi i (by omega)
      rw [hc6] at hc
      obtain ⟨b, rfl, h1, h2⟩ := attrF ht fun z hz => hwe z (List.mem_cons_of_mem _ (List.mem_append_left _ (weightsAll_sub (List.mem_map.2 ⟨i, List.mem_range.2 h, rfl⟩) z hz)))
      exact ⟨b, (World.cells?_some hc).2.2, h1, h2⟩
    have : ∃ V : Nat → Atr, ∀ i, i < len → (∀ j, j < 6 → W.cell? ((a.add (i * 6)).add j) = (V i).cells[j]?) ∧ (V i).Lies W ∧ (V i).Fits := by
      refine ⟨fun i => if h : i < len then Classical.choose (key i h) else ⟨.empty, 0, 0, .empty, none, [], 0, none, [], 0⟩, fun i h => ?_⟩
      have e := Classical.choose_spec (key i h)
      simp only [dif_pos h]
      exact e
    obtain ⟨V, hV⟩ := this
    have hlen : ((List.range len).map V).length = len := by simp
    refine ⟨some a, (List.range len).map V, m, by rw [hlen], ⟨?_, ?_, ?_⟩, by omega, by omega⟩
    · rcases Nat.eq_zero_or_pos len with rfl | hpos
      · exact .inl rfl
      · have h0 := (hV 0 hpos).1 0 (by omega)
        have had : (a.add (0 * 6)).add 0 = a.add 0 := by unfold Addr.add; simp
        rw [had] at h0
        obtain ⟨g, off, rfl, hg, hcl⟩ := addr_plain (W := W) (n := 1) (a := a) (f := fun _ => .string (V 0).name) (by intro i hi; obtain rfl : i = 0 := (by omega); exact h0) (by omega)
        refine .inr ⟨g, off, rfl, hg, fun j hj i hi => ?_⟩
        have := (hV j (by omega)).1 i hi
        rw [plain_add, plain_add] at this
        rw [this]
        simp
    · intro b hb
      obtain ⟨i, hi, rfl⟩ := List.mem_map.1 hb
      exact (hV i (List.mem_range.1 hi)).2.1
    · intro b hb
      obtain ⟨i, hi, rfl⟩ := List.mem_map.1 hb
      exact (hV i (List.mem_range.1 hi)).2.2
end
end Go.Proofs.YtmepjbjmjbpchaaGreatDoor
end
section
/- What every row of the chapter uses: the library's variables as the row lays them, the world of the witness. -/
namespace Go.Proofs.YtmepjbjmjbpchaaGreatDoor
open Go.ChangeShapes Go.WideShapes Go.ChangeAt Go.RowKit
set_option linter.unusedVariables false
set_option linter.unusedSimpArgs false

theorem own : ownKnob Tryz.prog.godebug = none := by kernel_rfl
theorem laid_tail {P : Program} {W : World} {x : String × DataW Unit} {rest : List (String × DataW Unit)} (h : laidMet P (x :: rest) W) : laidMet P rest W := by
  obtain ⟨ps, ⟨g', t', cs, fuel, p, q, hg', ht', hvar, hd, hq, hrest⟩, h2⟩ := h
  subst hrest
  exact ⟨q, hq, (List.nodup_append.1 h2.1).2.1, fun b off hm => h2.2 b off (List.mem_append_right _ hm)⟩
abbrev laidList : List (String × DataW Unit) := Rows.attrsSetsRow.laid
theorem pow_of {W : World} (h : laidMetH Tryz.prog laidList W) : Pow W :=
  Lib.tabIs_of_head (g := 5) (t := 201) (e := 125) (n := 20) (rest := [("unicode/utf8.acceptRanges", Rows.laid_unicode_utf8_acceptRanges), ("strconv.ErrRange", Rows.laid_strconv_ErrRange), ("strconv.ErrSyntax", Rows.laid_strconv_ErrSyntax), ("unicode/utf8.first", Rows.laid_unicode_utf8_first)]) (by kernel_rfl) (by kernel_rfl) (by kernel_rfl) (by kernel_rfl) (by kernel_rfl) (by kernel_rfl) (laid_tail (laid_tail (show laidMet Tryz.prog laidList W from h)))
theorem glob_of {W : World} (h : laidMetH Tryz.prog laidList W) (hsh : W.ShapedOpen Tryz.prog) : Glob W := by
  obtain ⟨m, hm⟩ := Tryz.laysM138.s1_3 W hsh
  refine ⟨pow_of h, ⟨m, hm⟩, ?_⟩
  rcases Nat.eq_zero_or_pos W.heap.size with h0 | h0
  · exfalso
    have : W.heap[0]? = none := Array.getElem?_eq_none (by omega)
    have hm' : W.cell? ⟨0, 0, none⟩ = some (.int .i64 m) := hm
    simp [World.cell?, this] at hm'
  · exact h0
/-- A datum's cells. -/
def flat : DataW Unit → List Value
  | .lit (.int k n) => [.int k n]
  | .agg l => flats l
  | _ => []
where flats : List (DataW Unit) → List Value
  | [] => []
  | x :: l => flat x ++ flats l
noncomputable def layOne (w : World) (x : String × DataW Unit) : World :=
  match Tryz.prog.globalNamed x.1 with
  | some g => { w with heap := w.heap.modify g fun
      | .cells _ t frozen => .cells (flat x.2).toArray t frozen
      | o => o }
  | none => w
/-- A variable that holds an error of a text. -/
noncomputable def layErr (w : World) (g : Nat) (s : ByteArray) : World :=
  { w with heap := (w.heap.modify g fun
      | .cells _ t frozen => .cells #[.iface 182 (.pointer (some ⟨w.heap.size, 0, none⟩))] t frozen
      | o => o).push (.cells #[.string s] 184 (0, 0)) }
abbrev plainList : List (String × DataW Unit) := [("math/bits.deBruijn32tab", Rows.laid_math_bits_deBruijn32tab), ("math/bits.deBruijn64tab", Rows.laid_math_bits_deBruijn64tab), ("internal/strconv.uint64pow10", Rows.laid_internal_strconv_uint64pow10), ("unicode/utf8.acceptRanges", Rows.laid_unicode_utf8_acceptRanges), ("unicode/utf8.first", Rows.laid_unicode_utf8_first)]
/-- A WORLD FOR THE WITNESS: the settled one, the tables holding what their initialisers lay. -/
noncomputable def laidWorld (os : Os) : World :=
  layErr (layErr (plainList.foldl layOne (World.holding Tryz.prog os ⟨#[], #[], []⟩)) 2 ⟨#[118, 97, 108, 117, 101, 32, 111, 117, 116, 32, 111, 102, 32, 114, 97, 110, 103, 101]⟩) 1 ⟨#[105, 110, 118, 97, 108, 105, 100, 32, 115, 121, 110, 116, 97, 120]⟩
theorem wt_of {H : Type} {ts : List TypeId} {ds : List (DataW H)} {j : Nat} {t : TypeId} {d : DataW H} (hsz : (DataW.weightsEach Tryz.prog ts ds).all (· ≤ reachBytes) = true) (ht : ts[j]? = some t) (hd : ds[j]? = some d) : ∀ k ∈ d.weights Tryz.prog t, k ≤ reachBytes :=
  fun k hk => of_decide_eq_true (List.all_eq_true.1 hsz k (DataW.weights_mem_each ht hd k hk))
end Go.Proofs.YtmepjbjmjbpchaaGreatDoor
end
