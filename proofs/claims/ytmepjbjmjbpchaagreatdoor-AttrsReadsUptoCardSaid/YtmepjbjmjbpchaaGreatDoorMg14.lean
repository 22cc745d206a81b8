/- Texts of this claim, laid together: Sp0, Sp1. -/
import Derived.Test.YtmepjbjmjbpchaaGreatDoorMg6
import Derived.Test.YtmepjbjmjbpchaaGreatDoorMg7
import Derived.Test.YtmepjbjmjbpchaaGreatDoorMg13
section
/- Plain laws of lists of types: the reference's cutting at commas is the cutting at a comma and a blank. -/
namespace Go.Proofs.YtmepjbjmjbpchaaGreatDoor
open Go
set_option linter.unusedVariables false
set_option linter.unusedSimpArgs false

def isTy (l : List UInt8) : Bool := (readOf l).isSome
theorem elStr_no {b : Nat} (c : UInt8) (h1 : c ∉ [105, 110, 100, 101, 120]) (h2 : ∀ n, n < 10 → c ≠ UInt8.ofNat (48 + n)) : c ∉ elStr b := by
  unfold elStr
  split
  · exact h1
  · intro h
    rcases List.mem_cons.1 h with h | h
    · subst h; exact h1 (by simp)
    · rw [Lib.decDigits_eq] at h
      obtain ⟨t, -, ht⟩ := List.mem_map.1 h
      exact h2 _ (Nat.mod_lt _ (by decide)) ht.symm
theorem elemOf_no44 {l : List UInt8} {q : Pd} (h : elemOf l = some q) : (44 : UInt8) ∉ l := by
  rw [elemOf_str h]
  refine elStr_no 44 (by decide) ?_
  intro n hn h
  have := congrArg UInt8.toNat h
  rw [UInt8.toNat_ofNat'] at this
  simp at this; omega
theorem numOf_no44 {l : List UInt8} {n : Nat} (h : numOf l = some n) : (44 : UInt8) ∉ l := by
  intro hm
  have := numOf_all h 44 hm
  exact absurd this.1 (by decide)
theorem rest_no44 : ∀ (m : Nat) (l : List UInt8) (ext : List Nat) (r : List Nat × Nat), l.length ≤ m → shapeP ext (partsOf l) = some r → (44 : UInt8) ∉ l
  | m, l, ext, r, hm, h => by
    by_cases h0 : l = [105, 110, 100, 101, 120] ∨ cutOf 120 l = none
    · rw [partsOf_last h0] at h
      simp only [shapeP] at h
      split at h
      · rename_i e he; exact elemOf_no44 he
      · cases h
    · cases hc : cutOf 120 l with
      | none => exact absurd (.inr hc) h0
      | some p =>
        obtain ⟨x, y⟩ := p
        have hlen := cutOf_len hc
        obtain ⟨-, hxy, -⟩ := cutOf_some _ _ _ _ hc
        obtain ⟨m', rfl⟩ : ∃ m', m = m' + 1 := ⟨m - 1, by omega⟩
        rw [partsOf_more (fun h => h0 (.inl h)) hc] at h
        simp only [shapeP] at h
        split at h
        · rename_i n hn
          split at h
          · have ih := rest_no44 m' y _ r (by omega) h
            rw [hxy]
            intro hm
            rw [List.mem_append, List.mem_cons] at hm
            rcases hm with hm | hm | hm
            · exact numOf_no44 hn hm
            · exact absurd hm (by decide)
            · exact ih hm
          · cases h
        · cases h
theorem nameOf_no44 {l : List UInt8} (h : nameOf l = true) : (44 : UInt8) ∉ l := by
  intro hm
  simp only [nameOf, Bool.and_eq_true, List.all_eq_true] at h
  have := h.2 44 hm
  exact absurd this (by decide)
theorem foreignOf_no44 {l : List UInt8} {q : Pd} (h : foreignOf l = some q) : (44 : UInt8) ∉ l := by
  unfold foreignOf at h
  split at h
  · rename_i hp
    split at h
    · cases h
    · rename_i x y hc
      obtain ⟨-, hxy, -⟩ := cutOf_some _ _ _ _ hc
      split at h
      · rename_i hn
        rw [Bool.and_eq_true] at hn
        have hp1 := hp.1
        match l, hp1, hxy with
        | [], hp1, hxy => simp [Lib.hasPrefix, List.isPrefixOf] at hp1
        | c :: l, hp1, hxy =>
          simp [Lib.hasPrefix, List.isPrefixOf] at hp1
          subst hp1
          simp only [List.tail_cons] at hxy
          rw [hxy]
          intro hm
          rcases List.mem_cons.1 hm with hm | hm
          · exact absurd hm (by decide)
          · rw [List.mem_append, List.mem_cons] at hm
            rcases hm with hm | hm | hm
            · exact nameOf_no44 hn.1 hm
            · exact absurd hm (by decide)
            · exact nameOf_no44 hn.2 hm
      · cases h
  · cases h
theorem cells_no44 {l p : List UInt8} {k : Nat} {q : Pd} (hp : Lib.hasPrefix (l.take (l.length - 1)) p = true) (hp4 : p.length = 4) (hpn : (44 : UInt8) ∉ p) (hs : Lib.hasSuffix l [62] = true) (h : shapeOf k ((l.take (l.length - 1)).drop 4) = some q) : (44 : UInt8) ∉ l := by
  unfold shapeOf at h
  rw [Option.map_eq_some_iff] at h
  obtain ⟨r, hr, -⟩ := h
  have h1 := rest_no44 _ _ _ _ (Nat.le_refl _) hr
  have hne : l ≠ [] := by intro e; subst e; simp [Lib.hasSuffix, List.isSuffixOf, List.isPrefixOf] at hs
  rw [suffix_iff hne] at hs
  have hlast := eq_of_beq hs
  have hpre : (l.take (l.length - 1)).take 4 = p := by
    rw [prefix_take, hp4] at hp; exact eq_of_beq hp
  intro hm
  have hl : l = p ++ (l.take (l.length - 1)).drop 4 ++ [62] := by
    rw [← hpre, List.take_append_drop, ← List.dropLast_eq_take, ← hlast, List.dropLast_concat_getLast]
  rw [hl, List.mem_append, List.mem_append, List.mem_singleton] at hm
  rcases hm with (hm | hm) | hm
  · exact hpn hm
  · exact h1 hm
  · exact absurd hm (by decide)
theorem isTy_no44 {l : List UInt8} (h : isTy l = true) : (44 : UInt8) ∉ l := by
  unfold isTy at h
  obtain ⟨q, hq⟩ := Option.isSome_iff_exists.1 h
  clear h
  unfold readOf at hq
  split at hq
  · rename_i p hp; exact elemOf_no44 hp
  · split at hq
    · rename_i hs
      split at hq
      · rename_i hp; exact cells_no44 hp rfl (by decide) hs hq
      · split at hq
        · rename_i hp; exact cells_no44 hp rfl (by decide) hs hq
        · exact foreignOf_no44 hq
    · exact foreignOf_no44 hq

/-- The reference's `Split`, between the brackets. -/
def rsplit (l : List UInt8) : Option (List (List UInt8)) :=
  match h : cutOf 44 l with
  | none => if isTy l then some [l] else none
  | some (x, y) =>
    if isTy x then
      if y.head? = some 32 then (rsplit y.tail).map (x :: ·) else none
    else none
termination_by l.length
decreasing_by have := cutOf_len h; simp; omega
theorem rsplit_last {l : List UInt8} (h : cutOf 44 l = none) : rsplit l = if isTy l then some [l] else none := by
  unfold rsplit
  split
  · rfl
  · rename_i h'; rw [h] at h'; cases h'
theorem rsplit_more {l x y : List UInt8} (h : cutOf 44 l = some (x, y)) : rsplit l = if isTy x then if y.head? = some 32 then (rsplit y.tail).map (x :: ·) else none else none := by
  rw [rsplit]
  split
  · rename_i h'; rw [h] at h'; cases h'
  · rename_i h'; rw [h] at h'; cases h'; rfl
def piecesL (l : List UInt8) : List (List UInt8) := Lib.split l [44, 32]
theorem pieces_data (b : ByteArray) : (piecesOf b).map (·.data.toList) = piecesL b.data.toList := by
  unfold piecesOf piecesL Lib.split
  rw [Lib.splitB_data]
theorem piecesL_miss {l : List UInt8} (h : Lib.index l [44, 32] = -1) : piecesL l = [l] := by
  unfold piecesL Lib.split
  rw [Lib.count_miss h, Lib.splitK]
theorem piecesL_hit {l : List UInt8} {i : Nat} (h : Lib.index l [44, 32] = i) : piecesL l = l.take i :: piecesL (l.drop (i + 2)) := by
  unfold piecesL Lib.split
  rw [Lib.count_hit (by simp) h, Nat.add_comm 1]
  rw [Lib.splitK, if_neg (by rw [h, beq_iff_eq]; omega), h]
  rfl
theorem occ_at {l : List UInt8} {j : Nat} (h : Lib.occAt l [44, 32] j = true) : l[j]? = some 44 ∧ l[j + 1]? = some 32 := by
  unfold Lib.occAt at h
  match hd : l.drop j, h with
  | [], h => simp [List.isPrefixOf] at h
  | [a], h => simp [List.isPrefixOf] at h
  | a :: b :: r, h =>
    simp [List.isPrefixOf] at h
    obtain ⟨rfl, rfl⟩ := h
    have h0 : l[j]? = (l.drop j)[0]? := by simp
    have h1 : l[j + 1]? = (l.drop j)[1]? := by simp
    rw [h0, h1, hd]; simp
theorem index_cut {x z : List UInt8} (h : (44 : UInt8) ∉ x) : Lib.index (x ++ 44 :: 32 :: z) [44, 32] = x.length := by
  refine Lib.index_first (by simp) ?_ ?_
  · simp [Lib.occAt, List.isPrefixOf]
  · intro j hj
    rw [Bool.eq_false_iff]
    intro ho
    have := (occ_at ho).1
    rw [List.getElem?_append_left hj] at this
    exact h (List.mem_of_getElem? this)
theorem rsplit_eq : ∀ (m : Nat) (l : List UInt8), l.length ≤ m → rsplit l = if (piecesL l).all isTy then some (piecesL l) else none
  | m, l, hm => by
    cases hc : cutOf 44 l with
    | none =>
      have hn : Lib.index l [44, 32] = -1 := by
        refine Lib.index_none fun j hj => ?_
        rw [Bool.eq_false_iff]
        intro ho
        have h44 := List.mem_of_getElem? (occ_at ho).1
        have := cutOf_take l 44 l.length (by
          intro x hx he
          subst he
          have hi := cutOf_none _ _ hc
          exact absurd hi (by
            have : ∀ (l : List UInt8), (44 : UInt8) ∈ l → cutOf 44 l ≠ none := by
              intro l
              induction l with
              | nil => simp
              | cons a l ih =>
                intro hm
                simp only [cutOf]
                split
                · simp
                · rename_i hne
                  rcases List.mem_cons.1 hm with h | h
                  · exact absurd h.symm hne
                  · simpa using ih h
            exact absurd hc (this l h44))) (by simp)
        have : ∀ (l : List UInt8), (44 : UInt8) ∈ l → cutOf 44 l ≠ none := by
          intro l
          induction l with
          | nil => simp
          | cons a l ih =>
            intro hm
            simp only [cutOf]
            split
            · simp
            · rename_i hne
              rcases List.mem_cons.1 hm with h | h
              · exact absurd h.symm hne
              · simpa using ih h
        exact this l h44 hc
      rw [rsplit_last hc, piecesL_miss hn]
      simp
    | some p =>
      obtain ⟨x, y⟩ := p
      have hlen := cutOf_len hc
      obtain ⟨-, hxy, hnx⟩ := cutOf_some _ _ _ _ hc
      obtain ⟨m', rfl⟩ : ∃ m', m = m' + 1 := ⟨m - 1, by omega⟩
      rw [rsplit_more hc]
      by_cases h32 : y.head? = some 32
      · obtain ⟨z, rfl⟩ : ∃ z, y = 32 :: z := by
          match y, h32 with
          | c :: z, h32 => simp at h32; subst h32; exact ⟨z, rfl⟩
        have hi : Lib.index l [44, 32] = x.length := by rw [hxy]; exact index_cut hnx
        have hd : l.drop (x.length + 2) = z := by rw [hxy]; simp [List.drop_append]
        have ht : l.take x.length = x := by rw [hxy]; simp
        rw [piecesL_hit hi, hd, ht, if_pos h32, List.tail_cons, rsplit_eq m' z (by simp at hlen; omega), List.all_cons]
        cases isTy x <;> cases (piecesL z).all isTy <;> simp
      · have hfirst : ∃ p r, piecesL l = p :: r ∧ (44 : UInt8) ∈ p := by
          by_cases hi : Lib.index l [44, 32] = -1
          · exact ⟨l, [], piecesL_miss hi, by rw [hxy]; simp⟩
          · have hge := Lib.index_ge l [44, 32]
            obtain ⟨i, hii⟩ : ∃ i : Nat, Lib.index l [44, 32] = i := ⟨(Lib.index l [44, 32]).toNat, by omega⟩
            refine ⟨_, _, piecesL_hit hii, ?_⟩
            have hocc : Lib.occAt l [44, 32] i = true := by
              rcases Lib.index_spec l [44, 32] with ⟨h, -⟩ | ⟨j, h, -, ho, -⟩
              · exact absurd h hi
              · obtain rfl : i = j := by omega
                exact ho
            obtain ⟨h1, h2⟩ := occ_at hocc
            have hgt : x.length < i := by
              rcases Nat.lt_trichotomy i x.length with h | h | h
              · rw [hxy, List.getElem?_append_left h] at h1
                exact absurd (List.mem_of_getElem? h1) hnx
              · subst h
                rw [hxy, List.getElem?_append_right (by omega)] at h2
                simp at h2
                exfalso; apply h32
                rw [List.head?_eq_getElem?]; exact h2
              · exact h
            have : l[x.length]? = some 44 := by rw [hxy]; simp
            rw [← List.getElem?_take_of_lt hgt] at this
            exact List.mem_of_getElem? this
        obtain ⟨p, r, hp, h44⟩ := hfirst
        have hnt : isTy p = false := by
          rw [Bool.eq_false_iff]; intro h; exact isTy_no44 h h44
        rw [if_neg h32, hp, List.all_cons, hnt]
        simp
end Go.Proofs.YtmepjbjmjbpchaaGreatDoor
end
section
/- The reference's Split and Join of lists of types; lists of strings that are the same. -/
namespace Go.Proofs.YtmepjbjmjbpchaaGreatDoor
open Go Go.RowKit Go.Sort
set_option linter.unusedVariables false
set_option linter.unusedSimpArgs false

theorem own_below {W W1 : World} {base : Nat} {e : TypeId} {v : Value} {n : Nat} {xs : List Value} (h : W.ownsRow base e 1 v n xs) (hb : Below W.heap.size W W1) : W1.ownsRow base e 1 v n xs :=
  ⟨h.1, by
    rcases h.2 with h | ⟨g, c, cur, h1, h2, h3, h4⟩
    · exact .inl h
    · exact .inr ⟨g, c, cur, h1, h2, blkBelow h3 hb, h4⟩⟩
theorem strSl_own {W : World} {base : Nat} {sa : Option Addr} {sc n : Nat} {ls : List ByteArray} (h : W.ownsRow base 9 1 (.slice sa n sc) n (ls.map .string)) : StrSl W sa ls ∧ ls.length = n := by
  have hln : ls.length = n := by have := h.1; simpa using this
  refine ⟨?_, hln⟩
  rcases h.2 with ⟨h1, h2⟩ | ⟨g, cap, cur, h1, h2, h3, h4, h5, h6, h7⟩
  · cases h1
    exact .inl (List.length_eq_zero_iff.1 (by omega))
  · cases h1
    refine .inr ⟨g, 0, rfl, blkLt h3, fun j hj => ?_⟩
    rw [Nat.zero_add, blkCell h3]
    have h8 : (cur.toList.take (n * 1))[j]? = some (.string ls[j]) := by rw [h7]; simp [hj]
    rw [List.getElem?_take_of_lt (by omega)] at h8
    simpa using h8
/-- Where a slice of the call's own lies. -/
theorem own_at {W : World} {base : Nat} {t : TypeId} {sz : Nat} {sa : Option Addr} {sc n : Nat} {xs : List Value} (h : W.ownsRow base t sz (.slice sa n sc) n xs) : n ≤ sc ∧ ∀ x, sa = some x → base ≤ x.block ∧ x.block < W.heap.size := by
  rcases h.2 with ⟨h1, h2⟩ | ⟨g, cap, cur, h1, hb, h2, h4, _⟩
  · cases h1; exact ⟨by omega, fun x hx => by cases hx⟩
  · cases h1; exact ⟨h4, fun x hx => by cases hx; exact ⟨hb, blkLt h2⟩⟩
def RSplitPost (s : ByteArray) (w : World) (e : Ending) (w' : World) : Prop :=
  Below w.heap.size w w' ∧ match bodyOf s.data.toList with
  | none => e = .returned (.tuple #[.slice none 0 0, .bool false])
  | some l =>
    if l = [] then e = .returned (.tuple #[.slice none 0 0, .bool true])
    else match rsplit l with
    | none => e = .returned (.tuple #[.slice none 0 0, .bool false])
    | some ps => ∃ sa sc ls, e = .returned (.tuple #[.slice sa ps.length sc, .bool (decide (ps.length ≤ 100))]) ∧ StrSl w' sa ls ∧ ls.map (·.data.toList) = ps ∧ ps.length ≤ sc ∧ ∀ x, sa = some x → w.heap.size ≤ x.block ∧ x.block < w'.heap.size
theorem rsp_no {s : ByteArray} {w w' : World} {e : Ending} (h : bodyOf s.data.toList = none ∨ ∃ l, bodyOf s.data.toList = some l ∧ l ≠ [] ∧ rsplit l = none) (he : e = .returned (.tuple #[.slice none 0 0, .bool false])) (hb : Below w.heap.size w w') : RSplitPost s w e w' := by
  refine ⟨hb, ?_⟩
  rcases h with h | ⟨l, h, hl, hr⟩
  · rw [h]; exact he
  · rw [h]; dsimp only; rw [if_neg hl, hr]; exact he
theorem rsp_yes {s : ByteArray} {w w' : World} {e : Ending} {l : List UInt8} {ps : List (List UInt8)} (h : bodyOf s.data.toList = some l) (hl : l ≠ []) (hr : rsplit l = some ps) {sa : Option Addr} {sc : Nat} {ls : List ByteArray}
    (hs : StrSl w' sa ls) (hm : ls.map (·.data.toList) = ps) (he : e = .returned (.tuple #[.slice sa ps.length sc, .bool (decide (ps.length ≤ 100))])) (hb : Below w.heap.size w w') (hc : ps.length ≤ sc ∧ ∀ x, sa = some x → w.heap.size ≤ x.block ∧ x.block < w'.heap.size) : RSplitPost s w e w' := by
  refine ⟨hb, ?_⟩
  rw [h]; dsimp only; rw [if_neg hl, hr]
  exact ⟨sa, sc, ls, he, hs, hm, hc⟩
/-- The world at the head of the loop over the types of a list. -/
structure SpI (w : World) (b0 : List UInt8) (ps : List ByteArray) (sa : Option Addr) (sc : Nat) (rs : ByteArray) (wr : World) : Prop where
  go : rsplit b0 = (rsplit rs.data.toList).map fun r => ps.map (·.data.toList) ++ r
  sz : ps.length + rs.size ≤ 4294967296
  own : wr.ownsRow w.heap.size 9 1 (.slice sa ps.length sc) ps.length (ps.map .string)
  below : Below w.heap.size w wr

set_option maxRecDepth 100000 in
set_option maxHeartbeats 4000000 in
theorem rsplit_loop (s : ByteArray) (w : World) (hs : s.size ≤ 4294967280) (b : ByteArray) (hb : bodyOf s.data.toList = some b.data.toList) (hne : b.data.toList ≠ []) : Calls Tryz.prog 48 #[.string s] w (RSplitPost s w) := by
  have HB := Lib.hid hb
  obtain ⟨hp, hu, he, h2⟩ := bodyOf_some hb
  have hl : s.data.toList.length = s.size := by simp
  rw [hl] at h2
  have hp0 : 0 < s.size := by omega
  have hpl : s.size - 1 < s.size := by omega
  have hq2 : (2 : Int) ≤ (s.size : Int) := by omega
  have hex : s.extract 1 (s.size - 1) = b := by
    apply ByteArray.ext
    apply Array.ext'
    rw [he]
    simp [ByteArray.data_extract, List.drop_take, hl]
  have h40 : (((s[0]'hp0).toNat : Int) != 40) = false := by
    have hd := data_get s 0 hp0
    rw [List.drop_zero] at hd
    rw [hd] at hp
    simp [Lib.hasPrefix, List.isPrefixOf] at hp
    rw [← hp]; rfl
  have h41 : (((s[s.size - 1]'hpl).toNat : Int) != 41) = false := by
    have hne1 : s.data.toList.drop 1 ≠ [] := by intro e; have := congrArg List.length e; simp at this; omega
    rw [suffix_iff hne1, List.getLast_drop, List.getLast_eq_getElem] at hu
    have := eq_of_beq hu
    rw [show s[s.size - 1]'hpl = 41 from by rw [← this]; simp [ByteArray.getElem_eq_getElem_data]]
    rfl
  have hbs : b.size ≤ 4294967280 := by rw [← hex, ByteArray.size_extract]; omega
  have hbne : b.toList.isEmpty = false := by rw [List.isEmpty_eq_false_iff]; intro h; rw [toList_nil_iff] at h; exact hne h
  have HEX := Lib.hid hex
  have HNE := Lib.hid hne
  have HBNE := Lib.hid hbne
  clear hb hp hu he h2 hl hex hne hbne
  go_enter Tryz.func48, Tryz.ntmps48
  go_wp2_with fail
  go_loopw [0, 4] (fun rv ov wr => ∃ (ps : List ByteArray) (sa : Option Addr) (sc : Nat) (rs : ByteArray), rv = .string rs ∧ ov = .slice sa ps.length sc ∧ (rs.toList.isEmpty = false ∨ 0 < ps.length) ∧ SpI w b.data.toList ps sa sc rs wr) (fun rv _ _ => strLen rv)
  case atStart =>
    refine ⟨[], none, 0, s.extract 1 (s.size - 1), rfl, rfl, .inl (by rw [HEX.out]; exact HBNE.out), ?_, ?_, World.ownsRow_nil _ _ _ _, Below.refl _ _⟩
    · rw [HEX.out]; simp
    · rw [HEX.out]; simp; omega
  case round =>
    clear h40 h41 hq2
    obtain ⟨ps, sa, sc, rs, rfl, rfl, hcont, hi⟩ := hrel
    have hsz := hi.sz
    have HI := Lib.hid hi
    clear hi
    have hrs : rs.size ≤ 4294967296 := by omega
    have hcont2 : rs.toList.isEmpty = false ∨ (rs.toList.isEmpty = true ∧ (0 : Int) < (ps.length : Int)) := by
      rcases hcont with h | h
      · exact .inl h
      · cases hrs : rs.toList.isEmpty
        · exact .inl rfl
        · exact .inr ⟨rfl, by omega⟩
    clear hcont
    obtain ⟨i0, hin, hz0, hz1, hz2⟩ := info_parts (show (Tryz.prog.info? 9).map (fun i => (i.zero, i.size, i.bytes)) = some (some (.string ⟨#[]⟩), 1, 16) by kernel_rfl)
    rcases hcont2 with hcont2 | ⟨hcont2, hcont3⟩
    · go_wp2_with fail
      go_loop [5] (fun i => ∃ j : Nat, j ≤ rs.size ∧ i = .int .i64 j ∧ ∀ x ∈ rs.data.toList.take j, x ≠ 44) (fun i => rs.size - (intOf i).toNat)
      case atStart => exact ⟨0, Nat.zero_le _, rfl, by simp⟩
      case round =>
        obtain ⟨j, hj, rfl, hx⟩ := hrel
        have HX := Lib.hid hx
        clear hx
        rcases Nat.lt_or_ge j rs.size with hlt | hge
        · have hget := Lib.hid (bytes_get rs j hlt)
          by_cases hc : ((rs[j]'hlt).toNat : Int) = 44
          · have hb : (((rs[j]'hlt).toNat : Int) != 44) = false := by rw [hc]; rfl
            have hcut : cutOf 44 rs.data.toList = some (rs.data.toList.take j, rs.data.toList.drop (j + 1)) := by
              rw [cutOf_take _ 44 j HX.out (fun x hx => by rw [hget.out] at hx; cases hx; exact byte_eq 44 (by omega) hc), if_pos (by simpa using hlt)]
            have hex : (rs.extract 0 j).data.toList = rs.data.toList.take j := by simp [ByteArray.data_extract]
            have hgo := HI.out.go
            rw [rsplit_more hcut] at hgo
            have hj1 : (j : Int) + 1 ≤ (rs.size : Int) := by omega
            have hjn : ((j : Int) == (rs.size : Int)) = false := by rw [beq_eq_false_iff_ne]; omega
            have hxs : (rs.extract 0 j).size ≤ 4294967296 := by rw [ByteArray.size_extract]; omega
            have HEX := Lib.hid hex
            clear hc hex hcut
            cases hty : isTy (rs.data.toList.take j) with
            | false =>
              rw [hty] at hgo
              have HGO := Lib.hid hgo
              have HTY := Lib.hid hty
              clear hgo hty
              go_wp2_with (go_at_call 38; refine (ris_any _ _ (by omega)).mono ?_; rintro e w1 ⟨rfl, hb1⟩; rw [HEX.out, show (readOf (rs.data.toList.take j)).isSome = false from HTY.out])
              go_ret2
              exact rsp_no (.inr ⟨_, HB.out, HNE.out, by rw [HGO.out]; rfl⟩) rfl (below_own' HI.out.below hb1)
            | true =>
              rw [hty] at hgo
              have HTY := Lib.hid hty
              clear hty
              go_wp2_with fail
              refine (ris_any _ _ (by omega)).mono ?_
              rintro e w1 ⟨rfl, hb1⟩
              rw [HEX.out, show (readOf (rs.data.toList.take j)).isSome = true from HTY.out]
              have HOWN := Lib.hid (own_below HI.out.own hb1)
              have hsz1 := hb1.size
              have hszw := HI.out.below.size
              have HB1 := Lib.hid (below_own' HI.out.below hb1)
              clear hb1
              have hcs : ((rs.size : Int) ≤ (j : Int) + 1 ∧ (rs.data.toList.drop (j + 1)).head? ≠ some 32) ∨ (∃ hk : j + 1 < rs.size, (((rs[j + 1]'hk).toNat : Int) != 32) = true ∧ (rs.data.toList.drop (j + 1)).head? ≠ some 32) ∨ (∃ hk : j + 1 < rs.size, (((rs[j + 1]'hk).toNat : Int) != 32) = false ∧ (rs.data.toList.drop (j + 1)).head? = some 32) := by
                rcases Nat.lt_or_ge (j + 1) rs.size with hk | hk
                · have hd : (rs.data.toList.drop (j + 1)).head? = some (rs[j + 1]'hk) := by rw [List.head?_drop]; exact bytes_get rs (j + 1) hk
                  by_cases h32 : ((rs[j + 1]'hk).toNat : Int) = 32
                  · refine .inr (.inr ⟨hk, by rw [h32]; rfl, by rw [hd, byte_eq 32 (by omega) h32]; rfl⟩)
                  · refine .inr (.inl ⟨hk, by rw [bne_iff_ne]; exact h32, by rw [hd]; intro he; exact byte_ne 32 (by omega) h32 (Option.some.inj he)⟩)
                · refine .inl ⟨by omega, ?_⟩
                  rw [List.drop_of_length_le (by simp; omega)]
                  simp
              go_wp2_with (at_builtin; refine wpList_append_own _ rfl _ _ 25 rfl w.heap.size 9 i0 (.string ⟨#[]⟩) 1 16 Tryz.underlying25 hin hz0 hz1 hz2 rfl (by decide) _ _ _ rfl (HOWN.out.alloc _) ⟨w1.heap.size, 0, none⟩ 1 1 [.string (rs.extract 0 j)] rfl rfl ?c1 ?c2 ?c3 ?c4 ?c5 ?_)
              case c1 =>
                intro t u hj
                match t, hj with
                | 0, hj => simp at hj; subst hj; simp [Addr.add]
              case c2 => intro u hu; simp at hu; subst hu; rfl
              case c3 => unfold maxLen; omega
              case c4 => omega
              case c5 => simp; omega
              intro v' w3 hown' hgrow _
              obtain ⟨sa', sc', rfl⟩ := own_slice hown'
              have HOWN3 := Lib.hid (show w3.ownsRow w.heap.size 9 1 (.slice sa' (ps.length + 1) sc') (ps.length + 1) ((ps ++ [rs.extract 0 j]).map .string) by simpa using hown')
              have HB3 := Lib.hid ((belowA HB1.out (.cells #[.string (rs.extract 0 j)] 9)).grown hgrow (by simp; omega) (fun k hk => (HOWN.out.lt k hk).1))
              clear hown'
              rcases hcs with ⟨hk, h32⟩ | ⟨hk, hk2, h32⟩ | ⟨hk, hk2, h32⟩
              · rw [if_neg h32] at hgo
                have HGO := Lib.hid hgo
                clear hgo h32
                go_wp2_with fail
                go_ret2
                exact rsp_no (.inr ⟨_, HB.out, HNE.out, by rw [HGO.out]; rfl⟩) rfl HB3.out
              · rw [if_neg h32] at hgo
                have HGO := Lib.hid hgo
                have hk3 : (j : Int) + 1 < (rs.size : Int) := by omega
                clear hgo h32
                go_wp2_with fail
                go_ret2
                exact rsp_no (.inr ⟨_, HB.out, HNE.out, by rw [HGO.out]; rfl⟩) rfl HB3.out
              · rw [if_pos h32] at hgo
                have HGO := Lib.hid hgo
                have hk3 : (j : Int) + 1 < (rs.size : Int) := by omega
                have hk4 : (j : Int) + 2 ≤ (rs.size : Int) := by omega
                clear hgo h32
                go_wp2_with fail
                go_roundw
                · refine ⟨ps ++ [rs.extract 0 j], sa', sc', rs.extract (j + 2) rs.size, rfl, by simp, .inr (by simp), ?_, by simp [ByteArray.size_extract]; omega, by simpa using HOWN3.out, HB3.out⟩
                  rw [HGO.out]
                  have hxe : (rs.extract (j + 2) rs.size).data.toList = (rs.data.toList.drop (j + 1)).tail := by
                    simp [ByteArray.data_extract]
                    exact List.take_of_length_le (by simp)
                  rw [hxe]
                  cases rsplit (rs.data.toList.drop (j + 1)).tail with
                  | none => rfl
                  | some r => simp
                · simp [strLen]; omega
          · have hb : (((rs[j]'hlt).toNat : Int) != 44) = true := by rw [bne_iff_ne]; exact hc
            have hne := Lib.hid (byte_ne (c := rs[j]'hlt) 44 (by omega) hc)
            clear hc
            go_wp2_with fail
            go_round
            case rel => exact ⟨j + 1, by omega, by go_num, take_ne HX.out hget.out hne.out⟩
            case measure => simp [intOf]; omega
        · have hje : j = rs.size := by omega
          subst hje
          have hcut : cutOf 44 rs.data.toList = none := by
            rw [cutOf_take _ 44 rs.size HX.out (by simp), if_neg (by simp)]
          have hgo := HI.out.go
          rw [rsplit_last hcut] at hgo
          cases hty : isTy rs.data.toList with
          | false =>
            rw [hty] at hgo
            have HGO := Lib.hid hgo
            have HTY := Lib.hid hty
            clear hgo hty hcut
            go_wp2_with (go_at_call 38; refine (ris_any _ _ (by omega)).mono ?_; rintro e w1 ⟨rfl, hb1⟩; rw [show (readOf rs.data.toList).isSome = false from HTY.out])
            go_ret2
            exact rsp_no (.inr ⟨_, HB.out, HNE.out, by rw [HGO.out]; rfl⟩) rfl (below_own' HI.out.below hb1)
          | true =>
            rw [hty] at hgo
            have HGO := Lib.hid hgo
            have HTY := Lib.hid hty
            clear hgo hty hcut
            go_wp2_with fail
            refine (ris_any _ _ (by omega)).mono ?_
            rintro e w1 ⟨rfl, hb1⟩
            rw [show (readOf rs.data.toList).isSome = true from HTY.out]
            have HOWN := Lib.hid (own_below HI.out.own hb1)
            have hsz1 := hb1.size
            have hszw := HI.out.below.size
            have HB1 := Lib.hid (below_own' HI.out.below hb1)
            clear hb1
            go_wp2_with (at_builtin; refine wpList_append_own _ rfl _ _ 25 rfl w.heap.size 9 i0 (.string ⟨#[]⟩) 1 16 Tryz.underlying25 hin hz0 hz1 hz2 rfl (by decide) _ _ _ rfl (HOWN.out.alloc _) ⟨w1.heap.size, 0, none⟩ 1 1 [.string rs] rfl rfl ?c1 ?c2 ?c3 ?c4 ?c5 ?_)
            case c1 =>
              intro t u hj
              match t, hj with
              | 0, hj => simp at hj; subst hj; simp [Addr.add]
            case c2 => intro u hu; simp at hu; subst hu; rfl
            case c3 => unfold maxLen; omega
            case c4 => omega
            case c5 => simp; omega
            intro v' w3 hown' hgrow _
            obtain ⟨sa', sc', rfl⟩ := own_slice hown'
            have HOWN3 := Lib.hid (show w3.ownsRow w.heap.size 9 1 (.slice sa' (ps.length + 1) sc') (ps.length + 1) ((ps ++ [rs]).map .string) by simpa using hown')
            have HB3 := Lib.hid ((belowA HB1.out (.cells #[.string rs] 9)).grown hgrow (by simp; omega) (fun k hk => (HOWN.out.lt k hk).1))
            have hlen : ((ps.length : Int) + 1 ≤ 100) = (ps.length + 1 ≤ 100) := by rw [eq_iff_iff]; omega
            have HLEN := Lib.hid hlen
            clear hown' hlen
            go_wp2_with fail
            go_ret2
            obtain ⟨hsl, -⟩ := strSl_own HOWN3.out
            refine rsp_yes (sa := sa') (sc := sc') (ls := ps ++ [rs]) HB.out HNE.out HGO.out hsl (by simp) ?_ HB3.out (by have := own_at HOWN3.out; simpa using this)
            have hd : decide ((ps.length : Int) + 1 ≤ 100) = decide (ps.length + 1 ≤ 100) := by rw [Bool.eq_iff_iff]; simp; omega
            simp [hd]
    · have hr0 : rs = ⟨#[]⟩ := by
        apply ByteArray.ext
        apply Array.ext'
        have := List.isEmpty_iff.1 hcont2
        rw [toList_nil_iff] at this
        exact this
      subst hr0
      have hgo := HI.out.go
      rw [rsplit_last (l := (⟨#[]⟩ : ByteArray).data.toList) rfl] at hgo
      have hty : isTy (⟨#[]⟩ : ByteArray).data.toList = false := by rfl
      rw [hty] at hgo
      have HGO := Lib.hid hgo
      clear hgo hty hcont2 hrs hsz
      go_wp2_with fail
      go_loop [5] (fun i => i = .int .i64 0) (fun i => 0)
      case atStart => rfl
      case round =>
        subst hrel
        go_wp2_with fail
        refine (ris_any ByteArray.empty _ (by decide)).mono ?_
        rintro e w1 ⟨rfl, hb1⟩
        rw [show (readOf ByteArray.empty.data.toList).isSome = false from rfl]
        go_wp2_with fail
        go_ret2
        exact rsp_no (.inr ⟨_, HB.out, HNE.out, by rw [HGO.out]; rfl⟩) rfl (below_own' HI.out.below hb1)

theorem bodyOf_none {l : List UInt8} (h : bodyOf l = none) : l.length < 2 ∨ (2 ≤ l.length ∧ l.head? ≠ some 40) ∨ (2 ≤ l.length ∧ l.head? = some 40 ∧ l.getLast? ≠ some 41) := by
  rcases Nat.lt_or_ge l.length 2 with h2 | h2
  · exact .inl h2
  · by_cases h40 : l.head? = some 40
    · refine .inr (.inr ⟨h2, h40, ?_⟩)
      intro hl
      match l, h2, h40, hl with
      | c :: r, h2, h40, hl =>
        simp at h40
        subst h40
        have hr : r ≠ [] := by intro e; subst e; simp at h2
        rw [List.getLast?_cons_of_ne_nil hr, List.getLast?_eq_some_getLast hr] at hl
        unfold bodyOf at h
        have h1 : Lib.hasPrefix ((40 : UInt8) :: r) [40] = true := by simp [Lib.hasPrefix, List.isPrefixOf]
        have h3 : Lib.hasSuffix ((40 : UInt8) :: r).tail [41] = true := by
          rw [List.tail_cons, suffix_iff hr]
          simpa using hl
        rw [h1, h3] at h
        simp at h
    · exact .inr (.inl ⟨h2, h40⟩)
set_option maxRecDepth 100000 in
set_option maxHeartbeats 2000000 in
theorem rsplit_no (s : ByteArray) (w : World) (hs : s.size ≤ 4294967280) (hb : bodyOf s.data.toList = none) : Calls Tryz.prog 48 #[.string s] w (RSplitPost s w) := by
  have hl : s.data.toList.length = s.size := by simp
  have hc := bodyOf_none hb
  rw [hl] at hc
  have HB := Lib.hid hb
  have hcs : s.size < 2 ∨ (∃ hp0 : 0 < s.size, 2 ≤ s.size ∧ (((s[0]'hp0).toNat : Int) != 40) = true) ∨ (∃ (hp0 : 0 < s.size) (hpl : s.size - 1 < s.size), 2 ≤ s.size ∧ (((s[0]'hp0).toNat : Int) != 40) = false ∧ (((s[s.size - 1]'hpl).toNat : Int) != 41) = true) := by
    rcases hc with h | ⟨h2, h⟩ | ⟨h2, h, h'⟩
    · exact .inl h
    · have hp0 : 0 < s.size := by omega
      refine .inr (.inl ⟨hp0, h2, ?_⟩)
      have hd := data_get s 0 hp0
      rw [List.drop_zero] at hd
      rw [hd] at h
      rw [bne_iff_ne]
      intro he
      exact h (by rw [byte_eq 40 (by omega) he]; rfl)
    · have hp0 : 0 < s.size := by omega
      have hpl : s.size - 1 < s.size := by omega
      refine .inr (.inr ⟨hp0, hpl, h2, ?_, ?_⟩)
      · have hd := data_get s 0 hp0
        rw [List.drop_zero] at hd
        rw [hd] at h
        simp at h
        rw [h]; rfl
      · rw [bne_iff_ne]
        intro he
        apply h'
        have := byte_eq (c := s[s.size - 1]'hpl) 41 (by omega) he
        rw [List.getLast?_eq_getElem?, hl, bytes_get s (s.size - 1) hpl, this]
        rfl
  clear hb hc hl
  rcases hcs with h | ⟨hp0, h2, h⟩ | ⟨hp0, hpl, h2, h, h'⟩
  · have hq : decide ((s.size : Int) < 2) = true := by simp; omega
    have hq2 : (s.size : Int) < 2 := by omega
    go_enter Tryz.func48, Tryz.ntmps48
    go_wp2_with fail
    go_ret2
    exact rsp_no (.inl HB.out) rfl (Below.refl _ _)
  all_goals
    have hq : decide ((s.size : Int) < 2) = false := by simp; omega
    have hq2 : (2 : Int) ≤ (s.size : Int) := by omega
    go_enter Tryz.func48, Tryz.ntmps48
    go_wp2_with fail
    go_ret2
    exact rsp_no (.inl HB.out) rfl (Below.refl _ _)
set_option maxRecDepth 100000 in
set_option maxHeartbeats 2000000 in
theorem rsplit_empty (s : ByteArray) (w : World) (hb : bodyOf s.data.toList = some []) : Calls Tryz.prog 48 #[.string s] w (RSplitPost s w) := by
  obtain ⟨hp, hu, he, h2⟩ := bodyOf_some hb
  have hl : s.data.toList.length = s.size := by simp
  have hsz : s.size = 2 := by
    have := congrArg List.length he
    simp at this
    omega
  have hs : s = ⟨#[40, 41]⟩ := by
    apply ByteArray.ext
    apply Array.ext'
    match hd : s.data.toList, hl with
    | [a, b], hl =>
      rw [hd] at hp hu
      simp [Lib.hasPrefix, Lib.hasSuffix, List.isPrefixOf, List.isSuffixOf] at hp hu
      rw [← hp, ← hu]
    | [], hl => simp at hl; omega
    | [a], hl => simp at hl; omega
    | a :: b :: c :: r, hl => simp at hl; omega
  subst hs
  clear hb hp hu he h2 hl hsz
  go_enter Tryz.func48, Tryz.ntmps48
  go_wp2_with fail
  go_loop [0, 4] (fun sv ov => sv = .string ⟨#[]⟩ ∧ ov = .slice none 0 0) (fun _ _ => 0)
  case atStart => exact ⟨rfl, rfl⟩
  case round =>
    obtain ⟨rfl, rfl⟩ := hrel
    go_wp2_with fail
    go_ret2
    refine ⟨Below.refl _ _, ?_⟩
    rw [show bodyOf (⟨#[40, 41]⟩ : ByteArray).data.toList = some [] from rfl]
    rfl
theorem rsplit_any (s : ByteArray) (w : World) (hs : s.size ≤ 4294967280) : Calls Tryz.prog 48 #[.string s] w (RSplitPost s w) := by
  cases hb : bodyOf s.data.toList with
  | none => exact rsplit_no s w hs hb
  | some l =>
    by_cases hl : l = []
    · subst hl; exact rsplit_empty s w hb
    · exact rsplit_loop s w hs ⟨l.toArray⟩ hb hl

end Go.Proofs.YtmepjbjmjbpchaaGreatDoor
end
