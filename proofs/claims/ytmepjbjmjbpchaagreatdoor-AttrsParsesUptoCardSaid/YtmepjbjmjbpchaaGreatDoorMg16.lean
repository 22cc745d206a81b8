/- Texts of this claim, laid together: Sp1, Ax2. -/
import Derived.Lib.ItoaLen
import Derived.Test.YtmepjbjmjbpchaaGreatDoorMg4
import Derived.Test.YtmepjbjmjbpchaaGreatDoorMg7
import Derived.Test.YtmepjbjmjbpchaaGreatDoorMg11
import Derived.Test.YtmepjbjmjbpchaaGreatDoorMg15
section
/- The reference's Split and Join of lists of types; lists of strings that are the same. -/
namespace Go.Proofs.YtmepjbjmjbpchaaGreatDoor
open Go Go.RowKit Go.Sort
set_option linter.unusedVariables false
set_option linter.unusedSimpArgs false

theorem own_below {W W1 : World} {base : Nat} {e : TypeId} {v : Value} {n : Nat} {xs : List Value} (h : W.ownsRow base e 1 v n xs) (hb : Below W.heap.size W W1) : W1.ownsRow base e 1 v n xs :=
  ⟨h.1, by
    rcases h.2 with h | ⟨g, c, cur, h1, h2, h3, h4⟩
    · exact .inl h
    · exact .inr ⟨g, c, cur, h1, h2, blkBelow h3 hb, h4⟩⟩
theorem strSl_own {W : World} {base : Nat} {sa : Option Addr} {sc n : Nat} {ls : List ByteArray} (h : W.ownsRow base 9 1 (.slice sa n sc) n (ls.map .string)) : StrSl W sa ls ∧ ls.length = n := by
  have hln : ls.length = n := by have := h.1; simpa using this
  refine ⟨?_, hln⟩
  rcases h.2 with ⟨h1, h2⟩ | ⟨g, cap, cur, h1, h2, h3, h4, h5, h6, h7⟩
  · cases h1
    exact .inl (List.length_eq_zero_iff.1 (by omega))
  · cases h1
    refine .inr ⟨g, 0, rfl, blkLt h3, fun j hj => ?_⟩
    rw [Nat.zero_add, blkCell h3]
    have h8 : (cur.toList.take (n * 1))[j]? = some (.string ls[j]) := by rw [h7]; simp [hj]
    rw [List.getElem?_take_of_lt (by omega)] at h8
    simpa using h8
/-- Where a slice of the call's own lies. -/
theorem own_at {W : World} {base : Nat} {t : TypeId} {sz : Nat} {sa : Option Addr} {sc n : Nat} {xs : List Value} (h : W.ownsRow base t sz (.slice sa n sc) n xs) : n ≤ sc ∧ ∀ x, sa = some x → base ≤ x.block ∧ x.block < W.heap.size := by
  rcases h.2 with ⟨h1, h2⟩ | ⟨g, cap, cur, h1, hb, h2, h4, _⟩
  · cases h1; exact ⟨by omega, fun x hx => by cases hx⟩
  · cases h1; exact ⟨h4, fun x hx => by cases hx; exact ⟨hb, blkLt h2⟩⟩
def RSplitPost (s : ByteArray) (w : World) (e : Ending) (w' : World) : Prop :=
  Below w.heap.size w w' ∧ match bodyOf s.data.toList with
  | none => e = .returned (.tuple #[.slice none 0 0, .bool false])
  | some l =>
    if l = [] then e = .returned (.tuple #[.slice none 0 0, .bool true])
    else match rsplit l with
    | none => e = .returned (.tuple #[.slice none 0 0, .bool false])
    | some ps => ∃ sa sc ls, e = .returned (.tuple #[.slice sa ps.length sc, .bool (decide (ps.length ≤ 100))]) ∧ StrSl w' sa ls ∧ ls.map (·.data.toList) = ps ∧ ps.length ≤ sc ∧ ∀ x, sa = some x → w.heap.size ≤ x.block ∧ x.block < w'.heap.size
theorem rsp_no {s : ByteArray} {w w' : World} {e : Ending} (h : bodyOf s.data.toList = none ∨ ∃ l, bodyOf s.data.toList = some l ∧ l ≠ [] ∧ rsplit l = none) (he : e = .returned (.tuple #[.slice none 0 0, .bool false])) (hb : Below w.heap.size w w') : RSplitPost s w e w' := by
  refine ⟨hb, ?_⟩
  rcases h with h | ⟨l, h, hl, hr⟩
  · rw [h]; exact he
  · rw [h]; dsimp only; rw [if_neg hl, hr]; exact he
theorem rsp_yes {s : ByteArray} {w w' : World} {e : Ending} {l : List UInt8} {ps : List (List UInt8)} (h : bodyOf s.data.toList = some l) (hl : l ≠ []) (hr : rsplit l = some ps) {sa : Option Addr} {sc : Nat} {ls : List ByteArray}
    (hs : StrSl w' sa ls) (hm : ls.map (·.data.toList) = ps) (he : e = .returned (.tuple #[.slice sa ps.length sc, .bool (decide (ps.length ≤ 100))])) (hb : Below w.heap.size w w') (hc : ps.length ≤ sc ∧ ∀ x, sa = some x → w.heap.size ≤ x.block ∧ x.block < w'.heap.size) : RSplitPost s w e w' := by
  refine ⟨hb, ?_⟩
  rw [h]; dsimp only; rw [if_neg hl, hr]
  exact ⟨sa, sc, ls, he, hs, hm, hc⟩
/-- The world at the head of the loop over the types of a list. -/
structure SpI (w : World) (b0 : List UInt8) (ps : List ByteArray) (sa : Option Addr) (sc : Nat) (rs : ByteArray) (wr : World) : Prop where
  go : rsplit b0 = (rsplit rs.data.toList).map fun r => ps.map (·.data.toList) ++ r
  sz : ps.length + rs.size ≤ 4294967296
  own : wr.ownsRow w.heap.size 9 1 (.slice sa ps.length sc) ps.length (ps.map .string)
  below : Below w.heap.size w wr

set_option maxRecDepth 100000 in
set_option maxHeartbeats 4000000 in
theorem rsplit_loop (s : ByteArray) (w : World) (hs : s.size ≤ 4294967280) (b : ByteArray) (hb : bodyOf s.data.toList = some b.data.toList) (hne : b.data.toList ≠ []) : Calls Tryz.prog 48 #[.string s] w (RSplitPost s w) := by
  have HB := Lib.hid hb
  obtain ⟨hp, hu, he, h2⟩ := bodyOf_some hb
  have hl : s.data.toList.length = s.size := by simp
  rw [hl] at h2
  have hp0 : 0 < s.size := by omega
  have hpl : s.size - 1 < s.size := by omega
  have hq2 : (2 : Int) ≤ (s.size : Int) := by omega
  have hex : s.extract 1 (s.size - 1) = b := by
    apply ByteArray.ext
    apply Array.ext'
    rw [he]
    simp [ByteArray.data_extract, List.drop_take, hl]
  have h40 : (((s[0]'hp0).toNat : Int) != 40) = false := by
    have hd := data_get s 0 hp0
    rw [List.drop_zero] at hd
    rw [hd] at hp
    simp [Lib.hasPrefix, List.isPrefixOf] at hp
    rw [← hp]; rfl
  have h41 : (((s[s.size - 1]'hpl).toNat : Int) != 41) = false := by
    have hne1 : s.data.toList.drop 1 ≠ [] := by intro e; have := congrArg List.length e; simp at this; omega
    rw [suffix_iff hne1, List.getLast_drop, List.getLast_eq_getElem] at hu
    have := eq_of_beq hu
    rw [show s[s.size - 1]'hpl = 41 from by rw [← this]; simp [ByteArray.getElem_eq_getElem_data]]
    rfl
  have hbs : b.size ≤ 4294967280 := by rw [← hex, ByteArray.size_extract]; omega
  have hbne : b.toList.isEmpty = false := by rw [List.isEmpty_eq_false_iff]; intro h; rw [toList_nil_iff] at h; exact hne h
  have HEX := Lib.hid hex
  have HNE := Lib.hid hne
  have HBNE := Lib.hid hbne
  clear hb hp hu he h2 hl hex hne hbne
  go_enter Tryz.func48, Tryz.ntmps48
  go_wp2_with fail
  go_loopw [0, 4] (fun rv ov wr => ∃ (ps : List ByteArray) (sa : Option Addr) (sc : Nat) (rs : ByteArray), rv = .string rs ∧ ov = .slice sa ps.length sc ∧ (rs.toList.isEmpty = false ∨ 0 < ps.length) ∧ SpI w b.data.toList ps sa sc rs wr) (fun rv _ _ => strLen rv)
  case atStart =>
    refine ⟨[], none, 0, s.extract 1 (s.size - 1), rfl, rfl, .inl (by rw [HEX.out]; exact HBNE.out), ?_, ?_, World.ownsRow_nil _ _ _ _, Below.refl _ _⟩
    · rw [HEX.out]; simp
    · rw [HEX.out]; simp; omega
  case round =>
    clear h40 h41 hq2
    obtain ⟨ps, sa, sc, rs, rfl, rfl, hcont, hi⟩ := hrel
    have hsz := hi.sz
    have HI := Lib.hid hi
    clear hi
    have hrs : rs.size ≤ 4294967296 := by omega
    have hcont2 : rs.toList.isEmpty = false ∨ (rs.toList.isEmpty = true ∧ (0 : Int) < (ps.length : Int)) := by
      rcases hcont with h | h
      · exact .inl h
      · cases hrs : rs.toList.isEmpty
        · exact .inl rfl
        · exact .inr ⟨rfl, by omega⟩
    clear hcont
    obtain ⟨i0, hin, hz0, hz1, hz2⟩ := info_parts (show (Tryz.prog.info? 9).map (fun i => (i.zero, i.size, i.bytes)) = some (some (.string ⟨#[]⟩), 1, 16) by kernel_rfl)
    rcases hcont2 with hcont2 | ⟨hcont2, hcont3⟩
    · go_wp2_with fail
      go_loop [5] (fun i => ∃ j : Nat, j ≤ rs.size ∧ i = .int .i64 j ∧ ∀ x ∈ rs.data.toList.take j, x ≠ 44) (fun i => rs.size - (intOf i).toNat)
      case atStart => exact ⟨0, Nat.zero_le _, rfl, by simp⟩
      case round =>
        obtain ⟨j, hj, rfl, hx⟩ := hrel
        have HX := Lib.hid hx
        clear hx
        rcases Nat.lt_or_ge j rs.size with hlt | hge
        · have hget := Lib.hid (bytes_get rs j hlt)
          by_cases hc : ((rs[j]'hlt).toNat : Int) = 44
          · have hb : (((rs[j]'hlt).toNat : Int) != 44) = false := by rw [hc]; rfl
            have hcut : cutOf 44 rs.data.toList = some (rs.data.toList.take j, rs.data.toList.drop (j + 1)) := by
              rw [cutOf_take _ 44 j HX.out (fun x hx => by rw [hget.out] at hx; cases hx; exact byte_eq 44 (by omega) hc), if_pos (by simpa using hlt)]
            have hex : (rs.extract 0 j).data.toList = rs.data.toList.take j := by simp [ByteArray.data_extract]
            have hgo := HI.out.go
            rw [rsplit_more hcut] at hgo
            have hj1 : (j : Int) + 1 ≤ (rs.size : Int) := by omega
            have hjn : ((j : Int) == (rs.size : Int)) = false := by rw [beq_eq_false_iff_ne]; omega
            have hxs : (rs.extract 0 j).size ≤ 4294967296 := by rw [ByteArray.size_extract]; omega
            have HEX := Lib.hid hex
            clear hc hex hcut
            cases hty : isTy (rs.data.toList.take j) with
            | false =>
              rw [hty] at hgo
              have HGO := Lib.hid hgo
              have HTY := Lib.hid hty
              clear hgo hty
              go_wp2_with (go_at_call 38; refine (ris_any _ _ (by omega)).mono ?_; rintro e w1 ⟨rfl, hb1⟩; rw [HEX.out, show (readOf (rs.data.toList.take j)).isSome = false from HTY.out])
              go_ret2
              exact rsp_no (.inr ⟨_, HB.out, HNE.out, by rw [HGO.out]; rfl⟩) rfl (below_own' HI.out.below hb1)
            | true =>
              rw [hty] at hgo
              have HTY := Lib.hid hty
              clear hty
              go_wp2_with fail
              refine (ris_any _ _ (by omega)).mono ?_
              rintro e w1 ⟨rfl, hb1⟩
              rw [HEX.out, show (readOf (rs.data.toList.take j)).isSome = true from HTY.out]
              have HOWN := Lib.hid (own_below HI.out.own hb1)
              have hsz1 := hb1.size
              have hszw := HI.out.below.size
              have HB1 := Lib.hid (below_own' HI.out.below hb1)
              clear hb1
              have hcs : ((rs.size : Int) ≤ (j : Int) + 1 ∧ (rs.data.toList.drop (j + 1)).head? ≠ some 32) ∨ (∃ hk : j + 1 < rs.size, (((rs[j + 1]'hk).toNat : Int) != 32) = true ∧ (rs.data.toList.drop (j + 1)).head? ≠ some 32) ∨ (∃ hk : j + 1 < rs.size, (((rs[j + 1]'hk).toNat : Int) != 32) = false ∧ (rs.data.toList.drop (j + 1)).head? = some 32) := by
                rcases Nat.lt_or_ge (j + 1) rs.size with hk | hk
                · have hd : (rs.data.toList.drop (j + 1)).head? = some (rs[j + 1]'hk) := by rw [List.head?_drop]; exact bytes_get rs (j + 1) hk
                  by_cases h32 : ((rs[j + 1]'hk).toNat : Int) = 32
                  · refine .inr (.inr ⟨hk, by rw [h32]; rfl, by rw [hd, byte_eq 32 (by omega) h32]; rfl⟩)
                  · refine .inr (.inl ⟨hk, by rw [bne_iff_ne]; exact h32, by rw [hd]; intro he; exact byte_ne 32 (by omega) h32 (Option.some.inj he)⟩)
                · refine .inl ⟨by omega, ?_⟩
                  rw [List.drop_of_length_le (by simp; omega)]
                  simp
              go_wp2_with (at_builtin; refine wpList_append_own _ rfl _ _ 25 rfl w.heap.size 9 i0 (.string ⟨#[]⟩) 1 16 Tryz.underlying25 hin hz0 hz1 hz2 rfl (by decide) _ _ _ rfl (HOWN.out.alloc _) ⟨w1.heap.size, 0, none⟩ 1 1 [.string (rs.extract 0 j)] rfl rfl ?c1 ?c2 ?c3 ?c4 ?c5 ?_)
              case c1 =>
                intro t u hj
                match t, hj with
                | 0, hj => simp at hj; subst hj; simp [Addr.add]
              case c2 => intro u hu; simp at hu; subst hu; rfl
              case c3 => unfold maxLen; omega
              case c4 => omega
              case c5 => simp; omega
              intro v' w3 hown' hgrow _
              obtain ⟨sa', sc', rfl⟩ := own_slice hown'
              have HOWN3 := Lib.hid (show w3.ownsRow w.heap.size 9 1 (.slice sa' (ps.length + 1) sc') (ps.length + 1) ((ps ++ [rs.extract 0 j]).map .string) by simpa using hown')
              have HB3 := Lib.hid ((belowA HB1.out (.cells #[.string (rs.extract 0 j)] 9)).grown hgrow (by simp; omega) (fun k hk => (HOWN.out.lt k hk).1))
              clear hown'
              rcases hcs with ⟨hk, h32⟩ | ⟨hk, hk2, h32⟩ | ⟨hk, hk2, h32⟩
              · rw [if_neg h32] at hgo
                have HGO := Lib.hid hgo
                clear hgo h32
                go_wp2_with fail
                go_ret2
                exact rsp_no (.inr ⟨_, HB.out, HNE.out, by rw [HGO.out]; rfl⟩) rfl HB3.out
              · rw [if_neg h32] at hgo
                have HGO := Lib.hid hgo
                have hk3 : (j : Int) + 1 < (rs.size : Int) := by omega
                clear hgo h32
                go_wp2_with fail
                go_ret2
                exact rsp_no (.inr ⟨_, HB.out, HNE.out, by rw [HGO.out]; rfl⟩) rfl HB3.out
              · rw [if_pos h32] at hgo
                have HGO := Lib.hid hgo
                have hk3 : (j : Int) + 1 < (rs.size : Int) := by omega
                have hk4 : (j : Int) + 2 ≤ (rs.size : Int) := by omega
                clear hgo h32
                go_wp2_with fail
                go_roundw
                · refine ⟨ps ++ [rs.extract 0 j], sa', sc', rs.extract (j + 2) rs.size, rfl, by simp, .inr (by simp), ?_, by simp [ByteArray.size_extract]; omega, by simpa using HOWN3.out, HB3.out⟩
                  rw [HGO.out]
                  have hxe : (rs.extract (j + 2) rs.size).data.toList = (rs.data.toList.drop (j + 1)).tail := by
                    simp [ByteArray.data_extract]
                    exact List.take_of_length_le (by simp)
                  rw [hxe]
                  cases rsplit (rs.data.toList.drop (j + 1)).tail with
                  | none => rfl
                  | some r => simp
                · simp [strLen]; omega
          · have hb : (((rs[j]'hlt).toNat : Int) != 44) = true := by rw [bne_iff_ne]; exact hc
            have hne := Lib.hid (byte_ne (c := rs[j]'hlt) 44 (by omega) hc)
            clear hc
            go_wp2_with fail
            go_round
            case rel => exact ⟨j + 1, by omega, by go_num, take_ne HX.out hget.out hne.out⟩
            case measure => simp [intOf]; omega
        · have hje : j = rs.size := by omega
          subst hje
          have hcut : cutOf 44 rs.data.toList = none := by
            rw [cutOf_take _ 44 rs.size HX.out (by simp), if_neg (by simp)]
          have hgo := HI.out.go
          rw [rsplit_last hcut] at hgo
          cases hty : isTy rs.data.toList with
          | false =>
            rw [hty] at hgo
            have HGO := Lib.hid hgo
            have HTY := Lib.hid hty
            clear hgo hty hcut
            go_wp2_with (go_at_call 38; refine (ris_any _ _ (by omega)).mono ?_; rintro e w1 ⟨rfl, hb1⟩; rw [show (readOf rs.data.toList).isSome = false from HTY.out])
            go_ret2
            exact rsp_no (.inr ⟨_, HB.out, HNE.out, by rw [HGO.out]; rfl⟩) rfl (below_own' HI.out.below hb1)
          | true =>
            rw [hty] at hgo
            have HGO := Lib.hid hgo
            have HTY := Lib.hid hty
            clear hgo hty hcut
            go_wp2_with fail
            refine (ris_any _ _ (by omega)).mono ?_
            rintro e w1 ⟨rfl, hb1⟩
            rw [show (readOf rs.data.toList).isSome = true from HTY.out]
            have HOWN := Lib.hid (own_below HI.out.own hb1)
            have hsz1 := hb1.size
            have hszw := HI.out.below.size
            have HB1 := Lib.hid (below_own' HI.out.below hb1)
            clear hb1
            go_wp2_with (at_builtin; refine wpList_append_own _ rfl _ _ 25 rfl w.heap.size 9 i0 (.string ⟨#[]⟩) 1 16 Tryz.underlying25 hin hz0 hz1 hz2 rfl (by decide) _ _ _ rfl (HOWN.out.alloc _) ⟨w1.heap.size, 0, none⟩ 1 1 [.string rs] rfl rfl ?c1 ?c2 ?c3 ?c4 ?c5 ?_)
            case c1 =>
              intro t u hj
              match t, hj with
              | 0, hj => simp at hj; subst hj; simp [Addr.add]
            case c2 => intro u hu; simp at hu; subst hu; rfl
            case c3 => unfold maxLen; omega
            case c4 => omega
            case c5 => simp; omega
            intro v' w3 hown' hgrow _
            obtain ⟨sa', sc', rfl⟩ := own_slice hown'
            have HOWN3 := Lib.hid (show w3.ownsRow w.heap.size 9 1 (.slice sa' (ps.length + 1) sc') (ps.length + 1) ((ps ++ [rs]).map .string) by simpa using hown')
            have HB3 := Lib.hid ((belowA HB1.out (.cells #[.string rs] 9)).grown hgrow (by simp; omega) (fun k hk => (HOWN.out.lt k hk).1))
            have hlen : ((ps.length : Int) + 1 ≤ 100) = (ps.length + 1 ≤ 100) := by rw [eq_iff_iff]; omega
            have HLEN := Lib.hid hlen
            clear hown' hlen
            go_wp2_with fail
            go_ret2
            obtain ⟨hsl, -⟩ := strSl_own HOWN3.out
            refine rsp_yes (sa := sa') (sc := sc') (ls := ps ++ [rs]) HB.out HNE.out HGO.out hsl (by simp) ?_ HB3.out (by have := own_at HOWN3.out; simpa using this)
            have hd : decide ((ps.length : Int) + 1 ≤ 100) = decide (ps.length + 1 ≤ 100) := by rw [Bool.eq_iff_iff]; simp; omega
            simp [hd]
    · have hr0 : rs = ⟨#[]⟩ := by
        apply ByteArray.ext
        apply Array.ext'
        have := List.isEmpty_iff.1 hcont2
        rw [toList_nil_iff] at this
        exact this
      subst hr0
      have hgo := HI.out.go
      rw [rsplit_last (l := (⟨#[]⟩ : ByteArray).data.toList) rfl] at hgo
      have hty : isTy (⟨#[]⟩ : ByteArray).data.toList = false := by rfl
      rw [hty] at hgo
      have HGO := Lib.hid hgo
      clear hgo hty hcont2 hrs hsz
      go_wp2_with fail
      go_loop [5] (fun i => i = .int .i64 0) (fun i => 0)
      case atStart => rfl
      case round =>
        subst hrel
        go_wp2_with fail
        refine (ris_any ByteArray.empty _ (by decide)).mono ?_
        rintro e w1 ⟨rfl, hb1⟩
        rw [show (readOf ByteArray.empty.data.toList).isSome = false from rfl]
        go_wp2_with fail
        go_ret2
        exact rsp_no (.inr ⟨_, HB.out, HNE.out, by rw [HGO.out]; rfl⟩) rfl (below_own' HI.out.below hb1)

theorem bodyOf_none {l : List UInt8} (h : bodyOf l = none) : l.length < 2 ∨ (2 ≤ l.length ∧ l.head? ≠ some 40) ∨ (2 ≤ l.length ∧ l.head? = some 40 ∧ l.getLast? ≠ some 41) := by
  rcases Nat.lt_or_ge l.length 2 with h2 | h2
  · exact .inl h2
  · by_cases h40 : l.head? = some 40
    · refine .inr (.inr ⟨h2, h40, ?_⟩)
      intro hl
      match l, h2, h40, hl with
      | c :: r, h2, h40, hl =>
        simp at h40
        subst h40
        have hr : r ≠ [] := by intro e; subst e; simp at h2
        rw [List.getLast?_cons_of_ne_nil hr, List.getLast?_eq_some_getLast hr] at hl
        unfold bodyOf at h
        have h1 : Lib.hasPrefix ((40 : UInt8) :: r) [40] = true := by simp [Lib.hasPrefix, List.isPrefixOf]
        have h3 : Lib.hasSuffix ((40 : UInt8) :: r).tail [41] = true := by
          rw [List.tail_cons, suffix_iff hr]
          simpa using hl
        rw [h1, h3] at h
        simp at h
    · exact .inr (.inl ⟨h2, h40⟩)
set_option maxRecDepth 100000 in
set_option maxHeartbeats 2000000 in
theorem rsplit_no (s : ByteArray) (w : World) (hs : s.size ≤ 4294967280) (hb : bodyOf s.data.toList = none) : Calls Tryz.prog 48 #[.string s] w (RSplitPost s w) := by
  have hl : s.data.toList.length = s.size := by simp
  have hc := bodyOf_none hb
  rw [hl] at hc
  have HB := Lib.hid hb
  have hcs : s.size < 2 ∨ (∃ hp0 : 0 < s.size, 2 ≤ s.size ∧ (((s[0]'hp0).toNat : Int) != 40) = true) ∨ (∃ (hp0 : 0 < s.size) (hpl : s.size - 1 < s.size), 2 ≤ s.size ∧ (((s[0]'hp0).toNat : Int) != 40) = false ∧ (((s[s.size - 1]'hpl).toNat : Int) != 41) = true) := by
    rcases hc with h | ⟨h2, h⟩ | ⟨h2, h, h'⟩
    · exact .inl h
    · have hp0 : 0 < s.size := by omega
      refine .inr (.inl ⟨hp0, h2, ?_⟩)
      have hd := data_get s 0 hp0
      rw [List.drop_zero] at hd
      rw [hd] at h
      rw [bne_iff_ne]
      intro he
      exact h (by rw [byte_eq 40 (by omega) he]; rfl)
    · have hp0 : 0 < s.size := by omega
      have hpl : s.size - 1 < s.size := by omega
      refine .inr (.inr ⟨hp0, hpl, h2, ?_, ?_⟩)
      · have hd := data_get s 0 hp0
        rw [List.drop_zero] at hd
        rw [hd] at h
        simp at h
        rw [h]; rfl
      · rw [bne_iff_ne]
        intro he
        apply h'
        have := byte_eq (c := s[s.size - 1]'hpl) 41 (by omega) he
        rw [List.getLast?_eq_getElem?, hl, bytes_get s (s.size - 1) hpl, this]
        rfl
  clear hb hc hl
  rcases hcs with h | ⟨hp0, h2, h⟩ | ⟨hp0, hpl, h2, h, h'⟩
  · have hq : decide ((s.size : Int) < 2) = true := by simp; omega
    have hq2 : (s.size : Int) < 2 := by omega
    go_enter Tryz.func48, Tryz.ntmps48
    go_wp2_with fail
    go_ret2
    exact rsp_no (.inl HB.out) rfl (Below.refl _ _)
  all_goals
    have hq : decide ((s.size : Int) < 2) = false := by simp; omega
    have hq2 : (2 : Int) ≤ (s.size : Int) := by omega
    go_enter Tryz.func48, Tryz.ntmps48
    go_wp2_with fail
    go_ret2
    exact rsp_no (.inl HB.out) rfl (Below.refl _ _)
set_option maxRecDepth 100000 in
set_option maxHeartbeats 2000000 in
theorem rsplit_empty (s : ByteArray) (w : World) (hb : bodyOf s.data.toList = some []) : Calls Tryz.prog 48 #[.string s] w (RSplitPost s w) := by
  obtain ⟨hp, hu, he, h2⟩ := bodyOf_some hb
  have hl : s.data.toList.length = s.size := by simp
  have hsz : s.size = 2 := by
    have := congrArg List.length he
    simp at this
    omega
  have hs : s = ⟨#[40, 41]⟩ := by
    apply ByteArray.ext
    apply Array.ext'
    match hd : s.data.toList, hl with
    | [a, b], hl =>
      rw [hd] at hp hu
      simp [Lib.hasPrefix, Lib.hasSuffix, List.isPrefixOf, List.isSuffixOf] at hp hu
      rw [← hp, ← hu]
    | [], hl => simp at hl; omega
    | [a], hl => simp at hl; omega
    | a :: b :: c :: r, hl => simp at hl; omega
  subst hs
  clear hb hp hu he h2 hl hsz
  go_enter Tryz.func48, Tryz.ntmps48
  go_wp2_with fail
  go_loop [0, 4] (fun sv ov => sv = .string ⟨#[]⟩ ∧ ov = .slice none 0 0) (fun _ _ => 0)
  case atStart => exact ⟨rfl, rfl⟩
  case round =>
    obtain ⟨rfl, rfl⟩ := hrel
    go_wp2_with fail
    go_ret2
    refine ⟨Below.refl _ _, ?_⟩
    rw [show bodyOf (⟨#[40, 41]⟩ : ByteArray).data.toList = some [] from rfl]
    rfl
theorem rsplit_any (s : ByteArray) (w : World) (hs : s.size ≤ 4294967280) : Calls Tryz.prog 48 #[.string s] w (RSplitPost s w) := by
  cases hb : bodyOf s.data.toList with
  | none => exact rsplit_no s w hs hb
  | some l =>
    by_cases hl : l = []
    · subst hl; exact rsplit_empty s w hb
    · exact rsplit_loop s w hs ⟨l.toArray⟩ hb hl

end Go.Proofs.YtmepjbjmjbpchaaGreatDoor
end
section
/- Package attrs: the strings of values, kind by kind. -/
namespace Go.Proofs.YtmepjbjmjbpchaaGreatDoor
open Go Go.RowKit
set_option linter.unusedVariables false
set_option linter.unusedSimpArgs false

/-- A number's digits as a string. -/
def itoaB (z : Int) : ByteArray := ⟨(Lib.itoa z).toArray⟩
theorem itoaB_size (z : Int) (h0 : -9223372036854775808 ≤ z) (h1 : z ≤ 9223372036854775807) : (itoaB z).size ≤ 21 := by
  simpa [itoaB, ByteArray.size] using Lib.itoa_length_le z h0 h1
theorem fmt_any (n : Int) (h0 : -9223372036854775808 ≤ n) (h1 : n ≤ 9223372036854775807) (w : World) (hp : Pow w) :
    Calls Tryz.prog 136 #[.int .i64 n, .int .i64 10] w fun e w' => ∃ t : ByteArray, e = .returned (.string t) ∧ Hid (t = itoaB n) ∧ Below w.heap.size w w' := by
  have hc := (Tryz.internal_strconv_FormatInt_10 n h0 h1 w hp).mono (R' := fun e w' => ∃ t : ByteArray, e = .returned (.string t) ∧ Hid (t = itoaB n) ∧ Below w.heap.size w w') fun e w' ⟨he, k, os, hw⟩ => ⟨_, he, rfl, by rw [hw]; exact below_grow w k os⟩
  have HC := Lib.hid hc
  clear hc
  go_enter Tryz.func136, Tryz.ntmps136
  go_wp2_with (go_at_call 155; refine HC.out.mono ?_; rintro e w1 ⟨t, rfl, ht, hb⟩)
  go_ret
  exact ⟨t, rfl, ht, hb⟩
theorem join_sl' {w : World} {a : Option Addr} {ls : List ByteArray} (h : StrSl w a ls) (c : Nat) (hc : ls.length ≤ c) (hN : ls.length ≤ 140737488355328) (hl : (Lib.join (ls.map (·.data.toList)) [44, 32]).length ≤ 140737488355328) :
    Calls Tryz.prog 79 #[.slice a ls.length c, .string ⟨#[44, 32]⟩] w fun e w' => ∃ t : ByteArray, e = .returned (.string t) ∧ Hid (t.data.toList = Lib.join (ls.map (·.data.toList)) [44, 32]) ∧ t.size ≤ 140737488355328 ∧ Below w.heap.size w w' := by
  rcases h with rfl | ⟨g, off, rfl, h2, h3⟩
  · exact (Tryz.strings_Join_none a c ⟨#[44, 32]⟩ w).mono fun e w' ⟨he, hw⟩ => ⟨_, he, rfl, by simp [ByteArray.size], by rw [hw]; exact Below.refl _ _⟩
  · refine (Tryz.strings_Join g off c ls ⟨#[44, 32]⟩ w (fun j x hx => ?_) h2 hN hc (by simpa using hl)).mono fun e w' ⟨he, hb⟩ => ⟨_, he, rfl, by simpa [ByteArray.size] using hl, hb⟩
    obtain ⟨hj, rfl⟩ := List.getElem?_eq_some_iff.1 hx
    exact h3 j hj
theorem join_len (b : Nat) (xs : List (List UInt8)) (h : ∀ x ∈ xs, x.length ≤ b) : (Lib.join xs [44, 32]).length ≤ (b + 2) * xs.length := by
  cases xs with
  | nil => simp [Lib.join_nil]
  | cons x r =>
    rw [Lib.join_length]
    have := lens_le b (x :: r) h
    simp [Nat.add_mul, Nat.mul_add] at this ⊢
    omega

/-- The string of a value. -/
def valD (d : Dat) : List UInt8 :=
  if d.kind = 0 then Lib.itoa d.num else if d.kind = 1 then quoteL d.text.data.toList else if d.kind = 2 then 64 :: d.text.data.toList
  else if d.kind = 3 then d.text.data.toList else if d.kind = 4 then 91 :: (Lib.join ((d.ints.map itoaB).map (·.data.toList)) [44, 32] ++ [93])
  else (joinOf d.texts).1

section
variable (nm : ByteArray) (k n : Int) (tx : ByteArray) (ia : Option Addr) (il ic : Nat) (ta : Option Addr) (tl tc : Nat) (w : World)
theorem vnumber_any (h0 : -9223372036854775808 ≤ n) (h1 : n ≤ 9223372036854775807) (hp : Pow w) :
    Calls Tryz.prog 102 #[av nm k n tx ia il ic ta tl tc] w fun e w' => e = .returned (.string (itoaB n)) ∧ Below w.heap.size w w' := by
  have HP := Lib.hid hp
  clear hp
  go_enter Tryz.func102, Tryz.ntmps102
  go_wp2_with (go_at_call 136; refine (fmt_any n h0 h1 _ (pow_below HP.out ((Below.refl _ w).alloc (Nat.le_refl _) _))).mono ?_; rintro e w1 ⟨t, rfl, ht, hb1⟩)
  go_ret
  exact ⟨by rw [ht.out]; rfl, below_own hb1⟩
theorem symbol_any (hx : tx.size ≤ 140737488351232) : Calls Tryz.prog 107 #[av nm k n tx ia il ic ta tl tc] w fun e w' => e = .returned (.string (⟨#[64]⟩ ++ tx)) ∧ Below w.heap.size w w' := by
  go_enter Tryz.func107, Tryz.ntmps107
  go_wp2_with fail
  go_ret
  exact ⟨rfl, (Below.refl _ w).alloc (Nat.le_refl _) _⟩
theorem same_any : Calls Tryz.prog 109 #[av nm k n tx ia il ic ta tl tc] w fun e w' => e = .returned (.string tx) ∧ Below w.heap.size w w' := by
  go_enter Tryz.func109, Tryz.ntmps109
  go_wp2_with fail
  go_ret
  exact ⟨rfl, (Below.refl _ w).alloc (Nat.le_refl _) _⟩
theorem quoted_any (hs : tx.size ≤ 1000) : Calls Tryz.prog 105 #[av nm k n tx ia il ic ta tl tc] w fun e w' => e = .returned (.string ⟨(quoteL tx.data.toList).toArray⟩) ∧ Below w.heap.size w w' := by
  go_enter Tryz.func105, Tryz.ntmps105
  go_wp2_with (go_at_call 137; refine (quote_any tx _ (by omega)).mono ?_; rintro e w1 ⟨rfl, hb1⟩)
  go_ret
  exact ⟨rfl, below_own hb1⟩
theorem types_any (ls : List ByteArray) (hs : StrSl w ta ls) (hlen : ls.length ≤ 9223372036854775807) (hc : ls.length ≤ tc) (hl : ∀ s ∈ ls, s.size ≤ 140737488355328) :
    Calls Tryz.prog 114 #[av nm k n tx ia il ic ta ls.length tc] w fun e w' => e = .returned (.string ⟨(joinOf ls).1.toArray⟩) ∧ Below w.heap.size w w' := by
  have hb0 := (Below.refl w.heap.size w).alloc (Nat.le_refl _) (.cells (avCells nm k n tx ia il ic ta ls.length tc) 120)
  have HJ := Lib.hid (joinT_any ta tc ls _ (hs.below hb0) hlen hc hl)
  clear hb0 hs hl
  go_enter Tryz.func114, Tryz.ntmps114
  go_wp2_with (go_at_call 138; refine HJ.out.mono ?_; rintro e w1 ⟨rfl, hb1⟩)
  go_ret
  exact ⟨by simp, below_own hb1⟩
set_option maxRecDepth 100000 in
set_option maxHeartbeats 2000000 in
theorem ints_any (zs : List Int) (hs : IntSl w ia zs) (hlen : zs.length ≤ 100) (hz : ∀ z ∈ zs, -9223372036854775808 ≤ z ∧ z ≤ 9223372036854775807) (hp : Pow w) :
    Calls Tryz.prog 112 #[av nm k n tx ia zs.length ic ta tl tc] w fun e w' => e = .returned (.string ⟨(91 :: (Lib.join ((zs.map itoaB).map (·.data.toList)) [44, 32] ++ [93])).toArray⟩) ∧ Below w.heap.size w w' := by
  obtain ⟨i0, hin, hz0, hz1, hz2⟩ := info_parts (show (Tryz.prog.info? 9).map (fun i => (i.zero, i.size, i.bytes)) = some (some (.string ⟨#[]⟩), 1, 16) by kernel_rfl)
  have HS := Lib.hid hs
  have HZ := Lib.hid hz
  have HP := Lib.hid hp
  obtain ⟨N, hN⟩ : ∃ N, N = zs.length := ⟨_, rfl⟩
  rw [← hN] at hlen ⊢
  have HN := Lib.hid hN
  have hjl : Hid ((Lib.join ((zs.map itoaB).map (·.data.toList)) [44, 32]).length ≤ 10000) := Lib.hid (by
    have := join_len 21 ((zs.map itoaB).map (·.data.toList)) (fun x hx => by
      simp only [List.mem_map] at hx
      obtain ⟨y, ⟨z, hzm, rfl⟩, rfl⟩ := hx
      simpa using itoaB_size z (HZ.out z hzm).1 (HZ.out z hzm).2)
    simp at this ⊢; omega)
  clear hs hz hp hN
  go_enter Tryz.func112, Tryz.ntmps112
  go_wp2_with fail
  go_loopw [3, 9] (fun v i wr => ∃ (j : Nat) (sa : Option Addr) (sc : Nat), v = .slice sa j sc ∧ i = .int .i64 j ∧ j ≤ N ∧ wr.ownsRow w.heap.size 9 1 (.slice sa j sc) j (((zs.map itoaB).take j).map .string) ∧ Below w.heap.size w wr) (fun _ i _ => N - (intOf i).toNat)
  case atStart => exact ⟨0, none, 0, rfl, rfl, Nat.zero_le _, World.ownsRow_nil _ _ _ _, (Below.refl _ w).alloc (Nat.le_refl _) _⟩
  case round =>
    obtain ⟨j, sa, sc, rfl, rfl, hj, ho, hb⟩ := hrel
    have HO := Lib.hid ho
    have HB := Lib.hid hb
    have hszw := hb.size
    clear ho hb
    rcases Nat.lt_or_ge j N with hlt | hge
    · have hl0 : j < zs.length := by rw [← HN.out]; exact hlt
      obtain ⟨g, off, rfl, hg, hcell⟩ := (HS.out.below HB.out).at hl0
      have hlt' : (j : Int) < (N : Int) := by omega
      obtain ⟨z, hze⟩ : ∃ z, z = zs.getD j 0 := ⟨_, rfl⟩
      rw [← hze] at hcell
      have hzm : z ∈ zs := by rw [hze, List.getD_eq_getElem?_getD, List.getElem?_eq_getElem hl0]; exact List.getElem_mem _
      obtain ⟨z0, z1⟩ := HZ.out z hzm
      have HTK : Hid ((zs.map itoaB).take (j + 1) = (zs.map itoaB).take j ++ [itoaB z]) := Lib.hid (by
        rw [List.take_add_one, List.getElem?_map, List.getElem?_eq_getElem hl0, hze, List.getD_eq_getElem?_getD, List.getElem?_eq_getElem hl0]; rfl)
      have hj9 : j < 100 := by omega
      clear hze hzm
      go_wp2_with (first
        | (go_at_call 136; refine (fmt_any z z0 z1 wr (pow_below HP.out HB.out)).mono ?_; rintro e w2 ⟨t, rfl, ht, hb2⟩)
        | (at_builtin; refine wpList_append_own _ rfl _ _ 25 rfl w.heap.size 9 i0 (.string ⟨#[]⟩) 1 16 Tryz.underlying25 hin hz0 hz1 hz2 rfl (by decide) _ _ _ rfl ((own_below HO.out hb2).alloc _) ⟨w2.heap.size, 0, none⟩ 1 1 [.string t] rfl rfl ?c1 ?c2 ?c3 ?c4 ?c5 ?_))
      case c1 =>
        intro t u hj
        match t, hj with
        | 0, hj => simp at hj; subst hj; simp [Addr.add]
      case c2 => intro u hu; simp at hu; subst hu; rfl
      case c3 => unfold maxLen; omega
      case c4 => omega
      case c5 => simp; have := hb2.size; omega
      intro v' w3 hown' hgrow _
      obtain ⟨sa', sc', rfl⟩ := own_slice hown'
      have HOWN3 := Lib.hid (show w3.ownsRow w.heap.size 9 1 (.slice sa' (j + 1) sc') (j + 1) (((zs.map itoaB).take (j + 1)).map .string) by rw [HTK.out, ← ht.out]; simpa using hown')
      have hszb := hb2.size
      have HB3 := Lib.hid ((belowA (below_own' HB.out hb2) (.cells #[.string t] 9)).grown hgrow (by simp; omega) (fun k hk => ((own_below HO.out hb2).lt k hk).1))
      clear hown'
      go_wp2_with fail
      go_roundw
      · exact ⟨j + 1, sa', sc', by go_num, by go_num, by omega, HOWN3.out, HB3.out⟩
      · simp [intOf]; omega
    · obtain rfl : N = j := by omega
      have htk : (zs.map itoaB).take N = zs.map itoaB := List.take_of_length_le (by simp [HN.out])
      have ho := HO.out
      rw [htk] at ho
      have hlm : (zs.map itoaB).length = N := by simp [HN.out]
      have hsl := own_strs (zs := zs.map itoaB) ho
      obtain ⟨sa', sc', he, hcap, -⟩ := own_form ho
      cases he
      have HJ := Lib.hid (join_sl' hsl sc (by rw [hlm]; exact hcap) (by rw [hlm]; omega) (Nat.le_trans hjl.out (by omega)))
      rw [hlm] at HJ
      clear hcap ho hsl hlm htk
      go_wp2_with (go_at_call 79; refine HJ.out.mono ?_; rintro e w2 ⟨t, rfl, ht, hts, hb2⟩)
      go_ret
      refine ⟨?_, below_own' HB.out hb2⟩
      have e1 : (⟨#[91]⟩ ++ t ++ ⟨#[93]⟩ : ByteArray) = ⟨(91 :: (Lib.join ((zs.map itoaB).map (·.data.toList)) [44, 32] ++ [93])).toArray⟩ := by
        apply ByteArray.ext
        apply Array.ext'
        rw [← ht.out]
        simp
      rw [← e1]; rfl
end
end Go.Proofs.YtmepjbjmjbpchaaGreatDoor
end
