/- Texts of this claim, laid together: Aq8, Aq9, AqA, AqB, AqC. -/
import Derived.Test.YtmepjbjmjbpchaaGreatDoorMg24
section
/- graph.Unquote at a string that begins with a quote: the walk. -/
namespace Go.Proofs.YtmepjbjmjbpchaaGreatDoor
open Go Go.RowKit Go.Sort
set_option linter.unusedVariables false
set_option linter.unusedSimpArgs false

def UqPost (s : ByteArray) (w : World) (e : Ending) (w' : World) : Prop :=
  ∃ (t : ByteArray) (ok : Bool), e = .returned (.tuple #[.string t, .bool ok]) ∧ t.size ≤ s.size ∧ (∀ t0, s.data.toList = quoteL t0 → t.data.toList = t0) ∧ Below w.heap.size w w'
/-- What the loop carries. -/
structure UqI (w wr : World) (b : ByteArray) (j L : Nat) (E : ByteArray) (pre : List UInt8) : Prop where
  bld : QtI w pre wr
  len : pre.length ≤ j
  two : L ≤ 2
  esc : L = 0 → E = ⟨#[]⟩
  sz : E.size ≤ 3
  one : L = 1 → E.size ≤ 3
  dbl : L = 2 → E.size = 1
  at' : ∀ st, uqL ([], 0, []) (b.data.toList.take j) = some st → st = (pre, L, E.data.toList)
theorem byte_of {r : Int} (h0 : 0 ≤ r) (h1 : r ≤ 255) : ∃ r8 : UInt8, r = (r8.toNat : Int) := ⟨UInt8.ofNat r.toNat, by rw [UInt8.toNat_ofNat']; omega⟩
theorem uqL_take {b : ByteArray} {j : Nat} (hj : j < b.size) {st : List UInt8 × Nat × List UInt8} (h : uqL ([], 0, []) (b.data.toList.take (j + 1)) = some st) : ∃ st1, uqL ([], 0, []) (b.data.toList.take j) = some st1 ∧ uqS st1 (b[j]'hj) = some st := by
  have hl : j < b.data.toList.length := by simpa using hj
  rw [List.take_succ_eq_append_getElem hl] at h
  exact uqL_snoc h
theorem UqI.next {w wr wr' : World} {b : ByteArray} {j L L' : Nat} {E E' : ByteArray} {pre pre' : List UInt8} {c : UInt8} (h : UqI w wr b j L E pre) (hj : j < b.size) (hc : c = b[j]'hj) (hq : QtI w pre' wr') (hlen : pre'.length ≤ j + 1) (h2 : L' ≤ 2) (he : L' = 0 → E' = ⟨#[]⟩) (hz : E'.size ≤ 3) (hd : L' = 2 → E'.size = 1)
    (ha : ∀ st, uqS (pre, L, E.data.toList) c = some st → st = (pre', L', E'.data.toList)) : UqI w wr' b (j + 1) L' E' pre' :=
  ⟨hq, hlen, h2, he, hz, fun _ => hz, hd, fun st hst => by
    obtain ⟨st1, h1, h3⟩ := uqL_take hj hst
    rw [h.at' st1 h1, ← hc] at h3
    exact ha st h3⟩
theorem uqL_prefix {l : List UInt8} {st st2 : List UInt8 × Nat × List UInt8} (h : uqL st l = some st2) (k : Nat) : ∃ st1, uqL st (l.take k) = some st1 := by
  rw [← List.take_append_drop k l, uqL_append] at h
  cases h1 : uqL st (l.take k) with
  | none => rw [h1] at h; cases h
  | some st1 => exact ⟨st1, rfl⟩
theorem UqI.no {w wr : World} {b s : ByteArray} {j L : Nat} {E : ByteArray} {pre : List UInt8} {c : UInt8} (h : UqI w wr b j L E pre) (hj : j < b.size) (hc : c = b[j]'hj) (hQ : ∀ t0, s.data.toList = quoteL t0 → b.data.toList = escL t0) (hn : uqS (pre, L, E.data.toList) c = none) : ∀ t0, ¬ s.data.toList = quoteL t0 := by
  intro t0 ht
  have h1 := uq_all t0 []
  rw [← hQ t0 ht] at h1
  obtain ⟨st, hst⟩ := uqL_prefix h1 (j + 1)
  obtain ⟨st1, h2, h3⟩ := uqL_take hj hst
  rw [h.at' st1 h2, ← hc, hn] at h3
  cases h3
theorem UqI.end' {w wr : World} {b s : ByteArray} {L : Nat} {E : ByteArray} {pre : List UInt8} (h : UqI w wr b b.size L E pre) (hQ : ∀ t0, s.data.toList = quoteL t0 → b.data.toList = escL t0) : ∀ t0, s.data.toList = quoteL t0 → pre = t0 := by
  intro t0 ht
  have h1 := uq_all t0 []
  rw [← hQ t0 ht] at h1
  have h2 := h.at' _ (by rw [List.take_of_length_le (by simp)]; exact h1)
  exact (congrArg Prod.fst h2).symm
set_option maxRecDepth 100000 in
set_option maxHeartbeats 16000000 in
theorem unquote_any (s : ByteArray) (w : World) (h2 : 2 ≤ s.size) (hs : s.size ≤ 4294967280) (hc : (s[0]'(by omega)).toNat = 34) (hlast : (s[s.size - 1]'(by omega)).toNat = 34) (hg : GlobE w) :
    Calls Tryz.prog 72 #[.string s] w (UqPost s w) := by
  have h0 : QtI w [] (w.alloc (.cells #[.pointer none, .slice none 0 0] 136)) := ⟨Lib.fresh_isBuilder _ _ w, (Below.refl _ w).alloc (Nat.le_refl _) _⟩
  have H0 := Lib.hid h0
  have HG := Lib.hid hg
  obtain ⟨b, hb⟩ : ∃ b, b = s.extract 1 (s.size - 1) := ⟨_, rfl⟩
  have hbz : b.size + 2 = s.size := by rw [hb, ByteArray.size_extract]; omega
  have HQ : Hid (∀ t0, s.data.toList = quoteL t0 → b.data.toList = escL t0) := Lib.hid fun t0 h => by
    rw [hb, Lib.extract_data, h]
    unfold quoteL
    have hl : s.size = (escL t0).length + 2 := by
      have := congrArg List.length h
      rw [Array.length_toList] at this
      have h3 : s.data.size = s.size := rfl
      simp [quoteL] at this
      omega
    rw [hl]
    simp
  have hbd : s.extract 1 (s.size - 1) = b := hb.symm
  have hlq : ((s.size : Int) - 1).toNat = s.size - 1 := by omega
  have g1 : ¬ (s.size : Int) < 2 := by omega
  have g2 : (1 : Int) ≤ (s.size : Int) - 1 := by omega
  have g3 : (0 : Int) < (s.size : Int) := by omega
  have g4 : (s.size : Int) ≤ 4294967280 := by omega
  have HBZ := Lib.hid hbz
  clear h0 hg hb hbz
  go_enter Tryz.func72, Tryz.ntmps72
  go_wp2_with fail
  go_loopw [6, 7, 35] (fun vl ve vi wr => ∃ (j L : Nat) (E : ByteArray) (pre : List UInt8), vl = .int .i64 L ∧ ve = .string E ∧ vi = .int .i64 j ∧ j ≤ b.size ∧ UqI w wr b j L E pre) (fun _ _ vi _ => b.size - (intOf vi).toNat)
  case atStart => exact ⟨0, 0, ⟨#[]⟩, [], rfl, rfl, rfl, Nat.zero_le _, ⟨H0.out, by simp, by omega, fun _ => rfl, by decide, fun h => by omega, fun h => by omega, fun st h => (Option.some.inj h).symm⟩⟩
  case round =>
    obtain ⟨j, L, E, pre, rfl, rfl, rfl, hj, hI⟩ := hrel
    have HI := Lib.hid hI
    clear hI
    have hsz := HI.out.sz
    have h2L := HI.out.two
    have hpl := HI.out.len
    have hbs := HBZ.out
    by_cases hlt : j < b.size
    · have jl : (j : Int) < (b.size : Int) := by omega
      have j0 : (0 : Int) ≤ (j : Int) := by omega
      obtain ⟨c, hc⟩ : ∃ c, c = b[j]'hlt := ⟨_, rfl⟩
      have hcx : (b[j]'hlt).toNat = c.toNat := by rw [hc]
      have HC := Lib.hid hc
      have hc256 : c.toNat < 256 := c.toNat_lt
      have HNO : Hid (uqS (pre, L, E.data.toList) c = none → ∀ W, Below wr.heap.size wr W → UqPost s w (.returned (.tuple #[.string ⟨#[]⟩, .bool false])) W) := Lib.hid fun h W hW => ⟨⟨#[]⟩, false, rfl, Nat.zero_le _, fun t0 ht => absurd ht (HI.out.no hlt HC.out HQ.out h t0), below_own' HI.out.bld.below hW⟩
      clear hc
      by_cases hL : L = 0
      · subst hL
        have hE : E = ⟨#[]⟩ := HI.out.esc rfl
        subst hE
        by_cases h92 : c.toNat = 92
        · have HN : Hid (UqI w wr b (j + 1) 1 ⟨#[]⟩ pre) := Lib.hid (HI.out.next hlt HC.out HI.out.bld (by omega) (by omega) (fun h => by omega) (by decide) (fun h => by omega) fun st hst => by
            have : c = 92 := UInt8.toNat_inj.1 h92
            subst this
            exact (Option.some.inj hst).symm)
          go_wp2_with fail
          go_roundw
          case rel => exact ⟨j + 1, 1, ⟨#[]⟩, pre, rfl, rfl, by go_num, by omega, HN.out⟩
          case measure => simp [intOf]; omega
        · have b92 : ((c.toNat : Int) == 92) = false := by simp; omega
          by_cases h34 : c.toNat = 34
          · have HF := Lib.hid (HNO.out (by have : c = 34 := UInt8.toNat_inj.1 h34
                                            subst this
                                            rfl) wr (Below.refl _ _))
            clear h92
            go_wp2_with fail
            go_ret2
            exact HF.out
          · have b34 : ((c.toNat : Int) == 34) = false := by simp; omega
            have HA : Hid (uqS (pre, 0, (⟨#[]⟩ : ByteArray).data.toList) c = some (pre ++ [c], 0, [])) := Lib.hid (by
              unfold uqS
              simp only [show ¬ 0 < 0 by omega, if_false]
              rw [if_neg (fun h => h92 (by rw [h]; rfl)), if_neg (fun h => h34 (by rw [h]; rfl))])
            clear h92 h34
            go_wp2_with (go_at_call 92; refine (qt_byte HI.out.bld c (by omega)).mono ?_; rintro e w1 ⟨rfl, hq1⟩)
            have HN : Hid (UqI w w1 b (j + 1) 0 ⟨#[]⟩ (pre ++ [c])) := Lib.hid (HI.out.next hlt HC.out hq1 (by rw [List.length_append, List.length_singleton]; omega) (by omega) (fun h => rfl) (by decide) (fun h => by omega) fun st hst => by rw [HA.out] at hst; exact (Option.some.inj hst).symm)
            clear hq1
            go_roundw
            case rel => exact ⟨j + 1, 0, ⟨#[]⟩, pre ++ [c], rfl, rfl, by go_num, by omega, HN.out⟩
            case measure => simp [intOf]; omega
      · have hL0 : (0 : Int) < (L : Int) := by omega
        obtain ⟨en, hen⟩ : ∃ en, en = Utf8.encode (c.toNat : Int) := ⟨_, rfl⟩
        obtain ⟨e1, e2, e3⟩ := enc_byte c
        rw [← hen] at e1 e2 e3
        have HEN := Lib.hid hen.symm
        obtain ⟨E', hE'⟩ : ∃ E', E' = E ++ en := ⟨_, rfl⟩
        have hE'z : E'.size = E.size + en.size := by rw [hE', ByteArray.size_append]
        have hw : ∀ W, (Op.stringOp .add E en).run Tryz.prog W = .ok (.string E') W := fun W => by rw [hE']; exact run_string_add_sum W _ _ (by omega)
        have HEL : Hid (c.toNat < 128 → E'.data.toList = E.data.toList ++ [c]) := Lib.hid fun h => by rw [hE', e3 h, ByteArray.data_append]; simp
        have HSM : Hid (¬ c.toNat < 128 → uqS (pre, L, E.data.toList) c = none) := Lib.hid fun h => by
          unfold uqS
          simp only [show 0 < L by omega, if_true]
          rw [if_pos (by omega)]
        have hE'5 : E'.size ≤ 5 := by omega
        clear hen hE' e3
        by_cases hx : E'.toList = [120]
        · have bx : (E'.toList == [120]) = true := by simpa using hx
          have hxl : E'.data.toList = [120] := by rw [← ByteArray.toList_eq]; exact hx
          have hz1 : E'.size = 1 := by have h : E'.data.toList.length = E'.size := Array.length_toList; rw [hxl] at h; exact h.symm
          have hL1 : L = 1 := by
            rcases (show L = 1 ∨ L = 2 by omega) with h | h
            · exact h
            · have := HI.out.dbl h; omega
          subst hL1
          have HN : Hid (UqI w wr b (j + 1) 2 E' pre) := Lib.hid (HI.out.next hlt HC.out HI.out.bld (by omega) (by omega) (fun h => by omega) (by omega) (fun h => hz1) fun st hst => by
            by_cases h128 : c.toNat < 128
            · have h5 := HEL.out h128
              unfold uqS at hst
              simp only [show 0 < 1 by omega, if_true] at hst
              rw [if_neg (by omega), ← h5, if_pos hxl] at hst
              rw [hxl]
              exact (Option.some.inj hst).symm
            · rw [HSM.out h128] at hst; cases hst)
          clear hx hxl e1 e2 hL
          go_wp2_with (refine wpList_rune rfl _ 21 9 rfl .i32 (c.toNat : Int) (by simp [Act.eval]) (by rw [Tryz.underlying21]; rfl) Tryz.underlying9 en HEN.out ?_)
          go_roundw
          case rel => exact ⟨j + 1, 2, E', pre, rfl, rfl, by go_num, by omega, HN.out⟩
          case measure => simp [intOf]; omega
        · have bx : (E'.toList == [120]) = false := by simpa using hx
          have hxl : ¬ E'.data.toList = [120] := fun h => hx (by rw [ByteArray.toList_eq, h])
          by_cases hL2 : L = 2
          · subst hL2
            have hz3 := HI.out.dbl rfl
            have HN : Hid (UqI w wr b (j + 1) 1 E' pre) := Lib.hid (HI.out.next hlt HC.out HI.out.bld (by omega) (by omega) (fun h => by omega) (by omega) (fun h => by omega) fun st hst => by
              by_cases h128 : c.toNat < 128
              · have h5 := HEL.out h128
                unfold uqS at hst
                simp only [show 0 < 2 by omega, if_true] at hst
                rw [if_neg (by omega), ← h5, if_neg hxl, if_pos (by omega)] at hst
                exact (Option.some.inj hst).symm
              · rw [HSM.out h128] at hst; cases hst)
            clear hx hxl e1 e2 hL
            go_wp2_with (refine wpList_rune rfl _ 21 9 rfl .i32 (c.toNat : Int) (by simp [Act.eval]) (by rw [Tryz.underlying21]; rfl) Tryz.underlying9 en HEN.out ?_)
            go_roundw
            case rel => exact ⟨j + 1, 1, E', pre, rfl, rfl, by go_num, by omega, HN.out⟩
            case measure => simp [intOf]; omega
          · have hL1 : L = 1 := by omega
            subst hL1
            have hE'0 : 0 < E'.size := by omega
            have HUN : Hid (Calls Tryz.prog 91 #[.string E'] wr (UePost E'.data.toList wr)) := Lib.hid (unescape_any E' hE'0 (by omega) wr (HG.out.below HI.out.bld.below))
            have HUS : Hid (c.toNat < 128 → uqS (pre, 1, E.data.toList) c = match uneX E'.data.toList with | some b => some (pre ++ [b], 0, []) | none => none) := Lib.hid fun h128 => by
              have h5 := HEL.out h128
              unfold uqS
              simp only [show 0 < 1 by omega, if_true]
              rw [if_neg (by omega), ← h5, if_neg hxl, if_neg (by omega)]
              cases uneX E'.data.toList <;> rfl
            clear hx hxl e1 e2 hL hL2
            go_wp2_with (first
              | (go_at_call 92; refine (qt_byte (HI.out.bld.on HB1.out) r8 (by omega)).mono ?_; rintro e w2 ⟨rfl, hq2⟩; have HQ2 := Lib.hid hq2; clear hq2)
              | (go_at_call 91; refine HUN.out.mono ?_; rintro e w1 ⟨r, ok, rfl, r0, r1, hex, hb1⟩; obtain ⟨r8, rfl⟩ := byte_of r0 r1; have HEX := Lib.hid hex; have HB1 := Lib.hid hb1; clear hex hb1; cases ok)
              | (refine wpList_rune rfl _ 21 9 rfl .i32 (c.toNat : Int) (by simp [Act.eval]) (by rw [Tryz.underlying21]; rfl) Tryz.underlying9 en HEN.out ?_))
            · go_ret2
              refine HNO.out ?_ _ HB1.out
              by_cases h128 : c.toNat < 128
              · rw [HUS.out h128]
                cases hu : uneX E'.data.toList with
                | none => rfl
                | some d => have := (HEX.out d hu).2; cases this
              · exact HSM.out h128
            · have HN : Hid (UqI w w2 b (j + 1) 0 ⟨#[]⟩ (pre ++ [r8])) := Lib.hid (HI.out.next hlt HC.out HQ2.out (by rw [List.length_append, List.length_singleton]; omega) (by omega) (fun h => rfl) (by decide) (fun h => by omega) fun st hst => by
                by_cases h128 : c.toNat < 128
                · rw [HUS.out h128] at hst
                  cases hu : uneX E'.data.toList with
                  | none => rw [hu] at hst; cases hst
                  | some d =>
                    rw [hu] at hst
                    have h7 := (HEX.out d hu).1
                    have h8 : r8 = d := UInt8.toNat_inj.1 (by omega)
                    rw [h8]
                    exact (Option.some.inj hst).symm
                · rw [HSM.out h128] at hst; cases hst)
              go_roundw
              case rel => exact ⟨j + 1, 0, ⟨#[]⟩, pre ++ [r8], rfl, rfl, by go_num, by omega, HN.out⟩
              case measure => simp [intOf]; omega
    · obtain rfl : j = b.size := by omega
      have HE := Lib.hid (HI.out.end' HQ.out)
      have hpl2 : pre.length ≤ s.size := by omega
      go_wp2_with (go_at_call 93; refine (qt_out HI.out.bld).mono ?_; rintro e w1 ⟨rfl, hb1⟩)
      go_ret2
      exact ⟨⟨pre.toArray⟩, _, rfl, hpl2, fun t0 ht => HE.out t0 ht, hb1⟩
end Go.Proofs.YtmepjbjmjbpchaaGreatDoor
end
section
/- graph.Unquote at other strings; attrs.guess at a string that begins with a quote. -/
namespace Go.Proofs.YtmepjbjmjbpchaaGreatDoor
open Go Go.RowKit Go.Sort
set_option linter.unusedVariables false
set_option linter.unusedSimpArgs false

set_option maxRecDepth 100000 in
set_option maxHeartbeats 4000000 in
theorem unquote_no (s : ByteArray) (w : World) (h0 : 0 < s.size) (hs : s.size ≤ 4294967280) (hc : (s[0]'h0).toNat = 34) (hl : s.size < 2 ∨ (2 ≤ s.size ∧ (s[s.size - 1]'(by omega)).toNat ≠ 34)) :
    Calls Tryz.prog 72 #[.string s] w (UqPost s w) := by
  have HN : Hid (∀ t0, ¬ s.data.toList = quoteL t0) := Lib.hid fun t0 h => by
    have h1 : s.data.toList.length = s.size := Array.length_toList
    rw [h] at h1
    have h2 : (quoteL t0).length = (escL t0).length + 2 := by simp [quoteL]
    rcases hl with hl | ⟨hl, hx⟩
    · omega
    · apply hx
      have h3 : s.data.toList[s.size - 1]? = some (s[s.size - 1]'(by omega)) := by
        rw [Array.getElem?_toList]
        exact Array.getElem?_eq_getElem (show s.size - 1 < s.data.size by show s.size - 1 < s.size; omega)
      rw [h] at h3
      have h4 : (quoteL t0)[s.size - 1]? = some 34 := by rw [show s.size - 1 = (escL t0).length + 1 by omega]; simp [quoteL]
      rw [h4] at h3
      rw [← Option.some.inj h3]; rfl
  rcases hl with hl | ⟨hl, hx⟩
  · have g1 : (s.size : Int) < 2 := by omega
    go_enter Tryz.func72, Tryz.ntmps72
    go_wp2_with fail
    go_ret2
    exact ⟨⟨#[]⟩, false, rfl, Nat.zero_le _, fun t0 ht => absurd ht (HN.out t0), Below.refl _ _⟩
  · have g1 : ¬ (s.size : Int) < 2 := by omega
    have g3 : (0 : Int) < (s.size : Int) := by omega
    have g4 : (s.size : Int) ≤ 4294967280 := by omega
    have g2 : (1 : Int) ≤ (s.size : Int) - 1 := by omega
    have hlq : ((s.size : Int) - 1).toNat = s.size - 1 := by omega
    obtain ⟨c, hcl⟩ : ∃ c, c = (s[s.size - 1]'(by omega)).toNat := ⟨_, rfl⟩
    rw [← hcl] at hx
    have hcx : (s[s.size - 1]'(by omega)).toNat = c := hcl.symm
    have b1 : ((c : Int) == 34) = false := by simp; omega
    have b2 : ((c : Int) != 34) = true := by simp; omega
    clear hcl
    go_enter Tryz.func72, Tryz.ntmps72
    go_wp2_with fail
    go_ret2
    exact ⟨⟨#[]⟩, false, rfl, Nat.zero_le _, fun t0 ht => absurd ht (HN.out t0), Below.refl _ _⟩
theorem unquote_all (s : ByteArray) (w : World) (h0 : 0 < s.size) (hs : s.size ≤ 4294967280) (hc : (s[0]'h0).toNat = 34) (hg : GlobE w) :
    Calls Tryz.prog 72 #[.string s] w (UqPost s w) := by
  by_cases h2 : 2 ≤ s.size
  · by_cases hl : (s[s.size - 1]'(by omega)).toNat = 34
    · exact unquote_any s w h2 hs hc hl hg
    · exact unquote_no s w h0 hs hc (.inr ⟨h2, hl⟩)
  · exact unquote_no s w h0 hs hc (.inl (by omega))
/-- What guess gives at a string in quotes. -/
def GqPost (nm s : ByteArray) (w : World) (e : Ending) (w' : World) : Prop :=
  ∃ t : ByteArray, e = .returned (av nm 1 0 t none 0 0 none 0 0) ∧ t.size ≤ s.size ∧ (∀ t0, s.data.toList = quoteL t0 → t.data.toList = t0) ∧ Below w.heap.size w w'
set_option maxRecDepth 100000 in
set_option maxHeartbeats 4000000 in
theorem guess_text (nm s : ByteArray) (w : World) (h0 : 0 < s.size) (hs : s.size ≤ 4294967280) (hc : (s[0]'h0).toNat = 34) (hg : GlobE w) :
    Calls Tryz.prog 43 #[.string nm, .string s] w (GqPost nm s w) := by
  have hne := not_empty h0
  have h1 : (1 : Int) ≤ (s.size : Int) := by omega
  have h00 : (0 : Int) < (s.size : Int) := by omega
  have hm1 : (1 : Int) ≤ max 1 ((s.size : Int) - 1) := by omega
  have hm2 : max 1 ((s.size : Int) - 1) ≤ (s.size : Int) := by omega
  have mixed := mixed_in
  have hs4 : (s.size : Int) ≤ 4294967281 := by omega
  have HG := Lib.hid hg
  clear hg
  go_enter Tryz.func43, Tryz.ntmps43
  go_wp2_with (go_at_call 72; refine (unquote_all s _ h0 hs hc (HG.out.below ?_)).mono ?_; (focus ((repeat (first | (with_reducible refine below_set ?_ (by first | exact Nat.le_refl _ | omega) _ _) | with_reducible exact Below.refl _ _ | with_reducible refine belowA ?_ _ | with_reducible refine belowD ?_ | with_reducible refine belowN ?_ _)); done)); rintro e w2 ⟨t, ok, rfl, htz, hte, hb2⟩; have HTE := Lib.hid hte; clear hte; have c0 := rdCell hb2 w.heap.size (by first | (simp; done) | (simp; omega)); have f0 := rdFree hb2 w.heap.size (by first | (simp; done) | (simp; omega)); have e0 := rdCell hb2 (w.heap.size + 1) (by first | (simp; done) | (simp; omega)); have g0 := rdFree hb2 (w.heap.size + 1) (by first | (simp; done) | (simp; omega)); have hzw2 : w.heap.size + 1 < w2.heap.size := (by have := Below.size hb2; simp at this; omega))
  refine bodyPost_ret (v := av nm 1 0 t none 0 0 none 0 0) (by simp [results, Tryz.results43, go_sem, c0, f0, e0, g0, hzw2, show w.heap.size < w2.heap.size by omega]) rfl ?_
  exact ⟨t, rfl, htz, HTE.out, by (repeat (first | (with_reducible refine below_set ?_ (by first | exact Nat.le_refl _ | omega) _ _) | with_reducible exact Below.refl _ _ | with_reducible refine belowA ?_ _ | with_reducible refine below_own' ?_ hb2 | with_reducible refine belowD ?_ | with_reducible refine belowN ?_ _))⟩
end Go.Proofs.YtmepjbjmjbpchaaGreatDoor
end
section
/- What guess gives is the only attribute with the string: plain. -/
namespace Go.Proofs.YtmepjbjmjbpchaaGreatDoor
open Go Go.RowKit Go.Sort
set_option linter.unusedVariables false
set_option linter.unusedSimpArgs false

theorem hp_head {l p : List UInt8} {c : UInt8} (h : Lib.hasPrefix l (c :: p) = true) : ∃ r, l = c :: r := by
  cases l with
  | nil => simp [Lib.hasPrefix] at h
  | cons a l =>
    simp [Lib.hasPrefix, List.isPrefixOf] at h
    exact ⟨l, by rw [h.1]⟩
theorem hp_take {l p : List UInt8} {c : UInt8} {n : Nat} (h : Lib.hasPrefix (l.take n) (c :: p) = true) : ∃ r, l = c :: r := by
  obtain ⟨r, hr⟩ := hp_head h
  cases l with
  | nil => simp at hr
  | cons a l =>
    cases n with
    | zero => simp at hr
    | succ n => rw [List.take_succ_cons] at hr; exact ⟨l, by rw [(List.cons.inj hr).1]⟩
theorem ty_head {l : List UInt8} {q : Pd} (h : readOf l = some q) : ∃ c r, l = c :: r ∧ (c = 105 ∨ c = 109 ∨ c = 97 ∨ c = 33) := by
  have hf : ∀ q', foreignOf l = some q' → ∃ c r, l = c :: r ∧ (c = 105 ∨ c = 109 ∨ c = 97 ∨ c = 33) := fun q' h => by
    unfold foreignOf at h
    split at h
    · rename_i hp
      obtain ⟨r, hr⟩ := hp_head hp.1
      exact ⟨33, r, hr, by simp⟩
    · cases h
  unfold readOf at h
  split at h
  · rename_i p he
    unfold elemOf at he
    split at he
    · rename_i hi
      exact ⟨105, _, hi, by simp⟩
    · split at he
      · rename_i hp
        obtain ⟨r, hr⟩ := hp_head hp
        exact ⟨105, r, hr, by simp⟩
      · cases he
  · split at h
    · split at h
      · rename_i hp
        obtain ⟨r, hr⟩ := hp_take hp
        exact ⟨109, r, hr, by simp⟩
      · split at h
        · rename_i hp
          obtain ⟨r, hr⟩ := hp_take hp
          exact ⟨97, r, hr, by simp⟩
        · exact hf _ h
    · exact hf _ h
/-- Its numbers are those of a machine. -/
def InR (d : Dat) : Prop := (-9223372036854775808 ≤ d.num ∧ d.num ≤ 9223372036854775807) ∧ ∀ z ∈ d.ints, -9223372036854775808 ≤ z ∧ z ≤ 9223372036854775807
theorem Atr.Fits.inR {a : Atr} (h : a.Fits) : InR a.dat := ⟨h.num, h.ints⟩
theorem right_kinds {d : Dat} (h : rightD d = true) :
    (d.kind = 0 ∧ d.text = ⟨#[]⟩ ∧ d.ints = [] ∧ d.texts = []) ∨ (d.kind = 1 ∧ d.num = 0 ∧ d.ints = [] ∧ d.texts = []) ∨ (d.kind = 2 ∧ d.num = 0 ∧ d.ints = [] ∧ d.texts = []) ∨ (d.kind = 3 ∧ d.num = 0 ∧ d.ints = [] ∧ d.texts = [] ∧ isTyB d.text = true) ∨ (d.kind = 4 ∧ d.num = 0 ∧ d.text = ⟨#[]⟩ ∧ d.texts = [] ∧ d.ints.length ≤ 100) ∨ (d.kind = 5 ∧ d.num = 0 ∧ d.text = ⟨#[]⟩ ∧ d.ints = [] ∧ d.texts.length ≤ 100 ∧ d.texts.all isTyB = true) := by
  obtain ⟨nm, k, n, tx, is, ts⟩ := d
  have hem : tx.toList.isEmpty = true → tx = ⟨#[]⟩ := fun h => by
    rw [List.isEmpty_iff] at h
    exact toList_inj.1 (h.trans (show (⟨#[]⟩ : ByteArray).toList = [] by kernel_rfl).symm)
  have hli : ∀ {α : Type} {x : List α}, ((x.length : Int) == 0) = true → x = [] := fun {α x} h => by
    rw [beq_iff_eq] at h
    exact List.eq_nil_of_length_eq_zero (by omega)
  have hln : ∀ {α : Type} {x : List α}, (x.length == 0) = true → x = [] := fun {α x} h => by
    rw [beq_iff_eq] at h
    exact List.eq_nil_of_length_eq_zero h
  simp only [rightD, rightA, Bool.and_eq_true, decide_eq_true_eq] at h
  obtain ⟨⟨⟨hk, -⟩, ho⟩, ha⟩ := h
  have hk6 : k = 0 ∨ k = 1 ∨ k = 2 ∨ k = 3 ∨ k = 4 ∨ k = 5 := by omega
  rcases hk6 with rfl | rfl | rfl | rfl | rfl | rfl
  · simp [ownB, aloneB, noTextB, noListsB] at ho ha
    refine .inl ⟨rfl, hem (by simp [ha.1]), ?_, ?_⟩
    · exact ha.2.1
    · exact ha.2.2
  · simp [ownB, aloneB, noNumB, noListsB] at ho ha
    exact .inr (.inl ⟨rfl, ha.1, ha.2.1, ha.2.2⟩)
  · simp [ownB, aloneB, noNumB, noListsB] at ho ha
    exact .inr (.inr (.inl ⟨rfl, ha.1, ha.2.1, ha.2.2⟩))
  · simp [ownB, aloneB, noNumB, noListsB] at ho ha
    exact .inr (.inr (.inr (.inl ⟨rfl, ha.1, ha.2.1, ha.2.2, ho⟩)))
  · simp [ownB, aloneB, noneOfB] at ho ha
    exact .inr (.inr (.inr (.inr (.inl ⟨rfl, ha.1, hem (by simp [ha.2]), ho.2, ho.1⟩))))
  · simp [ownB, aloneB, noneOfB] at ho ha
    exact .inr (.inr (.inr (.inr (.inr ⟨rfl, ha.1, hem (by simp [ha.2]), ho.2, ho.1.1, by simpa using ho.1.2⟩))))
end Go.Proofs.YtmepjbjmjbpchaaGreatDoor
end
section
/- What guess gives is the only attribute with the string: by kinds. -/
namespace Go.Proofs.YtmepjbjmjbpchaaGreatDoor
open Go Go.RowKit Go.Sort
set_option linter.unusedVariables false
set_option linter.unusedSimpArgs false

theorem list_size (s : ByteArray) : s.data.toList.length = s.size := Array.length_toList
theorem itoa_head (n : Int) : ∃ c r, Lib.itoa n = c :: r ∧ (c = 45 ∨ (48 ≤ c.toNat ∧ c.toNat ≤ 57)) := by
  unfold Lib.itoa
  split
  · exact ⟨45, _, rfl, .inl rfl⟩
  · cases h : Lib.decDigits n.toNat with
    | nil => exfalso; unfold Lib.decDigits at h; split at h <;> simp at h
    | cons c r => exact ⟨c, r, rfl, .inr (dec_digit n.toNat c (by rw [h]; exact List.mem_cons_self ..))⟩
theorem body_list {s : ByteArray} {m : List UInt8} (h : s.data.toList = 91 :: (m ++ [93])) : (gBody s).data.toList = m := by
  have hl := list_size s
  rw [h] at hl
  simp at hl
  unfold gBody
  rw [Lib.extract_data, h, show max 1 (s.size - 1) - 1 = m.length by omega]
  simp
theorem gInts_of {s : ByteArray} {l : List Int} (hr : ∀ z ∈ l, -9223372036854775808 ≤ z ∧ z ≤ 9223372036854775807) (h : s.data.toList = 91 :: (Lib.join ((l.map itoaB).map (·.data.toList)) [44, 32] ++ [93])) : gInts s = l := by
  have hb := body_list h
  have e : (l.map itoaB).map (·.data.toList) = l.map Lib.itoa := by simp [itoaB, Function.comp_def]
  rw [e] at hb
  have hbl := list_size (gBody s)
  unfold gInts
  by_cases hl : l = []
  · subst hl
    rw [if_pos (by rw [← hbl, hb]; rfl)]
  · have hne : Lib.join (l.map Lib.itoa) [44, 32] ≠ [] := by
      intro h0
      have h1 := pieces_join (l.map Lib.itoa) (by simpa using hl) (fun x hx => by obtain ⟨n, -, rfl⟩ := List.mem_map.1 hx; exact itoa_no44 n)
      rw [h0] at h1
      have h2 : piecesL [] = [[]] := by rw [piecesL_miss (by rfl)]
      rw [h2] at h1
      cases l with
      | nil => exact hl rfl
      | cons a l =>
        have := (List.cons.inj h1).1
        exact itoa_ne a this.symm
    rw [if_neg (by rw [← hbl, hb]; intro h0; exact hne (List.eq_nil_of_length_eq_zero h0))]
    have h1 := pieces_join (l.map Lib.itoa) (by simpa using hl) (fun x hx => by obtain ⟨n, -, rfl⟩ := List.mem_map.1 hx; exact itoa_no44 n)
    have h2 : (gPieces (gBody s)).map (·.data.toList) = piecesL (gBody s).data.toList := pieces_data (gBody s)
    rw [hb, h1] at h2
    have h3 : (gPieces (gBody s)).map (fun p => piOf p.data.toList) = ((gPieces (gBody s)).map (·.data.toList)).map piOf := by rw [List.map_map]; rfl
    rw [h3, h2, List.map_map]
    conv => rhs; rw [← List.map_id l]
    refine List.map_congr_left fun z hz => ?_
    exact pi_itoa (hr z hz).1 (hr z hz).2
theorem gTexts_of {s : ByteArray} {l : List ByteArray} (hl : l.length ≤ 100) (ht : l.all isTyB = true) (h : s.data.toList = (joinOf l).1) : gTexts s = l := by
  rw [joinOf_right ht hl] at h
  have hbad : l.any badTy = false := by
    rw [List.any_eq_false]
    intro x hx
    have h2 : isTy x.data.toList = true := List.all_eq_true.1 ht x hx
    rw [badTy_isTy]
    simp [h2]
  have hb : bodyOf s.data.toList = some (joinS l) := by rw [h]; exact bodyOf_join _
  unfold gTexts
  rw [hb]
  simp only
  by_cases h0 : l = []
  · subst h0; rfl
  · rw [if_neg (joinS_ne h0 hbad)]
    have hp : piecesL (joinS l) = l.map (·.data.toList) := joinS_pieces h0 hbad
    have hk : okPieces ⟨(joinS l).toArray⟩ = true := by
      rw [okPieces_eq]
      show (decide ((piecesL (joinS l)).length ≤ 100) && (piecesL (joinS l)).all isTy) = true
      rw [hp, List.length_map, Bool.and_eq_true]
      refine ⟨by simpa using hl, ?_⟩
      rw [List.all_eq_true]
      intro x hx
      obtain ⟨y, hy, rfl⟩ := List.mem_map.1 hx
      exact List.all_eq_true.1 ht y hy
    rw [if_pos hk]
    refine data_inj ?_
    rw [pieces_data]
    exact hp
theorem val_case {d : Dat} {s : ByteArray} (h : rightD d = true) (hr : InR d) (hv : valD d = s.data.toList) :
    ∃ c r, s.data.toList = c :: r ∧ (
      (d = ⟨d.name, 0, piOf s.data.toList, ⟨#[]⟩, [], []⟩ ∧ (c = 45 ∨ (48 ≤ c.toNat ∧ c.toNat ≤ 57))) ∨
      (d = ⟨d.name, 1, 0, d.text, [], []⟩ ∧ c = 34 ∧ s.data.toList = quoteL d.text.data.toList) ∨
      (d = ⟨d.name, 2, 0, s.extract 1 s.size, [], []⟩ ∧ c = 64) ∨
      (d = ⟨d.name, 3, 0, s, [], []⟩ ∧ (c = 105 ∨ c = 109 ∨ c = 97 ∨ c = 33)) ∨
      (d = ⟨d.name, 4, 0, ⟨#[]⟩, gInts s, []⟩ ∧ c = 91) ∨
      (d = ⟨d.name, 5, 0, ⟨#[]⟩, [], gTexts s⟩ ∧ c = 40)) := by
  have hk := right_kinds h
  obtain ⟨nm, k, n, tx, is, ts⟩ := d
  dsimp only at hk
  rcases hk with ⟨rfl, rfl, rfl, rfl⟩ | ⟨rfl, rfl, rfl, rfl⟩ | ⟨rfl, rfl, rfl, rfl⟩ | ⟨rfl, rfl, rfl, rfl, ht⟩ | ⟨rfl, rfl, rfl, rfl, hl⟩ | ⟨rfl, rfl, rfl, rfl, hl, ht⟩
  · have e : Lib.itoa n = s.data.toList := hv
    obtain ⟨c, r, h1, h2⟩ := itoa_head n
    refine ⟨c, r, by rw [← e, h1], .inl ⟨?_, h2⟩⟩
    rw [← e, pi_itoa hr.1.1 hr.1.2]
  · have e : quoteL tx.data.toList = s.data.toList := hv
    exact ⟨34, _, e.symm, .inr (.inl ⟨rfl, rfl, e.symm⟩)⟩
  · have e : 64 :: tx.data.toList = s.data.toList := hv
    refine ⟨64, _, e.symm, .inr (.inr (.inl ⟨?_, rfl⟩))⟩
    have : tx = s.extract 1 s.size := bytes_inj (by rw [Lib.extract_to_end, ← e]; rfl)
    rw [← this]
  · have e : tx.data.toList = s.data.toList := hv
    have e2 := bytes_inj e
    subst e2
    unfold isTyB at ht
    obtain ⟨q, hq⟩ := Option.isSome_iff_exists.1 ht
    obtain ⟨c, r, h1, h2⟩ := ty_head hq
    exact ⟨c, r, h1, .inr (.inr (.inr (.inl ⟨rfl, h2⟩)))⟩
  · have e : 91 :: (Lib.join ((is.map itoaB).map (·.data.toList)) [44, 32] ++ [93]) = s.data.toList := hv
    refine ⟨91, _, e.symm, .inr (.inr (.inr (.inr (.inl ⟨?_, rfl⟩))))⟩
    rw [gInts_of hr.2 e.symm]
  · have e : (joinOf ts).1 = s.data.toList := hv
    have e3 := e
    rw [joinOf_right ht hl] at e3
    refine ⟨40, _, e3.symm, .inr (.inr (.inr (.inr (.inr ⟨?_, rfl⟩))))⟩
    rw [gTexts_of hl ht e.symm]
end Go.Proofs.YtmepjbjmjbpchaaGreatDoor
end
section
/- attrs.guess at any string; attrs.Read at any strings. -/
namespace Go.Proofs.YtmepjbjmjbpchaaGreatDoor
open Go Go.RowKit Go.Sort
set_option linter.unusedVariables false
set_option linter.unusedSimpArgs false

theorem val_at {d : Dat} {s : ByteArray} (h0 : 0 < s.size) (h : rightD d = true) (hr : InR d) (hv : valD d = s.data.toList) :
      (d = ⟨d.name, 0, piOf s.data.toList, ⟨#[]⟩, [], []⟩ ∧ ((s[0]'h0).toNat = 45 ∨ (48 ≤ (s[0]'h0).toNat ∧ (s[0]'h0).toNat ≤ 57))) ∨
      (d = ⟨d.name, 1, 0, d.text, [], []⟩ ∧ (s[0]'h0).toNat = 34 ∧ s.data.toList = quoteL d.text.data.toList) ∨
      (d = ⟨d.name, 2, 0, s.extract 1 s.size, [], []⟩ ∧ (s[0]'h0).toNat = 64) ∨
      (d = ⟨d.name, 3, 0, s, [], []⟩ ∧ ((s[0]'h0).toNat = 105 ∨ (s[0]'h0).toNat = 109 ∨ (s[0]'h0).toNat = 97 ∨ (s[0]'h0).toNat = 33)) ∨
      (d = ⟨d.name, 4, 0, ⟨#[]⟩, gInts s, []⟩ ∧ (s[0]'h0).toNat = 91) ∨
      (d = ⟨d.name, 5, 0, ⟨#[]⟩, [], gTexts s⟩ ∧ (s[0]'h0).toNat = 40) := by
  obtain ⟨c, r, hs, hc⟩ := val_case h hr hv
  have e : s[0]'h0 = c := by
    have h4 : s.data.toList[0]? = some c := by rw [hs]; rfl
    rw [Array.getElem?_toList, Array.getElem?_eq_getElem (by exact h0)] at h4
    exact Option.some.inj h4
  rw [e]
  rcases hc with ⟨h1, h2⟩ | ⟨h1, rfl, h3⟩ | ⟨h1, rfl⟩ | ⟨h1, h2⟩ | ⟨h1, rfl⟩ | ⟨h1, rfl⟩
  · refine .inl ⟨h1, ?_⟩
    rcases h2 with rfl | h2
    · exact .inl rfl
    · exact .inr h2
  · exact .inr (.inl ⟨h1, rfl, h3⟩)
  · exact .inr (.inr (.inl ⟨h1, rfl⟩))
  · refine .inr (.inr (.inr (.inl ⟨h1, ?_⟩)))
    rcases h2 with rfl | rfl | rfl | rfl
    · exact .inl rfl
    · exact .inr (.inl rfl)
    · exact .inr (.inr (.inl rfl))
    · exact .inr (.inr (.inr rfl))
  · exact .inr (.inr (.inr (.inr (.inl ⟨h1, rfl⟩))))
  · exact .inr (.inr (.inr (.inr (.inr ⟨h1, rfl⟩))))
/-- What guess gives: some attribute, and the right one if there is one. -/
def GaPost (nm s : ByteArray) (w : World) (e : Ending) (w' : World) : Prop :=
  ∃ D : Dat, D.name = nm ∧ GsPost D w e w' ∧ (∀ d : Dat, d.name = nm → rightD d = true → InR d → valD d = s.data.toList → d = D)
theorem guess_any (nm s : ByteArray) (w : World) (hnm : nm.size ≤ 140737488351232) (hs : s.size ≤ 4294967280) (hg : GlobE w) :
    Calls Tryz.prog 43 #[.string nm, .string s] w (GaPost nm s w) := by
  by_cases h0 : 0 < s.size
  · have key := fun (d : Dat) (h1 : rightD d = true) (h2 : InR d) (h3 : valD d = s.data.toList) => val_at h0 h1 h2 h3
    by_cases c0 : (s[0]'h0).toNat = 45 ∨ (48 ≤ (s[0]'h0).toNat ∧ (s[0]'h0).toNat ≤ 57)
    · refine (guess_num nm s w h0 c0 (by omega) (piOf s.data.toList) fun W hW => parseInt_all s (by omega) W (hg.below hW)).mono fun e w' h => ?_
      refine ⟨_, rfl, gs_flat hnm (by decide) (pi_range _) (by decide) h.1 h.2, fun d hn h1 h2 h3 => ?_⟩
      subst hn
      rcases key d h1 h2 h3 with ⟨k, -⟩ | ⟨-, k, -⟩ | ⟨-, k⟩ | ⟨-, k⟩ | ⟨-, k⟩ | ⟨-, k⟩
      · exact k
      all_goals (exfalso; omega)
    · by_cases c1 : (s[0]'h0).toNat = 34
      · refine (guess_text nm s w h0 hs c1 hg).mono fun e w' h => ?_
        obtain ⟨t, he, htz, hte, hb⟩ := h
        refine ⟨⟨nm, 1, 0, t, [], []⟩, rfl, gs_flat hnm (by omega) (by decide) (by decide) he hb, fun d hn h1 h2 h3 => ?_⟩
        subst hn
        rcases key d h1 h2 h3 with ⟨-, k⟩ | ⟨k, -, k2⟩ | ⟨-, k⟩ | ⟨-, k⟩ | ⟨-, k⟩ | ⟨-, k⟩
        · exfalso; omega
        · have e2 : t = d.text := bytes_inj (hte _ k2)
          rw [e2]; exact k
        all_goals (exfalso; omega)
      · by_cases c2 : (s[0]'h0).toNat = 64
        · refine (guess_sym nm s w h0 c2 (by omega)).mono fun e w' h => ?_
          refine ⟨_, rfl, gs_flat hnm (by rw [ByteArray.size_extract]; omega) (by decide) (by decide) h.1 h.2, fun d hn h1 h2 h3 => ?_⟩
          subst hn
          rcases key d h1 h2 h3 with ⟨-, k⟩ | ⟨-, k, -⟩ | ⟨k, -⟩ | ⟨-, k⟩ | ⟨-, k⟩ | ⟨-, k⟩
          · exfalso; omega
          · exfalso; omega
          · exact k
          all_goals (exfalso; omega)
        · by_cases c3 : (s[0]'h0).toNat = 91
          · have hg4 : Calls Tryz.prog 43 #[.string nm, .string s] w (GsPost ⟨nm, 4, 0, ⟨#[]⟩, gInts s, []⟩ w) := by
              by_cases hb0 : (gBody s).size = 0
              · have e : gInts s = [] := by unfold gInts; rw [if_pos hb0]
                rw [e]
                exact (guess_none nm s w h0 c3 (by omega) hb0).mono fun e w' h => gs_flat hnm (by decide) (by decide) (by decide) h.1 h.2
              · exact guess_ints nm s w hnm h0 c3 (by omega) hg (by omega)
            refine hg4.mono fun e w' h => ⟨_, rfl, h, fun d hn h1 h2 h3 => ?_⟩
            subst hn
            rcases key d h1 h2 h3 with ⟨-, k⟩ | ⟨-, k, -⟩ | ⟨-, k⟩ | ⟨-, k⟩ | ⟨k, -⟩ | ⟨-, k⟩
            · exfalso; omega
            · exfalso; omega
            · exfalso; omega
            · exfalso; omega
            · exact k
            · exfalso; omega
          · by_cases c4 : (s[0]'h0).toNat = 40
            · refine (guess_types nm s w hnm h0 c4 (by omega) hg).mono fun e w' h => ⟨_, rfl, h, fun d hn h1 h2 h3 => ?_⟩
              subst hn
              rcases key d h1 h2 h3 with ⟨-, k⟩ | ⟨-, k, -⟩ | ⟨-, k⟩ | ⟨-, k⟩ | ⟨-, k⟩ | ⟨k, -⟩
              · exfalso; omega
              · exfalso; omega
              · exfalso; omega
              · exfalso; omega
              · exfalso; omega
              · exact k
            · refine (guess_ty nm s w h0 (by simp only [List.mem_cons, List.not_mem_nil, or_false, not_or]; omega) (by omega) (by omega)).mono fun e w' h => ?_
              refine ⟨_, rfl, gs_flat hnm (by omega) (by decide) (by decide) h.1 h.2, fun d hn h1 h2 h3 => ?_⟩
              subst hn
              rcases key d h1 h2 h3 with ⟨-, k⟩ | ⟨-, k, -⟩ | ⟨-, k⟩ | ⟨k, -⟩ | ⟨-, k⟩ | ⟨-, k⟩
              · exfalso; omega
              · exfalso; omega
              · exfalso; omega
              · exact k
              · exfalso; omega
              · exfalso; omega
  · have e : s = ⟨#[]⟩ := ByteArray.ext (Array.eq_empty_of_size_eq_zero (by show s.size = 0; omega))
    subst e
    refine (guess_nil nm w).mono fun e w' h => ⟨_, rfl, gs_flat hnm (by decide) (by decide) (by decide) h.1 h.2, fun d hn h1 h2 h3 => ?_⟩
    obtain ⟨c, r, hs, -⟩ := val_case h1 h2 h3
    cases hs
end Go.Proofs.YtmepjbjmjbpchaaGreatDoor
end
