/- Texts of this claim, laid together: Br5, Br6. -/
import Derived.Test.YtmepjbjmjbpchaaGreatDoorMg18
import Derived.Test.YtmepjbjmjbpchaaGreatDoorMg26
import Derived.Test.YtmepjbjmjbpchaaGreatDoorMg28
import Derived.Test.YtmepjbjmjbpchaaGreatDoorMg29
section
/- The reference's ends at any string. -/
namespace Go.Proofs.YtmepjbjmjbpchaaGreatDoor
open Go Go.RowKit Go.Sort
set_option linter.unusedVariables false
set_option linter.unusedSimpArgs false

/-- Where ends stops: behind the value at the head, if one is there. -/
def EndAt (l : List UInt8) (n : Nat) : Prop := ∀ (v : List UInt8) (c : UInt8) (r : List UInt8), l = v ++ c :: r → (c = 44 ∨ c = 125) → (enRun 0 v = some 0 ∨ ∃ t, v = quoteL t) → n = v.length
def RePost (s : ByteArray) (w : World) (e : Ending) (w' : World) : Prop :=
  Below w.heap.size w w' ∧ ∃ n : Nat, e = .returned (.int .i64 (n : Int)) ∧ n ≤ s.size ∧ EndAt s.data.toList n
theorem EnI.at34 {l : List UInt8} {j : Nat} {deep : Int} (h : EnI l j deep) {b : UInt8} (hb : l[j]? = some b) (h34 : b = 34) (hn : ∀ t' r, ¬ l.drop j = quoteL t' ++ r) (n : Nat) : EndAt l n := by
  intro v c r hl hc hv
  exfalso
  obtain ⟨h1, h2⟩ := h.quote (n := 0) hb h34 (fun t' r h => absurd h (hn t' r)) v c r hl hc
  obtain ⟨h3, h4⟩ := h v c r hl hc
  rcases hv with hv | ⟨t, ht⟩
  · obtain ⟨h5, h6⟩ := h3 hv
    rcases Nat.lt_or_ge j v.length with h7 | h7
    · have h8 : l.take j = v.take j := by rw [hl, List.take_append_of_le_length (by omega)]
      have h9 : v = v.take j ++ b :: v.drop (j + 1) := by
        have hb2 : v[j]? = some b := by rw [hl, List.getElem?_append_left h7] at hb; exact hb
        obtain ⟨hjl, hbb⟩ := List.getElem?_eq_some_iff.1 hb2
        rw [← hbb, ← List.drop_eq_getElem_cons hjl, List.take_append_drop]
      rw [h8] at h6
      rw [h9, enRun_append, h6, Option.bind_some] at hv
      exact (en_one hv).1 h34
    · have h8 : j = v.length := by omega
      subst h8
      have h9 : b = c := by rw [hl] at hb; simpa using hb.symm
      rw [h9] at h34
      subst h34
      rcases hc with h | h <;> exact absurd h (by decide)
  · obtain ⟨h5, h6⟩ := h4 t ht
    rcases h5 with h7 | h7
    · subst h7
      exact hn t (c :: r) (by rw [List.drop_zero, hl, ht])
    · subst h7
      have h9 : b = c := by rw [hl] at hb; simpa using hb.symm
      rw [h9] at h34
      subst h34
      rcases hc with h | h <;> exact absurd h (by decide)
set_option maxRecDepth 100000 in
set_option maxHeartbeats 8000000 in
theorem rends_any (s : ByteArray) (w : World) (hs : s.size ≤ 4294967280) : Calls Tryz.prog 54 #[.string s] w (RePost s w) := by
  go_enter Tryz.func54, Tryz.ntmps54
  go_wp2_with fail
  go_loopw [3, 4] (fun dv i wr => ∃ (j : Nat) (d : Int), i = .int .i64 j ∧ dv = .int .i64 d ∧ j ≤ s.size ∧ -(j : Int) ≤ d ∧ d ≤ j ∧ EnI s.data.toList j d ∧ Below w.heap.size w wr) (fun _ i _ => s.size - (intOf i).toNat)
  case atStart => exact ⟨0, 0, rfl, rfl, Nat.zero_le _, by omega, by omega, EnI.start _, Below.refl _ _⟩
  case round =>
    obtain ⟨j, d, rfl, rfl, hj, hd1, hd2, hi, hb⟩ := hrel
    have HI := Lib.hid hi
    have HB := Lib.hid hb
    clear hi hb
    rcases Nat.lt_or_ge j s.size with hlt | hge
    · have hget := Lib.hid (bytes_get s j hlt)
      have hx := (s[j]'hlt).toNat_lt
      have hc7 : (s[j]'hlt).toNat = 34 ∨ (s[j]'hlt).toNat = 91 ∨ (s[j]'hlt).toNat = 40 ∨ (s[j]'hlt).toNat = 93 ∨ (s[j]'hlt).toNat = 41 ∨ (s[j]'hlt).toNat = 44 ∨ (s[j]'hlt).toNat = 125 ∨ ((s[j]'hlt).toNat ≠ 34 ∧ (s[j]'hlt).toNat ≠ 91 ∧ (s[j]'hlt).toNat ≠ 40 ∧ (s[j]'hlt).toNat ≠ 93 ∧ (s[j]'hlt).toNat ≠ 41 ∧ (s[j]'hlt).toNat ≠ 44 ∧ (s[j]'hlt).toNat ≠ 125) := by omega
      rcases hc7 with hc | hc | hc | hc | hc | hc | hc | ⟨n34, n91, n40, n93, n41, n44, n125⟩
      · have b34 : (((s[j]'hlt).toNat : Int) == 34) = true := by rw [hc]; rfl
        have hbt : s[j]'hlt = 34 := (UInt8.toNat_inj (b := 34)).1 hc
        have hdr : (s.extract j s.size).data.toList = s.data.toList.drop j := Lib.extract_to_end ..
        have HDR := Lib.hid hdr
        have HBT := Lib.hid hbt
        have hsz : (s.extract j s.size).size = s.size - j := by rw [ByteArray.size_extract]; omega
        have HSZ := Lib.hid hsz
        have hsl : (s.extract j s.size).size ≤ 4294967280 := by omega
        have hjs : (j : Int) ≤ (s.size : Int) := by omega
        clear hdr hbt hsz hc
        go_wp2_with fail
        refine (runq_any _ _ (by omega)).mono ?_
        rintro e w1 ⟨hb1, t, n, ok, rfl, hn, ht, hok, hall⟩
        have HOK := Lib.hid hok
        have HALL := Lib.hid hall
        have HB1 := Lib.hid (below_own' HB.out hb1)
        have hn2 : n ≤ s.size - j := by rw [← HSZ.out]; exact hn
        clear hok hall hb1 hn
        cases ok with
        | false =>
          go_wp2_with fail
          go_ret
          exact ⟨HB1.out, s.size, rfl, Nat.le_refl _, HI.out.at34 hget.out HBT.out (fun t' r h => by have := (HALL.out t' r (by rw [HDR.out]; exact h)).1; cases this) _⟩
        | true =>
          have hn3 := (HOK.out rfl).2
          have HE := Lib.hid (HI.out.quote hget.out HBT.out (n := n) (fun t' r h => (HALL.out t' r (by rw [HDR.out]; exact h)).2.2))
          go_wp2_with fail
          go_roundw
          case rel => exact ⟨j + n, d, by go_num, rfl, by omega, by omega, by omega, HE.out, HB1.out⟩
          case measure => simp [intOf]; omega
      · have b34 : (((s[j]'hlt).toNat : Int) == 34) = false := by rw [beq_eq_false_iff_ne]; omega
        have b91 : (((s[j]'hlt).toNat : Int) == 91) = true := by rw [hc]; rfl
        have hbt : s[j]'hlt = 91 := (UInt8.toNat_inj (b := 91)).1 hc
        have HE := Lib.hid (HI.out.step hget.out (by rw [hbt]; decide) (by rw [hbt]; rintro ⟨h | h, -⟩ <;> exact absurd h (by decide)))
        have HBT := Lib.hid hbt
        clear hbt hc
        go_wp2_with fail
        go_roundw
        case rel => exact ⟨j + 1, d + 1, by go_num, rfl, by omega, by omega, by omega, by have h := HE.out; rw [HBT.out] at h; simpa using h, HB.out⟩
        case measure => simp [intOf]; omega
      · have b34 : (((s[j]'hlt).toNat : Int) == 34) = false := by rw [beq_eq_false_iff_ne]; omega
        have b91 : (((s[j]'hlt).toNat : Int) == 91) = false := by rw [beq_eq_false_iff_ne]; omega
        have b40 : (((s[j]'hlt).toNat : Int) == 40) = true := by rw [hc]; rfl
        have hbt : s[j]'hlt = 40 := (UInt8.toNat_inj (b := 40)).1 hc
        have HE := Lib.hid (HI.out.step hget.out (by rw [hbt]; decide) (by rw [hbt]; rintro ⟨h | h, -⟩ <;> exact absurd h (by decide)))
        have HBT := Lib.hid hbt
        clear hbt hc
        go_wp2_with fail
        go_roundw
        case rel => exact ⟨j + 1, d + 1, by go_num, rfl, by omega, by omega, by omega, by have h := HE.out; rw [HBT.out] at h; simpa using h, HB.out⟩
        case measure => simp [intOf]; omega
      · have b34 : (((s[j]'hlt).toNat : Int) == 34) = false := by rw [beq_eq_false_iff_ne]; omega
        have b91 : (((s[j]'hlt).toNat : Int) == 91) = false := by rw [beq_eq_false_iff_ne]; omega
        have b40 : (((s[j]'hlt).toNat : Int) == 40) = false := by rw [beq_eq_false_iff_ne]; omega
        have b93 : (((s[j]'hlt).toNat : Int) == 93) = true := by rw [hc]; rfl
        have hbt : s[j]'hlt = 93 := (UInt8.toNat_inj (b := 93)).1 hc
        have HE := Lib.hid (HI.out.step hget.out (by rw [hbt]; decide) (by rw [hbt]; rintro ⟨h | h, -⟩ <;> exact absurd h (by decide)))
        have HBT := Lib.hid hbt
        clear hbt hc
        go_wp2_with fail
        go_roundw
        case rel => exact ⟨j + 1, d - 1, by go_num, rfl, by omega, by omega, by omega, by have h := HE.out; rw [HBT.out] at h; simpa using h, HB.out⟩
        case measure => simp [intOf]; omega
      · have b34 : (((s[j]'hlt).toNat : Int) == 34) = false := by rw [beq_eq_false_iff_ne]; omega
        have b91 : (((s[j]'hlt).toNat : Int) == 91) = false := by rw [beq_eq_false_iff_ne]; omega
        have b40 : (((s[j]'hlt).toNat : Int) == 40) = false := by rw [beq_eq_false_iff_ne]; omega
        have b93 : (((s[j]'hlt).toNat : Int) == 93) = false := by rw [beq_eq_false_iff_ne]; omega
        have b41 : (((s[j]'hlt).toNat : Int) == 41) = true := by rw [hc]; rfl
        have hbt : s[j]'hlt = 41 := (UInt8.toNat_inj (b := 41)).1 hc
        have HE := Lib.hid (HI.out.step hget.out (by rw [hbt]; decide) (by rw [hbt]; rintro ⟨h | h, -⟩ <;> exact absurd h (by decide)))
        have HBT := Lib.hid hbt
        clear hbt hc
        go_wp2_with fail
        go_roundw
        case rel => exact ⟨j + 1, d - 1, by go_num, rfl, by omega, by omega, by omega, by have h := HE.out; rw [HBT.out] at h; simpa using h, HB.out⟩
        case measure => simp [intOf]; omega
      · have b34 : (((s[j]'hlt).toNat : Int) == 34) = false := by rw [beq_eq_false_iff_ne]; omega
        have b91 : (((s[j]'hlt).toNat : Int) == 91) = false := by rw [beq_eq_false_iff_ne]; omega
        have b40 : (((s[j]'hlt).toNat : Int) == 40) = false := by rw [beq_eq_false_iff_ne]; omega
        have b93 : (((s[j]'hlt).toNat : Int) == 93) = false := by rw [beq_eq_false_iff_ne]; omega
        have b41 : (((s[j]'hlt).toNat : Int) == 41) = false := by rw [beq_eq_false_iff_ne]; omega
        have b44 : (((s[j]'hlt).toNat : Int) == 44) = true := by rw [hc]; rfl
        have hbt : s[j]'hlt = 44 := (UInt8.toNat_inj (b := 44)).1 hc
        by_cases hd0 : d = 0
        · subst hd0
          have HS := Lib.hid (HI.out.stop hget.out (by rw [hbt]; decide))
          clear hbt hc
          go_wp2_with fail
          go_ret
          exact ⟨HB.out, j, rfl, by omega, fun v c r h1 h2 h3 => HS.out v c r h1 h2 h3⟩
        · have hdb : (d == 0) = false := by rw [beq_eq_false_iff_ne]; exact hd0
          have HE := Lib.hid (HI.out.step hget.out (by rw [hbt]; decide) (fun h => hd0 h.2))
          have HBT := Lib.hid hbt
          clear hbt hc hd0
          go_wp2_with fail
          go_roundw
          case rel => exact ⟨j + 1, d, by go_num, rfl, by omega, by omega, by omega, by have h := HE.out; rw [HBT.out] at h; simpa using h, HB.out⟩
          case measure => simp [intOf]; omega
      · have b34 : (((s[j]'hlt).toNat : Int) == 34) = false := by rw [beq_eq_false_iff_ne]; omega
        have b91 : (((s[j]'hlt).toNat : Int) == 91) = false := by rw [beq_eq_false_iff_ne]; omega
        have b40 : (((s[j]'hlt).toNat : Int) == 40) = false := by rw [beq_eq_false_iff_ne]; omega
        have b93 : (((s[j]'hlt).toNat : Int) == 93) = false := by rw [beq_eq_false_iff_ne]; omega
        have b41 : (((s[j]'hlt).toNat : Int) == 41) = false := by rw [beq_eq_false_iff_ne]; omega
        have b44 : (((s[j]'hlt).toNat : Int) == 44) = false := by rw [beq_eq_false_iff_ne]; omega
        have b125 : (((s[j]'hlt).toNat : Int) == 125) = true := by rw [hc]; rfl
        have hbt : s[j]'hlt = 125 := (UInt8.toNat_inj (b := 125)).1 hc
        by_cases hd0 : d = 0
        · subst hd0
          have HS := Lib.hid (HI.out.stop hget.out (by rw [hbt]; decide))
          clear hbt hc
          go_wp2_with fail
          go_ret
          exact ⟨HB.out, j, rfl, by omega, fun v c r h1 h2 h3 => HS.out v c r h1 h2 h3⟩
        · have hdb : (d == 0) = false := by rw [beq_eq_false_iff_ne]; exact hd0
          have HE := Lib.hid (HI.out.step hget.out (by rw [hbt]; decide) (fun h => hd0 h.2))
          have HBT := Lib.hid hbt
          clear hbt hc hd0
          go_wp2_with fail
          go_roundw
          case rel => exact ⟨j + 1, d, by go_num, rfl, by omega, by omega, by omega, by have h := HE.out; rw [HBT.out] at h; simpa using h, HB.out⟩
          case measure => simp [intOf]; omega
      · have b34 : (((s[j]'hlt).toNat : Int) == 34) = false := by rw [beq_eq_false_iff_ne]; omega
        have b91 : (((s[j]'hlt).toNat : Int) == 91) = false := by rw [beq_eq_false_iff_ne]; omega
        have b40 : (((s[j]'hlt).toNat : Int) == 40) = false := by rw [beq_eq_false_iff_ne]; omega
        have b93 : (((s[j]'hlt).toNat : Int) == 93) = false := by rw [beq_eq_false_iff_ne]; omega
        have b41 : (((s[j]'hlt).toNat : Int) == 41) = false := by rw [beq_eq_false_iff_ne]; omega
        have b44 : (((s[j]'hlt).toNat : Int) == 44) = false := by rw [beq_eq_false_iff_ne]; omega
        have b125 : (((s[j]'hlt).toNat : Int) == 125) = false := by rw [beq_eq_false_iff_ne]; omega
        have HE := Lib.hid (HI.out.step hget.out (fun h => n34 (by rw [h]; rfl)) (by rintro ⟨h | h, -⟩; exact n44 (by rw [h]; rfl); exact n125 (by rw [h]; rfl)))
        have HIF : Hid ((if s[j]'hlt = 91 ∨ s[j]'hlt = 40 then d + 1 else if s[j]'hlt = 93 ∨ s[j]'hlt = 41 then d - 1 else d) = d) := Lib.hid (by rw [if_neg (by rintro (h | h); exact n91 (by rw [h]; rfl); exact n40 (by rw [h]; rfl)), if_neg (by rintro (h | h); exact n93 (by rw [h]; rfl); exact n41 (by rw [h]; rfl))])
        clear n34 n91 n40 n93 n41 n44 n125
        go_wp2_with fail
        go_roundw
        case rel => exact ⟨j + 1, d, by go_num, rfl, by omega, by omega, by omega, by have h := HE.out; rw [HIF.out] at h; exact h, HB.out⟩
        case measure => simp [intOf]; omega
    · have hje : j = s.size := by omega
      subst hje
      have HN := Lib.hid (fun v c r h1 h2 h3 => (show EnI s.data.toList s.data.toList.length d by rw [list_size]; exact HI.out).none v c r h1 h2 h3)
      go_wp2_with fail
      go_ret
      exact ⟨HB.out, s.size, rfl, Nat.le_refl _, fun v c r h1 h2 h3 => (HN.out v c r h1 h2 h3).elim⟩
end Go.Proofs.YtmepjbjmjbpchaaGreatDoor
end
section
/- The reference's Read in plain words: what is read of each kind is an attribute with the string, and each one is read. -/
namespace Go.Proofs.YtmepjbjmjbpchaaGreatDoor
open Go Go.RowKit Go.Sort
set_option linter.unusedVariables false
set_option linter.unusedSimpArgs false

theorem rsplit_sound : ∀ (m : Nat) (l : List UInt8) (ps : List (List UInt8)), l.length ≤ m → rsplit l = some ps → l = Lib.join ps [44, 32] ∧ ps ≠ [] ∧ ∀ x ∈ ps, isTy x = true
  | m, l, ps, hm, h => by
    cases hc : cutOf 44 l with
    | none =>
      rw [rsplit_last hc] at h
      split at h
      · rename_i ht
        have := Option.some.inj h
        subst this
        exact ⟨(Lib.join_one _ _).symm, by simp, by simpa using ht⟩
      · cases h
    | some p =>
      obtain ⟨x, y⟩ := p
      rw [rsplit_more hc] at h
      have hlen := cutOf_len hc
      obtain ⟨-, hxy, -⟩ := cutOf_some _ _ _ _ hc
      split at h
      · rename_i ht
        split at h
        · rename_i hy
          cases hr : rsplit y.tail with
          | none => rw [hr] at h; cases h
          | some qs =>
            rw [hr] at h
            have := Option.some.inj h
            subst this
            obtain ⟨m', rfl⟩ : ∃ m', m = m' + 1 := ⟨m - 1, by omega⟩
            obtain ⟨h1, h2, h3⟩ := rsplit_sound m' y.tail qs (by rw [List.length_tail]; omega) hr
            have hy2 : y = 32 :: y.tail := by
              cases y with
              | nil => simp at hy
              | cons c y => simp at hy; rw [hy]; rfl
            refine ⟨?_, by simp, fun z hz => ?_⟩
            · cases qs with
              | nil => exact absurd rfl h2
              | cons q qs =>
                rw [hxy, hy2, h1, Lib.join_cons, Lib.join_cons]
                simp [Lib.joinTail]
            · rcases List.mem_cons.1 hz with rfl | hz
              · exact ht
              · exact h3 z hz
        · cases h
      · cases h
/-- What the reference has read: an attribute, and whether it went well. -/
structure RdOk (nm s : ByteArray) (a : Atr) (ok : Bool) : Prop where
  sound : ok = true → rightA a = true → Can nm s a.dat
  comp : ∀ D, Can nm s D → ok = true ∧ rightA a = true
theorem rd_of {nm s : ByteArray} {a : Atr} {ok : Bool} (hn : a.name = nm) (hr : InR a.dat) (h1 : ok = true → rightA a = true → valD a.dat = s.data.toList) (h2 : ∀ D, Can nm s D → ok = true ∧ a.dat = D) : RdOk nm s a ok :=
  ⟨fun h h' => ⟨hn, h', hr, h1 h h'⟩, fun D hD => by
    obtain ⟨h3, h4⟩ := h2 D hD
    refine ⟨h3, ?_⟩
    rw [rightA_D, h4]
    exact hD.2.1⟩
theorem can_case {nm s : ByteArray} {D : Dat} (h : Can nm s D) : ∃ c r, s.data.toList = c :: r ∧ (
      (D = ⟨nm, 0, piOf s.data.toList, ⟨#[]⟩, [], []⟩ ∧ (c = 45 ∨ (48 ≤ c.toNat ∧ c.toNat ≤ 57))) ∨
      (D = ⟨nm, 1, 0, D.text, [], []⟩ ∧ c = 34 ∧ s.data.toList = quoteL D.text.data.toList) ∨
      (D = ⟨nm, 2, 0, s.extract 1 s.size, [], []⟩ ∧ c = 64) ∨
      (D = ⟨nm, 3, 0, s, [], []⟩ ∧ (c = 105 ∨ c = 109 ∨ c = 97 ∨ c = 33)) ∨
      (D = ⟨nm, 4, 0, ⟨#[]⟩, gInts s, []⟩ ∧ c = 91) ∨
      (D = ⟨nm, 5, 0, ⟨#[]⟩, [], gTexts s⟩ ∧ c = 40)) := by
  obtain ⟨h1, h2, h3, h4⟩ := h
  have := val_case h2 h3 h4
  rw [h1] at this
  exact this
theorem head_of0 {s : ByteArray} (h0 : 0 < s.size) : ∃ r, s.data.toList = s[0]'h0 :: r := ⟨_, by have := drop_cons h0; rw [List.drop_zero] at this; exact this⟩
theorem InR_0 (nm : ByteArray) (k : Int) (t : ByteArray) (ts : List ByteArray) : InR ⟨nm, k, 0, t, [], ts⟩ := ⟨I64_0, by simp⟩
theorem rd_empty {nm s : ByteArray} (hs : s.data.toList = []) (a : Atr) : RdOk nm s a false := by
  refine ⟨fun h => (by cases h), fun D hD => ?_⟩
  obtain ⟨c, r, h, -⟩ := can_case hD
  rw [hs] at h; cases h
theorem rd_text {nm s : ByteArray} (h0 : 0 < s.size) (hc : (s[0]'h0).toNat = 34) {t : ByteArray} {n : Nat} {ok : Bool} (hok : ok = true → s.data.toList.take n = quoteL t.data.toList ∧ 2 ≤ n) (hall : ∀ t' r, s.data.toList = quoteL t' ++ r → ok = true ∧ t.data.toList = t' ∧ n = (quoteL t').length) :
    RdOk nm s ⟨nm, 1, 0, t, none, [], 0, none, [], 0⟩ (ok && decide (n = s.size)) := by
  refine rd_of rfl (InR_0 _ _ _ _) (fun h _ => ?_) fun D hD => ?_
  · rw [Bool.and_eq_true, decide_eq_true_eq] at h
    have h2 := (hok h.1).1
    rw [h.2, ← list_size, List.take_length] at h2
    exact h2.symm
  · obtain ⟨c, r, h, hx⟩ := can_case hD
    obtain ⟨r2, h2⟩ := head_of0 h0
    rw [h2] at h
    have hc2 : c.toNat = 34 := by rw [← (List.cons.inj h).1]; exact hc
    rcases hx with ⟨-, h3⟩ | ⟨h3, -, h4⟩ | ⟨-, h3⟩ | ⟨-, h3⟩ | ⟨-, h3⟩ | ⟨-, h3⟩
    · rcases h3 with rfl | h3
      · simp at hc2
      · omega
    · obtain ⟨h5, h6, h7⟩ := hall D.text.data.toList [] (by rw [h4, List.append_nil])
      refine ⟨?_, ?_⟩
      · rw [h5, h7, ← h4, list_size]; simp
      · rw [h3, ← bytes_inj h6]; rfl
    · subst h3; simp at hc2
    · rcases h3 with rfl | rfl | rfl | rfl <;> simp at hc2
    · subst h3; simp at hc2
    · subst h3; simp at hc2
theorem rd_sym {nm s : ByteArray} (h0 : 0 < s.size) (hc : (s[0]'h0).toNat = 64) : RdOk nm s ⟨nm, 2, 0, s.extract 1 s.size, none, [], 0, none, [], 0⟩ true := by
  refine rd_of rfl (InR_0 _ _ _ _) (fun _ _ => ?_) fun D hD => ?_
  · obtain ⟨r, h⟩ := head_of0 h0
    show 64 :: (s.extract 1 s.size).data.toList = s.data.toList
    rw [Lib.extract_to_end, h, (UInt8.toNat_inj (b := 64)).1 hc]; rfl
  · refine ⟨rfl, ?_⟩
    obtain ⟨c, r, h, hx⟩ := can_case hD
    obtain ⟨r2, h2⟩ := head_of0 h0
    rw [h2] at h
    have hc2 : c.toNat = 64 := by rw [← (List.cons.inj h).1]; exact hc
    rcases hx with ⟨-, h3⟩ | ⟨-, h3, -⟩ | ⟨h3, -⟩ | ⟨-, h3⟩ | ⟨-, h3⟩ | ⟨-, h3⟩
    · rcases h3 with rfl | h3
      · simp at hc2
      · omega
    · subst h3; simp at hc2
    · rw [h3]; rfl
    · rcases h3 with rfl | rfl | rfl | rfl <;> simp at hc2
    · subst h3; simp at hc2
    · subst h3; simp at hc2
theorem rd_type {nm s : ByteArray} (h0 : 0 < s.size) (hc : ∀ k ∈ [34, 64, 91, 40, 45, 48, 49, 50, 51, 52, 53, 54, 55, 56, 57], (s[0]'h0).toNat ≠ k) : RdOk nm s ⟨nm, 3, 0, s, none, [], 0, none, [], 0⟩ true := by
  refine rd_of rfl (InR_0 _ _ _ _) (fun _ _ => rfl) fun D hD => ?_
  refine ⟨rfl, ?_⟩
  obtain ⟨c, r, h, hx⟩ := can_case hD
  obtain ⟨r2, h2⟩ := head_of0 h0
  rw [h2] at h
  have hc2 : ∀ k ∈ [34, 64, 91, 40, 45, 48, 49, 50, 51, 52, 53, 54, 55, 56, 57], c.toNat ≠ k := by rw [← (List.cons.inj h).1]; exact hc
  rcases hx with ⟨-, h3⟩ | ⟨-, h3, -⟩ | ⟨-, h3⟩ | ⟨h3, -⟩ | ⟨-, h3⟩ | ⟨-, h3⟩
  · exfalso
    rcases h3 with rfl | h3
    · exact hc2 45 (by simp) rfl
    · exact hc2 c.toNat (by simp; omega) rfl
  · subst h3; exact absurd rfl (hc2 34 (by simp))
  · subst h3; exact absurd rfl (hc2 64 (by simp))
  · rw [h3]; rfl
  · subst h3; exact absurd rfl (hc2 91 (by simp))
  · subst h3; exact absurd rfl (hc2 40 (by simp))
theorem rd_int {nm s : ByteArray} (h0 : 0 < s.size) (hc : (s[0]'h0).toNat = 45 ∨ (48 ≤ (s[0]'h0).toNat ∧ (s[0]'h0).toNat ≤ 57)) {n : Int} (hn : I64 n) (hr : rintB s.data.toList = true → n = rintN s.data.toList) :
    RdOk nm s ⟨nm, 0, n, ⟨#[]⟩, none, [], 0, none, [], 0⟩ (rintB s.data.toList) := by
  refine rd_of rfl ⟨hn, by intro z hz; cases hz⟩ (fun h _ => ?_) fun D hD => ?_
  · show Lib.itoa n = s.data.toList
    rw [hr h]; exact rint_yes h
  · have hD2 := hD
    obtain ⟨c, r, h, hx⟩ := can_case hD
    obtain ⟨r2, h2⟩ := head_of0 h0
    rw [h2] at h
    have hc2 : c.toNat = 45 ∨ (48 ≤ c.toNat ∧ c.toNat ≤ 57) := by rw [← (List.cons.inj h).1]; exact hc
    rcases hx with ⟨h3, -⟩ | ⟨-, h3, -⟩ | ⟨-, h3⟩ | ⟨-, h3⟩ | ⟨-, h3⟩ | ⟨-, h3⟩
    · obtain ⟨e1, e2, e3, e4⟩ := hD2
      have hv : Lib.itoa D.num = s.data.toList := by rw [← e4, h3]; rfl
      have hi := rint_itoa (v := D.num) e3.1
      rw [hv] at hi
      refine ⟨hi.1, ?_⟩
      have h5 := hr hi.1
      rw [hi.2] at h5
      have hp := pi_itoa e3.1.1 e3.1.2
      rw [hv] at hp
      rw [h3, h5, hp]; rfl
    · subst h3; simp at hc2
    · subst h3; simp at hc2
    · rcases h3 with rfl | rfl | rfl | rfl <;> simp at hc2
    · subst h3; simp at hc2
    · subst h3; simp at hc2
theorem rd_ints {nm s : ByteArray} (h0 : 0 < s.size) (hc : (s[0]'h0).toNat = 91) {l : List Int} {ok : Bool} (hz : ∀ z ∈ l, I64 z) (hok : ok = true → s.data.toList = 91 :: (joinI l ++ [93])) (hall : ∀ l', (∀ z ∈ l', I64 z) → s.data.toList = 91 :: (joinI l' ++ [93]) → ok = true) (sa : Option Addr) (sc : Nat) :
    RdOk nm s ⟨nm, 4, 0, ⟨#[]⟩, sa, l, sc, none, [], 0⟩ ok := by
  refine rd_of rfl ⟨I64_0, hz⟩ (fun h _ => (hok h).symm) fun D hD => ?_
  have hD2 := hD
  obtain ⟨c, r, h, hx⟩ := can_case hD
  obtain ⟨r2, h2⟩ := head_of0 h0
  rw [h2] at h
  have hc2 : c.toNat = 91 := by rw [← (List.cons.inj h).1]; exact hc
  rcases hx with ⟨-, h3⟩ | ⟨-, h3, -⟩ | ⟨-, h3⟩ | ⟨-, h3⟩ | ⟨h3, -⟩ | ⟨-, h3⟩
  · rcases h3 with rfl | h3
    · simp at hc2
    · omega
  · subst h3; simp at hc2
  · subst h3; simp at hc2
  · rcases h3 with rfl | rfl | rfl | rfl <;> simp at hc2
  · obtain ⟨e1, e2, e3, e4⟩ := hD2
    have hv : 91 :: (joinI D.ints ++ [93]) = s.data.toList := by rw [← e4, h3]; rfl
    have h5 := hall D.ints e3.2 hv.symm
    refine ⟨h5, ?_⟩
    have h6 : gInts s = l := gInts_of hz (hok h5)
    rw [h3, h6]; rfl
  · subst h3; simp at hc2
theorem body_eq {l b : List UInt8} (h : bodyOf l = some b) : l = 40 :: (b ++ [41]) := by
  obtain ⟨h1, h2, h3, h4⟩ := bodyOf_some h
  match l, h1, h2, h3, h4 with
  | c :: r, h1, h2, h3, h4 =>
    have hc : c = 40 := by
      simp [Lib.hasPrefix, List.isPrefixOf] at h1
      exact h1.symm
    have hr : r ≠ [] := by intro e; subst e; simp at h4
    rw [List.drop_one, List.tail_cons] at h2 h3
    rw [suffix_iff hr] at h2
    rw [hc, h3, ← List.dropLast_eq_take]
    congr 1
    have h5 := List.dropLast_concat_getLast hr
    have h6 : r.getLast hr = 41 := by simpa using h2
    rw [h6] at h5
    exact h5.symm
theorem rd_types {nm s : ByteArray} (h0 : 0 < s.size) (hc : (s[0]'h0).toNat = 40) {ls : List ByteArray} {ok : Bool} (sa : Option Addr) (sc : Nat)
    (h : (bodyOf s.data.toList = none ∧ ok = false) ∨ (bodyOf s.data.toList = some [] ∧ ok = true ∧ ls = []) ∨ (∃ l, bodyOf s.data.toList = some l ∧ l ≠ [] ∧ rsplit l = none ∧ ok = false) ∨
      (∃ l, bodyOf s.data.toList = some l ∧ l ≠ [] ∧ rsplit l = some (ls.map (·.data.toList)) ∧ ok = decide (ls.length ≤ 100))) :
    RdOk nm s ⟨nm, 5, 0, ⟨#[]⟩, none, [], 0, sa, ls, sc⟩ ok := by
  refine rd_of rfl (InR_0 _ _ _ _) (fun hk hr => ?_) fun D hD => ?_
  · have hl : ls.length ≤ 100 ∧ ls.all isTyB = true := by
      simp only [rightA, ownB, Bool.and_eq_true] at hr
      have := hr.1.2
      simp at this
      exact ⟨this.1, by simpa using this.2⟩
    show (joinOf ls).1 = s.data.toList
    rw [joinOf_right hl.2 hl.1]
    rcases h with ⟨-, h2⟩ | ⟨h1, -, h3⟩ | ⟨l, -, -, -, h2⟩ | ⟨l, h1, h2, h3, -⟩
    · rw [h2] at hk; cases hk
    · rw [body_eq h1, h3]; rfl
    · rw [h2] at hk; cases hk
    · rw [body_eq h1, (rsplit_sound _ l _ (Nat.le_refl _) h3).1]; rfl
  · have hD2 := hD
    obtain ⟨c, r, hs, hx⟩ := can_case hD
    obtain ⟨r2, h2⟩ := head_of0 h0
    rw [h2] at hs
    have hc2 : c.toNat = 40 := by rw [← (List.cons.inj hs).1]; exact hc
    rcases hx with ⟨-, h3⟩ | ⟨-, h3, -⟩ | ⟨-, h3⟩ | ⟨-, h3⟩ | ⟨-, h3⟩ | ⟨h3, -⟩
    · rcases h3 with rfl | h3
      · simp at hc2
      · omega
    · subst h3; simp at hc2
    · subst h3; simp at hc2
    · rcases h3 with rfl | rfl | rfl | rfl <;> simp at hc2
    · subst h3; simp at hc2
    · obtain ⟨e1, e2, e3, e4⟩ := hD2
      obtain ⟨ts, hts⟩ : ∃ ts, ts = gTexts s := ⟨_, rfl⟩
      rw [← hts] at h3
      subst h3
      have hl : ts.length ≤ 100 ∧ ts.all isTyB = true := by
        have hr : rightA ⟨nm, 5, 0, ⟨#[]⟩, none, [], 0, none, ts, 0⟩ = true := e2
        simp only [rightA, ownB, Bool.and_eq_true] at hr
        have := hr.1.2
        simp at this
        exact ⟨this.1, by simpa using this.2⟩
      have hv : (joinOf ts).1 = s.data.toList := e4
      rw [joinOf_right hl.2 hl.1] at hv
      have hb : bodyOf s.data.toList = some (joinS ts) := by rw [← hv]; exact bodyOf_join _
      have hbad : ts.any badTy = false := by
        rw [List.any_eq_false]
        intro x hx
        have h2 : isTy x.data.toList = true := List.all_eq_true.1 hl.2 x hx
        rw [badTy_isTy]
        simp [h2]
      rw [hb] at h
      by_cases h00 : ts = []
      · subst h00
        have hj : joinS [] = [] := rfl
        rw [hj] at h
        rcases h with ⟨h1, -⟩ | ⟨-, h4, h5⟩ | ⟨l, h1, h4, -⟩ | ⟨l, h1, h4, -⟩
        · cases h1
        · exact ⟨h4, by rw [h5]; rfl⟩
        · exact absurd (Option.some.inj h1).symm h4
        · exact absurd (Option.some.inj h1).symm h4
      · have hne := joinS_ne h00 hbad
        have hp : piecesL (joinS ts) = ts.map (·.data.toList) := joinS_pieces h00 hbad
        have hrs : rsplit (joinS ts) = some (ts.map (·.data.toList)) := by
          rw [rsplit_eq _ _ (Nat.le_refl _), hp, if_pos]
          rw [List.all_eq_true]
          intro x hx
          obtain ⟨y, hy, rfl⟩ := List.mem_map.1 hx
          exact List.all_eq_true.1 hl.2 y hy
        rcases h with ⟨h1, -⟩ | ⟨h1, -⟩ | ⟨l, h1, -, h4, -⟩ | ⟨l, h1, -, h4, h5⟩
        · cases h1
        · exact absurd (Option.some.inj h1) hne
        · rw [← Option.some.inj h1, hrs] at h4; cases h4
        · rw [← Option.some.inj h1, hrs] at h4
          have h6 : ls = ts := data_inj (Option.some.inj h4).symm
          subst h6
          exact ⟨by rw [h5]; simp; omega, rfl⟩
end Go.Proofs.YtmepjbjmjbpchaaGreatDoor
end
