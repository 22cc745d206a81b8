/- Texts of this claim, laid together: AqD, AqE, AqF, AqG, AqH, AqI. -/
import Derived.Test.YtmepjbjmjbpchaaGreatDoorMg25
section
/- attrs.Read at any strings. -/
namespace Go.Proofs.YtmepjbjmjbpchaaGreatDoor
open Go Go.RowKit Go.Sort
set_option linter.unusedVariables false
set_option linter.unusedSimpArgs false

/-- The attribute with a name and a string. -/
def Can (nm s : ByteArray) (d : Dat) : Prop := d.name = nm ∧ rightD d = true ∧ InR d ∧ valD d = s.data.toList
def RaPost (nm s : ByteArray) (w : World) (e : Ending) (w' : World) : Prop :=
  ∃ o : Option Dat, RdPost o 70 w e w' ∧ (∀ D, o = some D → Can nm s D) ∧ (o = none → ∀ d, ¬ Can nm s d)
set_option maxRecDepth 100000 in
set_option maxHeartbeats 8000000 in
theorem read_name (nm s : ByteArray) (w : World) (hn : nameOf nm.data.toList = true) (hnm : nm.size ≤ 140737488351232) (hs : s.size ≤ 4294967280) (hg : GlobE w) :
    Calls Tryz.prog 22 #[.string nm, .string s] w (RaPost nm s w) := by
  have HN := Lib.hid hn
  have HG := Lib.hid hg
  clear hn hg
  go_enter Tryz.func22, Tryz.ntmps22
  go_wp2_with (go_at_call 42; refine (isName_any nm _).mono ?_; rintro e w1 ⟨rfl, rfl⟩; rw [HN.out])
  refine Calls.mono (guess_any nm s _ hnm hs (HG.out.below ?_)) ?_
  · (repeat (first | (with_reducible refine below_set ?_ (by first | exact Nat.le_refl _ | omega) _ _) | with_reducible exact Below.refl _ _ | with_reducible refine belowA ?_ _ | with_reducible refine belowD ?_ | with_reducible refine belowN ?_ _))
  rintro e w2 ⟨D, hDn, ⟨x, rfl, hd, hl, hf, hfr, hb2⟩, hU⟩
  obtain ⟨vs, hvs⟩ : ∃ vs : ByteArray, vs = ⟨(valD D).toArray⟩ := ⟨_, rfl⟩
  have hve : valD D = s.data.toList ↔ vs = s := by
    rw [hvs]
    constructor
    · intro h; rw [h]
    · intro h; rw [← h]
  obtain ⟨r, hr⟩ : ∃ r, r = rightD D := ⟨_, rfl⟩
  have HVE := Lib.hid hve
  have HR := Lib.hid hr
  have HDN := Lib.hid hDn
  have HU := Lib.hid hU
  have HRX : Hid (rightA x = r) := Lib.hid (by rw [rightA_D, hd, ← hr])
  have HTX : Hid ((⟨(valD x.dat).toArray⟩ : ByteArray) = vs) := Lib.hid (by rw [hd, hvs])
  have HIN : Hid (InR D) := Lib.hid (by rw [← hd]; exact hf.inR)
  have c2 := rdCell hb2 w.heap.size (by first | (simp; done) | (simp; omega))
  have f2 := rdFree hb2 w.heap.size (by first | (simp; done) | (simp; omega))
  have hzw2 : w.heap.size < w2.heap.size := (by have := Below.size hb2; simp at this; omega)
  have HL := Lib.hid hl
  have HF := Lib.hid hf
  have HD := Lib.hid hd
  have HFR := Lib.hid hfr
  have HB2 : Hid (Below w.heap.size w w2) := Lib.hid (by (repeat (first | (with_reducible refine below_set ?_ (by first | exact Nat.le_refl _ | omega) _ _) | with_reducible exact Below.refl _ _ | with_reducible refine belowA ?_ _ | with_reducible refine below_own' ?_ hb2 | with_reducible refine belowD ?_ | with_reducible refine belowN ?_ _)))
  have HNONE : Hid (¬ (r = true ∧ vs = s) → ∀ W, Below w.heap.size w W → RaPost nm s w (.returned (.tuple #[zAt, .int .i64 70])) W) := Lib.hid fun h W hW => by
    refine ⟨none, ⟨rfl, hW⟩, (fun D' h => by cases h), fun _ d hc => ?_⟩
    obtain ⟨h1, h2, h3, h4⟩ := hc
    have h5 := hU d h1 h2 h3 h4
    subst h5
    exact h ⟨hr.trans h2, hve.1 h4⟩
  clear hvs hve hr hDn hU hl hf hd hfr hb2
  have hcs : r = false ∨ (r = true ∧ ¬ vs = s) ∨ (r = true ∧ vs = s) := by
    cases r
    · exact .inl rfl
    · by_cases h : vs = s
      · exact .inr (.inr ⟨rfl, h⟩)
      · exact .inr (.inl ⟨rfl, h⟩)
  rcases hcs with rfl | ⟨rfl, hv⟩ | ⟨rfl, hv⟩
  · go_wp2_with (first
      | (go_at_call 45; refine Calls.mono (textA_any x _ (HL.out.below ?_) HF.out (by rw [HRX.out]) (HG.out.glob.below ?_).pow) ?_; (focus ((repeat (first | (with_reducible refine below_set ?_ (by first | exact Nat.le_refl _ | omega) _ _) | with_reducible exact Below.refl _ _ | with_reducible refine belowA ?_ _ | with_reducible refine below_own' ?_ hb3 | with_reducible refine belowD ?_ | with_reducible refine belowN ?_ _)); done)); (focus ((repeat (first | (with_reducible refine below_set ?_ (by first | exact Nat.le_refl _ | omega) _ _) | with_reducible exact Below.refl _ _ | with_reducible refine belowA ?_ _ | with_reducible refine below_own' ?_ hb3 | with_reducible refine below_own' ?_ HB2.out | with_reducible refine belowD ?_ | with_reducible refine belowN ?_ _)); done)); rintro e w4 ⟨rfl, hb4⟩; rw [HTX.out]; have c4 := fun j => (rdCell hb4 w.heap.size (by omega) j).trans (c3 j); have f4 := fun j => (rdFree hb4 w.heap.size (by omega) j).trans (f3 j); have d4 := fun j => (rdCell hb4 w2.heap.size (by omega) j).trans (d3 j); have hzw4 : w2.heap.size < w4.heap.size := Nat.lt_of_lt_of_le hzw3 hb4.size)
      | (go_at_call 44; refine Calls.mono (isRight_any x _ (HL.out.below ?_) HF.out) ?_; (focus ((repeat (first | (with_reducible refine below_set ?_ (by first | exact Nat.le_refl _ | omega) _ _) | with_reducible exact Below.refl _ _ | with_reducible refine belowA ?_ _ | with_reducible refine belowD ?_ | with_reducible refine belowN ?_ _)); done)); rintro e w3 ⟨rfl, hb3⟩; rw [HRX.out]; have c3 := rdCell hb3 w.heap.size (by simp; omega); have f3 := rdFree hb3 w.heap.size (by simp; omega); have d3 := rdCell hb3 w2.heap.size (by simp); have hzw3 : w2.heap.size < w3.heap.size := (by have := Below.size hb3; simp at this; omega)))
    refine bodyPost_ret (v := .tuple #[zAt, .int .i64 70]) (by simp [results, Tryz.results22, go_sem, c3, f3, c2, f2, hzw2, show w.heap.size < w3.heap.size by omega, zAt]) rfl ?_
    exact HNONE.out (by simp) _ (by (repeat (first | (with_reducible refine below_set ?_ (by first | exact Nat.le_refl _ | omega) _ _) | with_reducible exact Below.refl _ _ | with_reducible refine belowA ?_ _ | with_reducible refine below_own' ?_ hb3 | with_reducible refine below_own' ?_ HB2.out | with_reducible refine belowD ?_ | with_reducible refine belowN ?_ _)))
  · have hvl : (vs.toList == s.toList) = false := by simpa [toList_inj] using hv
    go_wp2_with (first
      | (go_at_call 45; refine Calls.mono (textA_any x _ (HL.out.below ?_) HF.out (by rw [HRX.out]) (HG.out.glob.below ?_).pow) ?_; (focus ((repeat (first | (with_reducible refine below_set ?_ (by first | exact Nat.le_refl _ | omega) _ _) | with_reducible exact Below.refl _ _ | with_reducible refine belowA ?_ _ | with_reducible refine below_own' ?_ hb3 | with_reducible refine belowD ?_ | with_reducible refine belowN ?_ _)); done)); (focus ((repeat (first | (with_reducible refine below_set ?_ (by first | exact Nat.le_refl _ | omega) _ _) | with_reducible exact Below.refl _ _ | with_reducible refine belowA ?_ _ | with_reducible refine below_own' ?_ hb3 | with_reducible refine below_own' ?_ HB2.out | with_reducible refine belowD ?_ | with_reducible refine belowN ?_ _)); done)); rintro e w4 ⟨rfl, hb4⟩; rw [HTX.out]; have c4 := fun j => (rdCell hb4 w.heap.size (by omega) j).trans (c3 j); have f4 := fun j => (rdFree hb4 w.heap.size (by omega) j).trans (f3 j); have d4 := fun j => (rdCell hb4 w2.heap.size (by omega) j).trans (d3 j); have hzw4 : w2.heap.size < w4.heap.size := Nat.lt_of_lt_of_le hzw3 hb4.size)
      | (go_at_call 44; refine Calls.mono (isRight_any x _ (HL.out.below ?_) HF.out) ?_; (focus ((repeat (first | (with_reducible refine below_set ?_ (by first | exact Nat.le_refl _ | omega) _ _) | with_reducible exact Below.refl _ _ | with_reducible refine belowA ?_ _ | with_reducible refine belowD ?_ | with_reducible refine belowN ?_ _)); done)); rintro e w3 ⟨rfl, hb3⟩; rw [HRX.out]; have c3 := rdCell hb3 w.heap.size (by simp; omega); have f3 := rdFree hb3 w.heap.size (by simp; omega); have d3 := rdCell hb3 w2.heap.size (by simp); have hzw3 : w2.heap.size < w3.heap.size := (by have := Below.size hb3; simp at this; omega)))
    refine bodyPost_ret (v := .tuple #[zAt, .int .i64 70]) (by simp [results, Tryz.results22, go_sem, c4, f4, c2, f2, hzw2, show w.heap.size < w4.heap.size by omega, zAt]) rfl ?_
    exact HNONE.out (fun h => hv h.2) _ (by (repeat (first | (with_reducible refine below_set ?_ (by first | exact Nat.le_refl _ | omega) _ _) | with_reducible exact Below.refl _ _ | with_reducible refine belowA ?_ _ | with_reducible refine below_own' ?_ hb4 | with_reducible refine below_own' ?_ hb3 | with_reducible refine below_own' ?_ HB2.out | with_reducible refine belowD ?_ | with_reducible refine belowN ?_ _)))
  · have hvl : (vs.toList == s.toList) = true := by simpa [toList_inj] using hv
    go_wp2_with (first
      | (go_at_call 45; refine Calls.mono (textA_any x _ (HL.out.below ?_) HF.out (by rw [HRX.out]) (HG.out.glob.below ?_).pow) ?_; (focus ((repeat (first | (with_reducible refine below_set ?_ (by first | exact Nat.le_refl _ | omega) _ _) | with_reducible exact Below.refl _ _ | with_reducible refine belowA ?_ _ | with_reducible refine below_own' ?_ hb3 | with_reducible refine belowD ?_ | with_reducible refine belowN ?_ _)); done)); (focus ((repeat (first | (with_reducible refine below_set ?_ (by first | exact Nat.le_refl _ | omega) _ _) | with_reducible exact Below.refl _ _ | with_reducible refine belowA ?_ _ | with_reducible refine below_own' ?_ hb3 | with_reducible refine below_own' ?_ HB2.out | with_reducible refine belowD ?_ | with_reducible refine belowN ?_ _)); done)); rintro e w4 ⟨rfl, hb4⟩; rw [HTX.out]; have c4 := fun j => (rdCell hb4 w.heap.size (by omega) j).trans (c3 j); have f4 := fun j => (rdFree hb4 w.heap.size (by omega) j).trans (f3 j); have d4 := fun j => (rdCell hb4 w2.heap.size (by omega) j).trans (d3 j); have hzw4 : w2.heap.size < w4.heap.size := Nat.lt_of_lt_of_le hzw3 hb4.size)
      | (go_at_call 44; refine Calls.mono (isRight_any x _ (HL.out.below ?_) HF.out) ?_; (focus ((repeat (first | (with_reducible refine below_set ?_ (by first | exact Nat.le_refl _ | omega) _ _) | with_reducible exact Below.refl _ _ | with_reducible refine belowA ?_ _ | with_reducible refine belowD ?_ | with_reducible refine belowN ?_ _)); done)); rintro e w3 ⟨rfl, hb3⟩; rw [HRX.out]; have c3 := rdCell hb3 w.heap.size (by simp; omega); have f3 := rdFree hb3 w.heap.size (by simp; omega); have d3 := rdCell hb3 w2.heap.size (by simp); have hzw3 : w2.heap.size < w3.heap.size := (by have := Below.size hb3; simp at this; omega)))
    refine bodyPost_ret (v := .tuple #[x.val, .int .i64 0]) (by simp [results, Tryz.results22, go_sem, c4, f4, c2, f2, hzw2, show w.heap.size < w4.heap.size by omega]) rfl ?_
    have hbw : Below w.heap.size w w4 := by (repeat (first | (with_reducible refine below_set ?_ (by first | exact Nat.le_refl _ | omega) _ _) | with_reducible exact Below.refl _ _ | with_reducible refine belowA ?_ _ | with_reducible refine below_own' ?_ hb4 | with_reducible refine below_own' ?_ hb3 | with_reducible refine below_own' ?_ HB2.out | with_reducible refine belowD ?_ | with_reducible refine belowN ?_ _))
    have hgr := six_grown w4 w.heap.size 0 x
    have hb24 : Below w2.heap.size w2 w4 := below_own' (by (repeat (first | (with_reducible refine below_set ?_ (by first | exact Nat.le_refl _ | omega) _ _) | with_reducible exact Below.refl _ _ | with_reducible refine belowA ?_ _ | with_reducible refine below_own' ?_ hb3 | with_reducible refine belowD ?_ | with_reducible refine belowN ?_ _))) hb4
    refine ⟨some D, ⟨x, rfl, HD.out, ((HL.out.below hb24).grown hgr fun y hy e => ?_), HF.out, fun y hy => ?_, hbw.grown hgr hbw.size (fun t e => by cases e; exact Nat.le_refl _)⟩, fun D' h => ?_, fun h => by cases h⟩
    · have h1 := HFR.out y hy
      have h2 := Option.some.inj e
      simp at h1; omega
    · have h1 := HFR.out y hy
      have h2 : (six w4 w.heap.size 0 x).heap.size = w4.heap.size := by simp [six, World.setCell]
      have h3 := hb24.size
      have h4 := h1.1
      have h5 := h1.2
      simp at h4
      refine ⟨by omega, ?_⟩
      show y.block < (six w4 w.heap.size 0 x).heap.size
      omega
    · cases h
      exact ⟨HDN.out, HR.out.symm, HIN.out, HVE.out.2 hv⟩
end Go.Proofs.YtmepjbjmjbpchaaGreatDoor
end
section
/- attrs.Read at any name and string. -/
namespace Go.Proofs.YtmepjbjmjbpchaaGreatDoor
open Go Go.RowKit Go.Sort
set_option linter.unusedVariables false
set_option linter.unusedSimpArgs false

theorem can_name {nm s : ByteArray} {d : Dat} (h : Can nm s d) : nameOf nm.data.toList = true := by
  obtain ⟨h1, h2, -, -⟩ := h
  simp only [rightD, rightA, Bool.and_eq_true] at h2
  rw [← h1]
  exact h2.1.1.2
theorem can_uniq {nm s : ByteArray} {d e : Dat} (hd : Can nm s d) (he : Can nm s e) : d = e := by
  obtain ⟨d1, d2, d3, d4⟩ := hd
  obtain ⟨e1, e2, e3, e4⟩ := he
  have h0 : 0 < s.size := by
    obtain ⟨c, r, hs, -⟩ := val_case d2 d3 d4
    rw [← list_size s, hs]
    exact Nat.succ_pos _
  refine valD_inj d2 e2 (d1.trans e1.symm) ?_ (d4.trans e4.symm)
  rcases val_at h0 d2 d3 d4 with ⟨h, k⟩ | ⟨h, k, -⟩ | ⟨h, k⟩ | ⟨h, k⟩ | ⟨h, k⟩ | ⟨h, k⟩ <;> rcases val_at h0 e2 e3 e4 with ⟨h', k'⟩ | ⟨h', k', -⟩ | ⟨h', k'⟩ | ⟨h', k'⟩ | ⟨h', k'⟩ | ⟨h', k'⟩ <;> first | (exfalso; omega) | (rw [h, h'])
set_option maxRecDepth 100000 in
set_option maxHeartbeats 4000000 in
theorem read_bad (nm s : ByteArray) (w : World) (hn : nameOf nm.data.toList = false) :
    Calls Tryz.prog 22 #[.string nm, .string s] w (RdPost none 20 w) := by
  have HN := Lib.hid hn
  clear hn
  go_enter Tryz.func22, Tryz.ntmps22
  go_wp2_with (go_at_call 42; refine (isName_any nm _).mono ?_; rintro e w1 ⟨rfl, rfl⟩; rw [HN.out])
  refine bodyPost_ret (v := .tuple #[zAt, .int .i64 20]) (by simp [results, Tryz.results22, go_sem, zAt]) rfl ?_
  exact ⟨rfl, by (repeat (first | (with_reducible refine below_set ?_ (by first | exact Nat.le_refl _ | omega) _ _) | with_reducible exact Below.refl _ _ | with_reducible refine belowA ?_ _ | with_reducible refine belowD ?_ | with_reducible refine belowN ?_ _))⟩
/-- A function that says of each name and string which attribute is theirs. -/
theorem can_fun : ∃ F : ByteArray → ByteArray → Option Dat, ∀ nm s, (∀ D, F nm s = some D → Can nm s D) ∧ (F nm s = none → ∀ d, ¬ Can nm s d) := by
  have h : ∀ nm s : ByteArray, ∃ o : Option Dat, (∀ D, o = some D → Can nm s D) ∧ (o = none → ∀ d, ¬ Can nm s d) := fun nm s => by
    by_cases hx : ∃ d, Can nm s d
    · obtain ⟨d, hd⟩ := hx
      exact ⟨some d, (fun D h => by cases h; exact hd), (fun h => by cases h)⟩
    · exact ⟨none, (fun D h => by cases h), fun _ d hd => hx ⟨d, hd⟩⟩
  exact ⟨fun nm s => Classical.choose (h nm s), fun nm s => Classical.choose_spec (h nm s)⟩
theorem readA_any (F : ByteArray → ByteArray → Option Dat) (hF : ∀ nm s, (∀ D, F nm s = some D → Can nm s D) ∧ (F nm s = none → ∀ d, ¬ Can nm s d)) (nm s : ByteArray) (w : World) (hnm : nm.size ≤ 140737488351232) (hs : s.size ≤ 4294967280) (hg : GlobE w) :
    Calls Tryz.prog 22 #[.string nm, .string s] w (RdPost (F nm s) (if nameOf nm.data.toList then 70 else 20) w) := by
  cases hn : nameOf nm.data.toList with
  | false =>
    have h0 : F nm s = none := by
      cases hf : F nm s with
      | none => rfl
      | some D => have := can_name ((hF nm s).1 D hf); rw [hn] at this; cases this
    rw [h0]
    exact read_bad nm s w hn
  | true =>
    refine (read_name nm s w hn hnm hs hg).mono fun e w' h => ?_
    obtain ⟨o, h1, h2, h3⟩ := h
    have : F nm s = o := by
      cases o with
      | none =>
        cases hf : F nm s with
        | none => rfl
        | some D => exact absurd ((hF nm s).1 D hf) (h3 rfl D)
      | some D =>
        cases hf : F nm s with
        | none => exact absurd (h2 D rfl) ((hF nm s).2 hf D)
        | some D' => rw [can_uniq ((hF nm s).1 D' hf) (h2 D rfl)]
    rw [this]
    exact h1
end Go.Proofs.YtmepjbjmjbpchaaGreatDoor
end
section
/- The bytes of what is printed: plain ones, and where the brackets stand. -/
namespace Go.Proofs.YtmepjbjmjbpchaaGreatDoor
open Go Go.RowKit Go.Sort
set_option linter.unusedVariables false
set_option linter.unusedSimpArgs false

/-- Neither quote nor bracket nor comma. -/
def plainC (c : UInt8) : Bool := decide (c.toNat < 128) && !(c == 34 || c == 40 || c == 41 || c == 44 || c == 60 || c == 62 || c == 91 || c == 93 || c == 125)
theorem plain_dig {c : UInt8} (h : 48 ≤ c.toNat ∧ c.toNat ≤ 57) : plainC c = true := by
  have : ∀ n < 256, (48 ≤ (UInt8.ofNat n).toNat ∧ (UInt8.ofNat n).toNat ≤ 57) → plainC (UInt8.ofNat n) = true := by decide +kernel
  have h2 := this c.toNat c.toNat_lt
  simp only [UInt8.ofNat_toNat] at h2
  exact h2 h
theorem elStr_plain (b : Nat) : ∀ c ∈ elStr b, plainC c = true := by
  unfold elStr
  split
  · decide
  · intro c h
    rcases List.mem_cons.1 h with rfl | h
    · decide
    · exact plain_dig (dec_digit _ c h)
theorem elemOf_plain {l : List UInt8} {q : Pd} (h : elemOf l = some q) : ∀ c ∈ l, plainC c = true := by
  rw [elemOf_str h]
  exact elStr_plain _
theorem rest_plain : ∀ (m : Nat) (l : List UInt8) (ext : List Nat) (r : List Nat × Nat), l.length ≤ m → shapeP ext (partsOf l) = some r → ∀ c ∈ l, plainC c = true
  | m, l, ext, r, hm, h => by
    by_cases h0 : l = [105, 110, 100, 101, 120] ∨ cutOf 120 l = none
    · rw [partsOf_last h0] at h
      simp only [shapeP] at h
      split at h
      · rename_i e he; exact elemOf_plain he
      · cases h
    · cases hc : cutOf 120 l with
      | none => exact absurd (.inr hc) h0
      | some p =>
        obtain ⟨x, y⟩ := p
        have hlen := cutOf_len hc
        obtain ⟨-, hxy, -⟩ := cutOf_some _ _ _ _ hc
        obtain ⟨m', rfl⟩ : ∃ m', m = m' + 1 := ⟨m - 1, by omega⟩
        rw [partsOf_more (fun h => h0 (.inl h)) hc] at h
        simp only [shapeP] at h
        split at h
        · rename_i n hn
          split at h
          · have ih := rest_plain m' y _ r (by omega) h
            rw [hxy]
            intro c hm
            rw [List.mem_append, List.mem_cons] at hm
            rcases hm with hm | rfl | hm
            · exact plain_dig (numOf_all hn c hm)
            · decide
            · exact ih c hm
          · cases h
        · cases h
theorem name_plain {l : List UInt8} (h : nameOf l = true) : ∀ c ∈ l, plainC c = true := by
  intro c hm
  simp only [nameOf, Bool.and_eq_true, List.all_eq_true] at h
  have h2 := h.2 c hm
  revert h2
  have key : ∀ n < 256, isWord (UInt8.ofNat n) = true → plainC (UInt8.ofNat n) = true := by decide +kernel
  have h3 := key c.toNat c.toNat_lt
  simp only [UInt8.ofNat_toNat] at h3
  exact h3
theorem foreign_plain {l : List UInt8} {q : Pd} (h : foreignOf l = some q) : ∀ c ∈ l, plainC c = true := by
  unfold foreignOf at h
  split at h
  · rename_i hp
    split at h
    · cases h
    · rename_i x y hc
      obtain ⟨-, hxy, -⟩ := cutOf_some _ _ _ _ hc
      split at h
      · rename_i hn
        rw [Bool.and_eq_true] at hn
        obtain ⟨r, hr⟩ := hp_head hp.1
        rw [hr, List.tail_cons] at hxy
        rw [hr, hxy]
        intro c hm
        rcases List.mem_cons.1 hm with rfl | hm
        · decide
        · rw [List.mem_append, List.mem_cons] at hm
          rcases hm with hm | rfl | hm
          · exact name_plain hn.1 c hm
          · decide
          · exact name_plain hn.2 c hm
      · cases h
  · cases h
theorem cells_form {l p : List UInt8} {k : Nat} {q : Pd} (hp : Lib.hasPrefix (l.take (l.length - 1)) p = true) (hp4 : p.length = 4) (hs : Lib.hasSuffix l [62] = true) (h : shapeOf k ((l.take (l.length - 1)).drop 4) = some q) : ∃ m, l = p ++ m ++ [62] ∧ ∀ c ∈ m, plainC c = true := by
  unfold shapeOf at h
  rw [Option.map_eq_some_iff] at h
  obtain ⟨r, hr, -⟩ := h
  have h1 := rest_plain _ _ _ _ (Nat.le_refl _) hr
  have hne : l ≠ [] := by intro e; subst e; simp [Lib.hasSuffix, List.isSuffixOf, List.isPrefixOf] at hs
  rw [suffix_iff hne] at hs
  have hlast := eq_of_beq hs
  have hpre : (l.take (l.length - 1)).take 4 = p := by
    rw [prefix_take, hp4] at hp; exact eq_of_beq hp
  refine ⟨_, ?_, h1⟩
  rw [← hpre, List.take_append_drop, ← List.dropLast_eq_take, ← hlast, List.dropLast_concat_getLast]
theorem ty_form {l : List UInt8} (h : isTy l = true) : (∀ c ∈ l, plainC c = true) ∨ ∃ p m, l = p ++ 60 :: (m ++ [62]) ∧ (∀ c ∈ p, plainC c = true) ∧ ∀ c ∈ m, plainC c = true := by
  unfold isTy at h
  obtain ⟨q, hq⟩ := Option.isSome_iff_exists.1 h
  clear h
  unfold readOf at hq
  split at hq
  · rename_i p hp; exact .inl (elemOf_plain hp)
  · split at hq
    · rename_i hs
      split at hq
      · rename_i hp
        obtain ⟨m, hm, hpl⟩ := cells_form hp rfl hs hq
        exact .inr ⟨[109, 101, 109], m, by rw [hm]; rfl, by decide, hpl⟩
      · split at hq
        · rename_i hp
          obtain ⟨m, hm, hpl⟩ := cells_form hp rfl hs hq
          exact .inr ⟨[97, 114, 114], m, by rw [hm]; rfl, by decide, hpl⟩
        · exact .inl (foreign_plain hq)
    · exact .inl (foreign_plain hq)
/-- A step of pieces over one byte. -/
structure Ps where
  d : Int
  q : Bool
  k : Bool
def psStep (t : Ps) (c : UInt8) : Ps :=
  if t.k = true then ⟨t.d, t.q, false⟩
  else if t.q = true ∧ c = 92 then ⟨t.d, t.q, true⟩
  else if c = 34 then ⟨t.d, !t.q, false⟩
  else if t.q = true then ⟨t.d, t.q, false⟩
  else if c = 40 ∨ c = 91 ∨ c = 60 then ⟨t.d + 1, t.q, false⟩
  else if c = 41 ∨ c = 93 ∨ c = 62 then ⟨t.d - 1, t.q, false⟩
  else ⟨t.d, t.q, false⟩
/-- What pieces makes of bytes among which it cuts nowhere. -/
def psRun (t : Ps) : List UInt8 → Option Ps
  | [] => some t
  | c :: r => if 128 ≤ c.toNat ∨ (t.k = false ∧ t.q = false ∧ c = 44 ∧ t.d = 0) then none else psRun (psStep t c) r
theorem psRun_append (l m : List UInt8) : ∀ t, psRun t (l ++ m) = (psRun t l).bind fun t' => psRun t' m := by
  induction l with
  | nil => intro t; rfl
  | cons c r ih =>
    intro t
    show (if _ then none else psRun (psStep t c) (r ++ m)) = (if _ then none else psRun (psStep t c) r).bind _
    split
    · rfl
    · exact ih _
theorem ps_plain : ∀ (l : List UInt8) (d : Int), (∀ c ∈ l, plainC c = true) → psRun ⟨d, false, false⟩ l = some ⟨d, false, false⟩
  | [], d, _ => rfl
  | c :: l, d, h => by
    have hc := h c (List.mem_cons_self ..)
    simp only [plainC, Bool.and_eq_true, decide_eq_true_eq, Bool.not_eq_true', Bool.or_eq_false_iff, beq_eq_false_iff_ne, ne_eq] at hc
    obtain ⟨h128, ⟨⟨⟨⟨⟨⟨⟨h34, h40⟩, h41⟩, h44⟩, h60⟩, h62⟩, h91⟩, h93⟩, h125⟩ := hc
    unfold psRun
    rw [if_neg (by intro hx; rcases hx with hx | hx; omega; exact h44 hx.2.2.1)]
    have : psStep ⟨d, false, false⟩ c = ⟨d, false, false⟩ := by
      unfold psStep
      simp [h34, h40, h41, h60, h62, h91, h93]
    rw [this]
    exact ps_plain l d fun b hb => h b (List.mem_cons_of_mem _ hb)
end Go.Proofs.YtmepjbjmjbpchaaGreatDoor
end
section
/- What pieces makes of a printed attribute: nowhere a cut, and at the end it stands as at the start. -/
namespace Go.Proofs.YtmepjbjmjbpchaaGreatDoor
open Go Go.RowKit Go.Sort
set_option linter.unusedVariables false
set_option linter.unusedSimpArgs false

theorem itoa_plain (n : Int) : ∀ c ∈ Lib.itoa n, plainC c = true := by
  unfold Lib.itoa
  split
  · intro c h
    rcases List.mem_cons.1 h with rfl | h
    · decide
    · exact plain_dig (dec_digit _ c h)
  · intro c h
    exact plain_dig (dec_digit _ c h)
theorem ps_esc (d : Int) (c : UInt8) : psRun ⟨d, true, false⟩ (escOf c) = some ⟨d, true, false⟩ := by
  have key : ∀ n < 256, psRun ⟨0, true, false⟩ (escOf (UInt8.ofNat n)) = some ⟨0, true, false⟩ → True := fun _ _ _ => trivial
  have hx : ∀ n < 16, (hexOf n).toNat < 128 ∧ hexOf n ≠ 92 ∧ hexOf n ≠ 34 := by decide +kernel
  unfold escOf
  split
  · simp [psRun, psStep]
  · split
    · simp [psRun, psStep]
    · split
      · simp [psRun, psStep]
      · rename_i h1 h2 h3
        split
        · have hc := c.toNat_lt
          obtain ⟨a1, a2, a3⟩ := hx (c.toNat / 16) (by omega)
          obtain ⟨b1, b2, b3⟩ := hx (c.toNat % 16) (by omega)
          simp [psRun, psStep, Nat.not_le.2 a1, Nat.not_le.2 b1, a2, a3, b2, b3]
        · rename_i h4
          simp [psRun, psStep, h1, h2, h3, show ¬ 128 ≤ c.toNat by omega]
theorem ps_escL (d : Int) : ∀ l : List UInt8, psRun ⟨d, true, false⟩ (escL l) = some ⟨d, true, false⟩
  | [] => rfl
  | c :: r => by
    unfold escL
    rw [psRun_append, ps_esc, Option.bind_some]
    exact ps_escL d r
theorem ps_quote (d : Int) (l : List UInt8) : psRun ⟨d, false, false⟩ (quoteL l) = some ⟨d, false, false⟩ := by
  have e : psRun ⟨d, false, false⟩ (quoteL l) = psRun ⟨d, true, false⟩ (escL l ++ [34]) := by
    unfold quoteL
    rw [psRun]
    simp [psStep]
  rw [e, psRun_append, ps_escL, Option.bind_some]
  simp [psRun, psStep]
theorem ps_ty (d : Int) {l : List UInt8} (h : isTy l = true) : psRun ⟨d, false, false⟩ l = some ⟨d, false, false⟩ := by
  rcases ty_form h with h | ⟨p, m, rfl, hp, hm⟩
  · exact ps_plain _ _ h
  · rw [psRun_append, ps_plain _ _ hp, Option.bind_some]
    have e : psRun ⟨d, false, false⟩ (60 :: (m ++ [62])) = psRun ⟨d + 1, false, false⟩ (m ++ [62]) := by
      rw [psRun]
      simp [psStep]
    rw [e, psRun_append, ps_plain _ _ hm, Option.bind_some]
    simp [psRun, psStep]
theorem ps_sep {d : Int} (hd : d ≠ 0) (l : List UInt8) : psRun ⟨d, false, false⟩ (44 :: 32 :: l) = psRun ⟨d, false, false⟩ l := by
  rw [psRun, psRun]
  simp [psStep, hd]
theorem ps_tail {d : Int} (hd : d ≠ 0) : ∀ ls : List (List UInt8), (∀ x ∈ ls, psRun ⟨d, false, false⟩ x = some ⟨d, false, false⟩) → psRun ⟨d, false, false⟩ (Lib.joinTail [44, 32] ls) = some ⟨d, false, false⟩
  | [], _ => rfl
  | x :: r, h => by
    have e : Lib.joinTail [44, 32] (x :: r) = 44 :: 32 :: (x ++ Lib.joinTail [44, 32] r) := by simp [Lib.joinTail]
    rw [e, ps_sep hd, psRun_append, h x (List.mem_cons_self ..), Option.bind_some]
    exact ps_tail hd r fun y hy => h y (List.mem_cons_of_mem _ hy)
theorem ps_join {d : Int} (hd : d ≠ 0) (ls : List (List UInt8)) (h : ∀ x ∈ ls, psRun ⟨d, false, false⟩ x = some ⟨d, false, false⟩) : psRun ⟨d, false, false⟩ (Lib.join ls [44, 32]) = some ⟨d, false, false⟩ := by
  cases ls with
  | nil => rfl
  | cons x r =>
    rw [Lib.join_cons, psRun_append, h x (List.mem_cons_self ..), Option.bind_some]
    exact ps_tail hd r fun y hy => h y (List.mem_cons_of_mem _ hy)
theorem ps_wrap {a b : UInt8} (hab : (a = 40 ∧ b = 41) ∨ (a = 91 ∧ b = 93)) {m : List UInt8} (hm : psRun ⟨1, false, false⟩ m = some ⟨1, false, false⟩) : psRun ⟨0, false, false⟩ (a :: (m ++ [b])) = some ⟨0, false, false⟩ := by
  have e : psRun ⟨0, false, false⟩ (a :: (m ++ [b])) = psRun ⟨1, false, false⟩ (m ++ [b]) := by
    rw [psRun]
    rcases hab with ⟨rfl, rfl⟩ | ⟨rfl, rfl⟩ <;> simp [psStep]
  rw [e, psRun_append, hm, Option.bind_some]
  rcases hab with ⟨rfl, rfl⟩ | ⟨rfl, rfl⟩ <;> simp [psRun, psStep]
theorem sym_name {d : Dat} (h : rightD d = true) (hk : d.kind = 2) : nameOf d.text.data.toList = true := by
  obtain ⟨nm, k, n, tx, is, ts⟩ := d
  dsimp only at hk
  subst hk
  simp only [rightD, rightA, ownB, Bool.and_eq_true] at h
  exact h.1.2
theorem ps_val {d : Dat} (h : rightD d = true) : psRun ⟨0, false, false⟩ (valD d) = some ⟨0, false, false⟩ := by
  have hk := right_kinds h
  have hs := sym_name h
  clear h
  obtain ⟨nm, k, n, tx, is, ts⟩ := d
  dsimp only at hk hs
  rcases hk with ⟨rfl, rfl, rfl, rfl⟩ | ⟨rfl, rfl, rfl, rfl⟩ | ⟨rfl, rfl, rfl, rfl⟩ | ⟨rfl, rfl, rfl, rfl, ht⟩ | ⟨rfl, rfl, rfl, rfl, hl⟩ | ⟨rfl, rfl, rfl, rfl, hl, ht⟩
  · exact ps_plain _ _ (itoa_plain n)
  · exact ps_quote 0 _
  · refine ps_plain (64 :: tx.data.toList) 0 fun c hc => ?_
    rcases List.mem_cons.1 hc with rfl | hc
    · decide
    · exact name_plain (hs rfl) c hc
  · exact ps_ty 0 ht
  · refine ps_wrap (a := 91) (b := 93) (.inr ⟨rfl, rfl⟩) (ps_join (by decide) _ fun x hx => ?_)
    rw [List.map_map] at hx
    obtain ⟨z, -, rfl⟩ := List.mem_map.1 hx
    exact ps_plain _ _ (itoa_plain z)
  · show psRun _ (joinOf ts).1 = _
    rw [joinOf_right ht hl]
    refine ps_wrap (a := 40) (b := 41) (.inl ⟨rfl, rfl⟩) (ps_join (by decide) _ fun x hx => ?_)
    obtain ⟨z, hz, rfl⟩ := List.mem_map.1 hx
    exact ps_ty 1 (List.all_eq_true.1 ht z hz)
theorem right_name {d : Dat} (h : rightD d = true) : nameOf d.name.data.toList = true := by
  simp only [rightD, rightA, Bool.and_eq_true] at h
  exact h.1.1.2
theorem ps_item {d : Dat} (h : rightD d = true) : psRun ⟨0, false, false⟩ (itemD d) = some ⟨0, false, false⟩ := by
  unfold itemD
  simp only [psRun_append, ps_plain _ _ (name_plain (right_name h)), ps_plain [32, 61, 32] 0 (by decide), ps_val h, Option.bind_some]
end Go.Proofs.YtmepjbjmjbpchaaGreatDoor
end
section
/- The pieces of a printed list. -/
namespace Go.Proofs.YtmepjbjmjbpchaaGreatDoor
open Go Go.RowKit Go.Sort
set_option linter.unusedVariables false
set_option linter.unusedSimpArgs false

theorem drop_at {s : ByteArray} {pos : Nat} {c : UInt8} {r : List UInt8} (h : s.data.toList.drop pos = c :: r) : ∃ hp : pos < s.size, s[pos]'hp = c ∧ s.data.toList.drop (pos + 1) = r := by
  have hp : pos < s.data.toList.length := by
    refine Nat.lt_of_not_le fun hx => ?_
    rw [List.drop_eq_nil_of_le hx] at h
    cases h
  have hp2 : pos < s.size := by rw [← list_size s]; exact hp
  rw [List.drop_eq_getElem_cons hp] at h
  have h1 := (List.cons.inj h).1
  have h2 := (List.cons.inj h).2
  refine ⟨hp2, ?_, h2⟩
  rw [← h1, Array.getElem_toList]
  rfl
theorem nat_u8 (c : UInt8) (k : Nat) (hk : k < 256) : c.toNat = k ↔ c = UInt8.ofNat k := by
  constructor
  · intro h; rw [← h, UInt8.ofNat_toNat]
  · intro h; rw [h, UInt8.toNat_ofNat']; exact Nat.mod_eq_of_lt hk
theorem pcs_run (s : ByteArray) (f : Nat) (rest : List UInt8) : ∀ (m : List UInt8) (n pos : Nat) (t t' : Ps), psRun t m = some t' → s.data.toList.drop pos = m ++ rest →
    pcs s (m.length + n) pos t.d t.q f t.k = pcs s n (pos + m.length) t'.d t'.q f t'.k
  | [], n, pos, t, t', h, _ => by
    cases h
    simp
  | c :: r, n, pos, t, t', h, hd => by
    obtain ⟨hp, hc, hd2⟩ := drop_at hd
    unfold psRun at h
    split at h
    · cases h
    · rename_i hn
      rw [not_or] at hn
      have ha : (s[pos]'hp).toNat < 128 := by rw [hc]; omega
      have hdec := decode_ascii s pos hp ha
      rw [hc] at hdec
      have ih := pcs_run s f rest r n (pos + 1) _ _ h hd2
      rw [List.length_cons, show r.length + 1 + n = (r.length + n) + 1 by omega, show pos + (r.length + 1) = pos + 1 + r.length by omega, ← ih]
      have hno : t.k = false → t.q = false → ¬ (c = 44 ∧ t.d = 0) := fun h1 h2 h3 => hn.2 ⟨h1, h2, h3.1, h3.2⟩
      clear ih h hn
      obtain ⟨d, q, k⟩ := t
      conv => lhs; unfold pcs
      rw [if_pos hp, hdec]
      simp only [nat_u8 c 92 (by decide), nat_u8 c 34 (by decide), nat_u8 c 40 (by decide), nat_u8 c 91 (by decide), nat_u8 c 60 (by decide), nat_u8 c 41 (by decide), nat_u8 c 93 (by decide), nat_u8 c 62 (by decide), nat_u8 c 44 (by decide)]
      unfold psStep
      show _ = _
      dsimp only at hno ⊢
      cases k
      · cases q
        · have h44 := hno rfl rfl
          by_cases h34 : c = 34
          · simp [h34]
          · by_cases ho : c = 40 ∨ c = 91 ∨ c = 60
            · simp only [Bool.false_eq_true, if_false, false_and]
              rw [if_neg (by exact h34), if_pos (by exact ho), if_neg h34, if_pos ho]
            · by_cases hc2 : c = 41 ∨ c = 93 ∨ c = 62
              · simp only [Bool.false_eq_true, if_false, false_and]
                rw [if_neg (by exact h34), if_neg (by exact ho), if_pos (by exact hc2), if_neg h34, if_neg ho, if_pos hc2]
              · simp only [Bool.false_eq_true, if_false, false_and]
                rw [if_neg (by exact h34), if_neg (by exact ho), if_neg (by exact hc2), if_neg (by exact h44), if_neg h34, if_neg ho, if_neg hc2]
        · by_cases h92 : c = 92
          · simp [h92]
          · by_cases h34 : c = 34
            · simp [h34]
            · simp only [true_and, if_true, Bool.false_eq_true, if_false]
              rw [if_neg (by exact h92), if_neg (by exact h34), if_neg h92, if_neg h34]
      · simp
theorem pcs_cut (s : ByteArray) (f n pos : Nat) (hp : pos < s.size) (hc : s[pos]'hp = 44) : pcs s (n + 1) pos 0 false f false = s.extract f pos :: pcs s n (pos + 1) 0 false (pos + 1) false := by
  have hdec := decode_ascii s pos hp (by rw [hc]; decide)
  rw [hc] at hdec
  conv => lhs; unfold pcs
  rw [if_pos hp, hdec]
  simp
theorem pcs_join (s : ByteArray) : ∀ (r : List (List UInt8)) (x : List UInt8) (f n : Nat), psRun ⟨0, false, false⟩ x = some ⟨0, false, false⟩ → (∀ y ∈ r, psRun ⟨0, false, false⟩ y = some ⟨0, false, false⟩) →
    s.data.toList.drop f = x ++ Lib.joinTail [44, 32] r → (x ++ Lib.joinTail [44, 32] r).length ≤ n →
    (pcs s n f 0 false f false).map (·.data.toList) = x :: r.map (32 :: ·)
  | [], x, f, n, hx, _, hd, hn => by
    have e : Lib.joinTail [44, 32] ([] : List (List UInt8)) = [] := rfl
    rw [e, List.append_nil] at hn
    obtain ⟨n', rfl⟩ : ∃ n', n = x.length + n' := ⟨n - x.length, by omega⟩
    have hr := pcs_run s f _ x n' f ⟨0, false, false⟩ ⟨0, false, false⟩ hx hd
    have hl := congrArg List.length hd
    rw [e, List.append_nil, List.length_drop, list_size] at hl
    rw [e, List.append_nil] at hd
    dsimp only at hr
    rw [hr, pcs_end _ _ _ _ _ _ _ (by omega)]
    simp only [List.map_cons, List.map_nil]
    rw [Lib.extract_to_end, hd]
  | y :: r, x, f, n, hx, hr, hd, hn => by
    have e : Lib.joinTail [44, 32] (y :: r) = 44 :: ((32 :: y) ++ Lib.joinTail [44, 32] r) := by simp [Lib.joinTail]
    rw [e] at hd hn
    rw [List.length_append, List.length_cons] at hn
    obtain ⟨n', rfl⟩ : ∃ n', n = x.length + (n' + 1) := ⟨n - x.length - 1, by omega⟩
    have h1 := pcs_run s f _ x (n' + 1) f ⟨0, false, false⟩ ⟨0, false, false⟩ hx hd
    dsimp only at h1
    have hd2 : s.data.toList.drop (f + x.length) = 44 :: ((32 :: y) ++ Lib.joinTail [44, 32] r) := by
      rw [← List.drop_drop, hd, List.drop_left]
    obtain ⟨hp, hc, hd3⟩ := drop_at hd2
    have hy : psRun ⟨0, false, false⟩ (32 :: y) = some ⟨0, false, false⟩ := by
      have := hr y (List.mem_cons_self ..)
      rw [show (32 : UInt8) :: y = [32] ++ y by rfl, psRun_append, ps_plain [32] 0 (by decide), Option.bind_some]
      exact this
    have ih := pcs_join s r (32 :: y) (f + x.length + 1) n' hy (fun z hz => hr z (List.mem_cons_of_mem _ hz)) hd3 (by omega)
    rw [h1, pcs_cut s f n' (f + x.length) hp hc, List.map_cons, ih, List.map_cons]
    congr 1
    rw [Lib.extract_data, Nat.add_sub_cancel_left, hd, List.take_left]
/-- The pieces of the body of a printed list. -/
theorem pieces_body {d : Dat} {ds : List Dat} {b : ByteArray} (hr : ∀ x ∈ d :: ds, rightD x = true) (hb : b.data.toList = Lib.join ((d :: ds).map itemD) [44, 32]) :
    (piecesB b).map (·.data.toList) = itemD d :: (ds.map itemD).map (32 :: ·) := by
  rw [List.map_cons, Lib.join_cons] at hb
  refine pcs_join b (ds.map itemD) (itemD d) 0 b.size (ps_item (hr d (List.mem_cons_self ..))) (fun y hy => ?_) hb ?_
  · obtain ⟨z, hz, rfl⟩ := List.mem_map.1 hy
    exact ps_item (hr z (List.mem_cons_of_mem _ hz))
  · rw [← hb, list_size]
    exact Nat.le_refl _
end Go.Proofs.YtmepjbjmjbpchaaGreatDoor
end
section
/- The attributes that a printed list's pieces hold. -/
namespace Go.Proofs.YtmepjbjmjbpchaaGreatDoor
open Go Go.RowKit Go.Sort
set_option linter.unusedVariables false
set_option linter.unusedSimpArgs false

theorem index_name : ∀ (l v : List UInt8), (∀ c ∈ l, c ≠ 32) → Lib.index (l ++ 32 :: 61 :: 32 :: v) [32, 61, 32] = l.length
  | [], v, _ => by
    unfold Lib.index
    simp
  | c :: l, v, h => by
    have hc : c ≠ 32 := h c (List.mem_cons_self ..)
    have ih := index_name l v fun b hb => h b (List.mem_cons_of_mem _ hb)
    rw [List.cons_append]
    unfold Lib.index
    rw [ih, if_neg (by simp [List.isPrefixOf, Ne.symm hc])]
    rw [if_neg (by simp; try omega)]
    try simp
theorem cut_name (l v : List UInt8) (h : ∀ c ∈ l, c ≠ 32) : Lib.cut (l ++ [32, 61, 32] ++ v) [32, 61, 32] = (l, v, true) := by
  have hi : Lib.index (l ++ [32, 61, 32] ++ v) [32, 61, 32] = l.length := by
    rw [List.append_assoc]
    exact index_name l v h
  unfold Lib.cut
  rw [hi, if_pos (Int.natCast_nonneg _), Int.toNat_natCast]
  have e1 : (l ++ [32, 61, 32] ++ v).take l.length = l := by rw [List.append_assoc, List.take_left]
  have e2 : (l ++ [32, 61, 32] ++ v).drop (l.length + [32, 61, 32].length) = v := by
    rw [show l.length + [32, 61, 32].length = (l ++ [32, 61, 32]).length by simp, List.drop_left]
  rw [e1]
  exact congrArg (fun x => (l, x, true)) e2
theorem name_no32 {l : List UInt8} (h : nameOf l = true) : l ≠ [] ∧ ∀ c ∈ l, c ≠ 32 := by
  simp only [nameOf, Bool.and_eq_true, List.all_eq_true] at h
  refine ⟨?_, fun c hm e => ?_⟩
  · intro e; subst e; exact absurd h.1.1.1 (by decide)
  · subst e
    exact absurd (h.2 _ hm) (by decide)
theorem item_cut {d : Dat} {p : ByteArray} (h : rightD d = true) (hp : p.data.toList = itemD d ∨ p.data.toList = 32 :: itemD d) : nmOf p = d.name ∧ (vlOf p).data.toList = valD d := by
  obtain ⟨hne, h32⟩ := name_no32 (right_name h)
  have e : Lib.trimPrefix p.data.toList [32] = itemD d := by
    unfold Lib.trimPrefix Lib.hasPrefix
    rcases hp with hp | hp
    · rw [hp, if_neg]
      unfold itemD
      cases hl : d.name.data.toList with
      | nil => exact absurd hl hne
      | cons c r =>
        have : c ≠ 32 := h32 c (by rw [hl]; exact List.mem_cons_self ..)
        simp [List.isPrefixOf, Ne.symm this]
    · rw [hp, if_pos (by simp [List.isPrefixOf])]
      rfl
  have hc : Lib.cut (itemD d) [32, 61, 32] = (d.name.data.toList, valD d, true) := cut_name _ _ h32
  unfold nmOf vlOf
  rw [e, hc]
  exact ⟨rfl, rfl⟩
theorem readAll_map (G : ByteArray → Option Dat) : ∀ (ps : List ByteArray) (ds : List Dat), readAll G ps = some ds → ∀ d ∈ ds, ∃ p, G p = some d
  | [], ds, h, d, hd => by cases h; cases hd
  | p :: r, ds, h, d, hd => by
    unfold readAll at h
    cases hp : G p with
    | none => rw [hp] at h; cases h
    | some d0 =>
      rw [hp] at h
      cases hr : readAll G r with
      | none => rw [hr] at h; cases h
      | some es =>
        rw [hr] at h
        cases h
        rcases List.mem_cons.1 hd with rfl | hd
        · exact ⟨p, hp⟩
        · exact readAll_map G r es hr d hd
theorem readAll_items (F : ByteArray → ByteArray → Option Dat) (hF : ∀ nm s, (∀ D, F nm s = some D → Can nm s D) ∧ (F nm s = none → ∀ d, ¬ Can nm s d)) :
    ∀ (ds : List Dat) (ps : List ByteArray), (∀ d ∈ ds, rightD d = true) → (∀ d ∈ ds, InR d) → ps.map (·.data.toList) = ds.map (fun d => 32 :: itemD d) → readAll (fun p => F (nmOf p) (vlOf p)) ps = some ds
  | [], [], _, _, _ => rfl
  | [], p :: ps, _, _, h => by simp at h
  | d :: ds, [], _, _, h => by simp at h
  | d :: ds, p :: ps, hr, hi, h => by
    rw [List.map_cons, List.map_cons] at h
    obtain ⟨h1, h2⟩ := List.cons.inj h
    have ih := readAll_items F hF ds ps (fun x hx => hr x (List.mem_cons_of_mem _ hx)) (fun x hx => hi x (List.mem_cons_of_mem _ hx)) h2
    have hd := hr d (List.mem_cons_self ..)
    obtain ⟨c1, c2⟩ := item_cut hd (.inr h1)
    have hc : Can (nmOf p) (vlOf p) d := ⟨c1.symm, hd, hi d (List.mem_cons_self ..), c2.symm⟩
    unfold readAll
    have : F (nmOf p) (vlOf p) = some d := by
      cases hf : F (nmOf p) (vlOf p) with
      | none => exact absurd hc ((hF _ _).2 hf d)
      | some e => rw [can_uniq ((hF _ _).1 e hf) hc]
    simp only [this, ih, Option.map_some]
theorem can_F (F : ByteArray → ByteArray → Option Dat) (hF : ∀ nm s, (∀ D, F nm s = some D → Can nm s D) ∧ (F nm s = none → ∀ d, ¬ Can nm s d)) {nm s : ByteArray} {d : Dat} (hc : Can nm s d) : F nm s = some d := by
  cases hf : F nm s with
  | none => exact absurd hc ((hF _ _).2 hf d)
  | some e => rw [can_uniq ((hF _ _).1 e hf) hc]
/-- The list with a string. -/
def CanL (s : ByteArray) (ds : List Dat) : Prop := rightL (ds.map atrOf) = true ∧ (∀ d ∈ ds, InR d) ∧ listD ds = s.data.toList
theorem rightL_each {ds : List Dat} (h : rightL (ds.map atrOf) = true) : ∀ d ∈ ds, rightD d = true := by
  intro d hd
  obtain ⟨j, hj, rfl⟩ := List.mem_iff_getElem.1 hd
  unfold rightL at h
  rw [Bool.and_eq_true, List.all_eq_true] at h
  have h2 := h.2 j (by simpa using hj)
  unfold okAt at h2
  rw [List.getElem?_map, List.getElem?_eq_getElem hj, Option.map_some] at h2
  simp only [Bool.and_eq_true] at h2
  exact h2.1
theorem parse_can (F : ByteArray → ByteArray → Option Dat) (hF : ∀ nm s, (∀ D, F nm s = some D → Can nm s D) ∧ (F nm s = none → ∀ d, ¬ Can nm s d)) (s : ByteArray) (h2 : 2 ≤ s.size) :
    (∀ ds, parseOk (readAll (fun p => F (nmOf p) (vlOf p)) (piecesB (s.extract 1 (s.size - 1)))) s = some ds → CanL s ds) ∧
    (∀ ds, CanL s ds → parseOk (readAll (fun p => F (nmOf p) (vlOf p)) (piecesB (s.extract 1 (s.size - 1)))) s = some ds) := by
  constructor
  · intro ds h
    unfold parseOk at h
    cases hr : readAll (fun p => F (nmOf p) (vlOf p)) (piecesB (s.extract 1 (s.size - 1))) with
    | none => rw [hr] at h; cases h
    | some es =>
      rw [hr, Option.bind_some] at h
      split at h
      · rename_i hc
        cases h
        rw [Bool.and_eq_true, decide_eq_true_eq] at hc
        refine ⟨hc.1, fun d hd => ?_, hc.2⟩
        obtain ⟨p, hp⟩ := readAll_map _ _ _ hr d hd
        exact ((hF _ _).1 d hp).2.2.1
      · cases h
  · intro ds ⟨hc1, hc2, hc3⟩
    have hr := rightL_each hc1
    cases ds with
    | nil =>
      exfalso
      have := list_size s
      rw [← hc3] at this
      simp [listD] at this
      omega
    | cons d ds =>
      have hl : s.data.toList = 123 :: (Lib.join ((d :: ds).map itemD) [44, 32] ++ [125]) := by
        rw [← hc3]; unfold listD; rw [if_neg (by simp)]
      have hb : (s.extract 1 (s.size - 1)).data.toList = Lib.join ((d :: ds).map itemD) [44, 32] := by
        have hz := list_size s
        rw [hl] at hz
        simp only [List.length_cons, List.length_append, List.length_nil] at hz
        rw [Lib.extract_data, hl, show s.size - 1 - 1 = (Lib.join ((d :: ds).map itemD) [44, 32]).length by omega]
        simp
      have hp := pieces_body hr hb
      unfold parseOk
      have hra : readAll (fun p => F (nmOf p) (vlOf p)) (piecesB (s.extract 1 (s.size - 1))) = some (d :: ds) := by
        cases hq : piecesB (s.extract 1 (s.size - 1)) with
        | nil => rw [hq] at hp; simp at hp
        | cons p ps =>
          rw [hq, List.map_cons, List.map_map] at hp
          obtain ⟨p1, p2⟩ := List.cons.inj hp
          have hd := hr d (List.mem_cons_self ..)
          obtain ⟨c1, c2⟩ := item_cut hd (.inl p1)
          have hf := can_F F hF (nm := nmOf p) (s := vlOf p) (d := d) ⟨c1.symm, hd, hc2 d (List.mem_cons_self ..), c2.symm⟩
          have ih := readAll_items F hF ds ps (fun x hx => hr x (List.mem_cons_of_mem _ hx)) (fun x hx => hc2 x (List.mem_cons_of_mem _ hx)) p2
          unfold readAll
          simp only [hf, ih, Option.map_some]
      rw [hra, Option.bind_some, if_pos]
      rw [Bool.and_eq_true, decide_eq_true_eq]
      exact ⟨hc1, hc3⟩
end Go.Proofs.YtmepjbjmjbpchaaGreatDoor
end
