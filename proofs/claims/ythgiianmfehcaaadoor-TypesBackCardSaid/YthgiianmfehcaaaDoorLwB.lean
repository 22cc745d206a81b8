/- The walk of the statement TypesBack. -/
import Derived.Test.YthgiianmfehcaaaDoorLwJ
import Derived.Test.YthgiianmfehcaaaDoorLwS0
import Derived.Test.YthgiianmfehcaaaDoorLwC
namespace Go.Proofs.YthgiianmfehcaaaDoor
open Go Go.RowKit Go.Sort
set_option linter.unusedVariables false
set_option linter.unusedSimpArgs false

/-- A type with cells that was made is read as its parts. -/
theorem makeOf_ok {k : Int} {zs : List Int} {el t : List UInt8} (h : makeOf k zs el = (t, 0)) : (k = 2 ∨ k = 3) ∧ zs.length ≤ 3 ∧ badExt zs = false ∧ (∃ q, elemOf el = some q) ∧ prodW zs ≤ 4096 ∧ t = textOf k zs el := by
  unfold makeOf at h
  split at h
  · cases h
  · rename_i h1
    split at h
    · cases h
    · rename_i h2
      split at h
      · cases h
      · rename_i h3
        cases h
        refine ⟨by omega, by omega, ?_, ?_, by omega, rfl⟩
        · cases hb : badExt zs with
          | false => rfl
          | true => exact absurd (.inr (.inr hb)) h1
        · cases he : elemOf el with
          | some q => exact ⟨q, rfl⟩
          | none => exact absurd he h2
theorem numFrom_snoc : ∀ (l : List UInt8) (a d : Nat), d < 10 → numFrom (l ++ [UInt8.ofNat (48 + d)]) a = (numFrom l a).map (fun n => 10 * n + d)
  | [], a, d, hd => by
    have h : (UInt8.ofNat (48 + d)).toNat = 48 + d := by rw [UInt8.toNat_ofNat']; omega
    simp only [List.nil_append, numFrom, h]
    rw [if_pos (by omega)]
    simp
  | c :: l, a, d, hd => by
    simp only [List.cons_append, numFrom]
    split
    · exact numFrom_snoc l _ d hd
    · rfl
theorem numFrom_dec : ∀ (m n : Nat), n ≤ m → numFrom (Lib.decDigits n) 0 = some n := by
  intro m
  induction m with
  | zero =>
    intro n hn
    obtain rfl : n = 0 := by omega
    rw [Lib.decDigits_one (by decide)]
    rfl
  | succ m ih =>
    intro n hn
    by_cases h : n < 10
    · rw [Lib.decDigits_one h]
      have h2 : (UInt8.ofNat (48 + n)).toNat = 48 + n := by rw [UInt8.toNat_ofNat']; omega
      simp only [numFrom, h2]
      rw [if_pos (by omega)]
      simp
    · rw [Lib.decDigits, dif_neg h, numFrom_snoc _ _ _ (Nat.mod_lt _ (by decide)), ih (n / 10) (by omega)]
      simp; omega
theorem dec_head : ∀ (m n : Nat), n ≤ m → 1 ≤ n → ∃ c r, Lib.decDigits n = c :: r ∧ c ≠ 48 := by
  intro m
  induction m with
  | zero => intro n h1 h2; omega
  | succ m ih =>
    intro n hn h1
    by_cases h : n < 10
    · refine ⟨_, _, Lib.decDigits_one h, ?_⟩
      intro he
      have := congrArg UInt8.toNat he
      rw [UInt8.toNat_ofNat'] at this
      simp at this; omega
    · obtain ⟨c, r, hc, hne⟩ := ih (n / 10) (by omega) (by omega)
      rw [Lib.decDigits, dif_neg h, hc]
      exact ⟨c, _, rfl, hne⟩
theorem dec_digits (n : Nat) : ∀ c ∈ Lib.decDigits n, 48 ≤ c.toNat ∧ c.toNat ≤ 57 := by
  intro c hc
  rw [Lib.decDigits_eq] at hc
  obtain ⟨t, -, ht⟩ := List.mem_map.1 hc
  have hm : n / 10 ^ (Lib.nDigits n - 1 - t) % 10 < 10 := Nat.mod_lt _ (by decide)
  have h2 : c.toNat = 48 + n / 10 ^ (Lib.nDigits n - 1 - t) % 10 := by
    rw [← ht, Lib.dg, UInt8.toNat_ofNat']
    omega
  omega
theorem numOf_dec {n : Nat} (h : n ≤ 1000) : numOf (Lib.decDigits n) = some n := by
  have hl := itoa_len (n := (n : Int)) (by omega) (by omega)
  rw [Lib.itoa_nonneg] at hl
  unfold numOf
  rw [if_neg, numFrom_dec n n (Nat.le_refl _)]
  rintro (h0 | h0 | ⟨h1, h2⟩)
  · have := numFrom_dec n n (Nat.le_refl _)
    rw [Lib.decDigits] at h0
    split at h0 <;> simp at h0
  · omega
  · rcases Nat.eq_zero_or_pos n with h0 | h0
    · subst h0; rw [Lib.decDigits_one (by decide)] at h1; simp at h1
    · obtain ⟨c, r, hc, hne⟩ := dec_head n n (Nat.le_refl _) h0
      rw [hc] at h2
      simp at h2
      exact hne h2
theorem isDig_dec (n : Nat) (l : List UInt8) : isDig (Lib.decDigits n ++ l) = true := by
  have hne : Lib.decDigits n ≠ [] := by
    rw [Lib.decDigits]
    split <;> simp
  match hd : Lib.decDigits n, hne with
  | c :: r, _ =>
    have := dec_digits n c (by rw [hd]; simp)
    simp [isDig]; omega
theorem rshape_ext : ∀ (zs ext : List Nat) (el : List UInt8), (∀ n ∈ zs, n ≤ 1000) → ext.length + zs.length ≤ 3 → isDig el = false → rshape ext (extStr (extZ zs) ++ el) = some (ext ++ zs, el)
  | [], ext, el, _, _, he => by
    rw [show extStr (extZ []) ++ el = el by simp [extZ, extStr], rshape_end he, List.append_nil]
  | n :: zs, ext, el, hz, hl, he => by
    have hx : extStr (extZ (n :: zs)) ++ el = Lib.decDigits n ++ 120 :: (extStr (extZ zs) ++ el) := by
      simp [extZ, extStr, Lib.itoa_nonneg]
    have hcut : cutOf 120 (Lib.decDigits n ++ 120 :: (extStr (extZ zs) ++ el)) = some (Lib.decDigits n, extStr (extZ zs) ++ el) := by
      rw [cutOf_take _ 120 (Lib.decDigits n).length (by
        intro x hx2 he2
        rw [List.take_left] at hx2
        have := dec_digits n x hx2
        rw [he2] at this
        exact absurd this.2 (by decide)) (by simp), if_pos (by simp)]
      simp
    rw [hx, rshape_more (isDig_dec _ _) hcut, numOf_dec (hz n (by simp))]
    dsimp only
    rw [if_pos ⟨hz n (by simp), by simp at hl; omega⟩, rshape_ext zs (ext ++ [n]) el (fun m hm => hz m (by simp [hm])) (by simp at hl ⊢; omega) he]
    simp
theorem ints_nat {zs : List Int} (h : badExt zs = false) : ∃ ext : List Nat, zs = extZ ext ∧ ∀ n ∈ ext, n ≤ 1000 := by
  unfold badExt at h
  rw [List.any_eq_false] at h
  refine ⟨zs.map Int.toNat, ?_, ?_⟩
  · unfold extZ
    rw [List.map_map]
    conv => lhs; rw [← List.map_id zs]
    apply List.map_congr_left
    intro z hz
    have := h z hz
    simp at this ⊢
    omega
  · intro n hn
    obtain ⟨z, hz, rfl⟩ := List.mem_map.1 hn
    have := h z hz
    simp at this
    omega
/-- What is read of a type with cells that was made. -/
theorem read_text {k : Int} {zs : List Int} {el t : List UInt8} (h : makeOf k zs el = (t, 0)) : ∃ (kk bits : Nat) (ext : List Nat), k = kk ∧ (kk = 2 ∨ kk = 3) ∧ zs = extZ ext ∧ elStr bits = el ∧ readOf t = some ⟨kk, bits, ext⟩ := by
  obtain ⟨hk, hl, hb, ⟨e, he⟩, hp, rfl⟩ := makeOf_ok h
  obtain ⟨ext, rfl, hx⟩ := ints_nat hb
  have hxl : ext.length ≤ 3 := by simpa [extZ] using hl
  have hel := elemOf_str he
  have hdig : isDig el = false := by
    rw [Bool.eq_false_iff]
    intro hd
    rw [elemOf_dig hd] at he; cases he
  have hprod : prodN ext ≤ 4096 := by
    rw [prodW_eq ext hxl hx] at hp; omega
  have hrest : ((rshape [] (extStr (extZ ext) ++ el)).bind restOf) = some (ext, if e.kind = 1 then 0 else e.bits) := by
    rw [rshape_ext ext [] el hx (by simpa using hxl) hdig]
    simp [restOf, he, hprod]
  refine ⟨k.toNat, if e.kind = 1 then 0 else e.bits, ext, by omega, by omega, rfl, hel.symm, ?_⟩
  have hkw : (kwStr k).length = 4 := by unfold kwStr; split <;> rfl
  have hlen : (textOf k (extZ ext) el).length = 4 + (extStr (extZ ext) ++ el).length + 1 := by
    simp [textOf, hkw]; omega
  have htake : (textOf k (extZ ext) el).take 4 = kwStr k := by
    unfold textOf
    rw [List.append_assoc, List.append_assoc, List.take_left' hkw]
  have hmid : ((textOf k (extZ ext) el).take ((textOf k (extZ ext) el).length - 1)).drop 4 = extStr (extZ ext) ++ el := by
    have hx : textOf k (extZ ext) el = (kwStr k ++ (extStr (extZ ext) ++ el)) ++ [62] := by simp [textOf]
    rw [hlen, hx, List.take_left' (by simp [hkw] <;> omega), List.drop_left' hkw]
  have hsuf : Lib.hasSuffix (textOf k (extZ ext) el) [62] = true := by
    rw [suffix_iff (by simp [textOf])]
    simp [textOf]
  have helem : elemOf (textOf k (extZ ext) el) = none := by
    rcases hk with rfl | rfl
    · exact elemOf_other (by decide)
    · exact elemOf_other (by decide)
  have hkk : (k.toNat = 2 ∧ kwStr k = [109, 101, 109, 60]) ∨ (k.toNat = 3 ∧ kwStr k = [97, 114, 114, 60]) := by
    rcases hk with rfl | rfl
    · exact .inl ⟨rfl, rfl⟩
    · exact .inr ⟨rfl, rfl⟩
  rw [readOf_cells helem hkk (by rw [hlen]; omega) htake hsuf, hmid, hrest]
  rfl

theorem makeOf_form {k : Int} (hk : k = 2 ∨ k = 3) (zs : List Int) (el : List UInt8) : (∃ t, makeOf k zs el = (t, 0)) ∨ (∃ x : Nat, makeOf k zs el = ([], x) ∧ (x = 1 ∨ x = 10 ∨ x = 2)) := by
  unfold makeOf
  split
  · exact .inr ⟨1, rfl, .inl rfl⟩
  · split
    · exact .inr ⟨10, rfl, .inr (.inl rfl)⟩
    · split
      · exact .inr ⟨2, rfl, .inr (.inr rfl)⟩
      · exact .inl ⟨_, rfl⟩
theorem text_ne {zs : List Int} {el : List UInt8} : textOf 2 zs el ≠ textOf 3 zs el := by
  intro h
  have := congrArg List.head? h
  simp [textOf, kwStr] at this
theorem turn_make {k j : Int} {zs : List Int} {el t : List UInt8} (h : makeOf k zs el = (t, 0)) (hj : j = 2 ∨ j = 3) : makeOf j zs el = (textOf j zs el, 0) := by
  obtain ⟨hk, hl, hb, ⟨e, he⟩, hp, -⟩ := makeOf_ok h
  unfold makeOf
  rw [if_neg (by rw [hb]; simp; omega), if_neg (by rw [he]; simp), if_neg (by omega)]
/-- All that the law asks of a type that was made. -/
structure BkI (s u : ByteArray) (kk : Nat) (zs : List Int) (el : ByteArray) : Prop where
  kind : ∀ w, Calls Tryd.prog 30 #[.string s] w fun e w' => e = .returned (.tuple #[.int .i64 kk, .int .i64 0]) ∧ Below w.heap.size w w'
  shape : ∀ w, Calls Tryd.prog 32 #[.string s] w fun e w' => ∃ g c, e = .returned (.tuple #[.slice (some ⟨g, 0, none⟩) zs.length c, .string el, .int .i64 0]) ∧ IntSl w' (some ⟨g, 0, none⟩) zs ∧ Below w.heap.size w w'
  make : ∀ a c w, Glob w → IntSl w a zs → Calls Tryd.prog 11 #[.int .i64 kk, .slice a zs.length c, .string el] w fun e w' => e = .returned (.tuple #[.string s, .int .i64 0]) ∧ Below w.heap.size w w'
  turn : ∀ w, Glob w → Calls Tryd.prog 36 #[.string s] w fun e w' => e = .returned (.tuple #[.string u, .int .i64 0]) ∧ Below w.heap.size w w'
  back : ∀ w, Glob w → Calls Tryd.prog 36 #[.string u] w fun e w' => e = .returned (.tuple #[.string s, .int .i64 0]) ∧ Below w.heap.size w w'
  check : ∀ w, Calls Tryd.prog 29 #[.string u] w fun e w' => e = .returned (.int .i64 0) ∧ Below w.heap.size w w'
  ne : u.toList ≠ s.toList
theorem bk_of {k : Int} {zs : List Int} {el : ByteArray} {t : List UInt8} (h : makeOf k zs el.data.toList = (t, 0)) : ∃ (u : ByteArray) (kk : Nat), k = kk ∧ BkI ⟨t.toArray⟩ u kk zs el := by
  obtain ⟨kk, bits, ext, rfl, hk, rfl, hel, hr⟩ := read_text h
  have h5 : ((5 - kk : Nat) : Int) = 2 ∨ ((5 - kk : Nat) : Int) = 3 := by omega
  have h2 := turn_make h h5
  obtain ⟨kk2, bits2, ext2, hkk2, hk2, hze, hel2, hr2⟩ := read_text h2
  have hkk2' : kk2 = 5 - kk := by omega
  subst hkk2'
  have hext : ext2 = ext := by
    unfold extZ at hze
    exact (List.map_inj_right (fun a b h => by omega)).1 hze.symm
  subst hext
  have htx := (makeOf_ok h).2.2.2.2.2
  have hs60 : (⟨t.toArray⟩ : ByteArray).size ≤ 140737488355328 := by
    have := readOf_len hr
    simp [ByteArray.size]; omega
  have hu60 : (⟨(textOf ((5 - kk : Nat) : Int) (extZ ext2) el.data.toList).toArray⟩ : ByteArray).size ≤ 140737488355328 := by
    have := readOf_len hr2
    simp [ByteArray.size]; omega
  have hels : (⟨(elStr bits).toArray⟩ : ByteArray) = el := by
    apply ByteArray.ext; apply Array.ext'; rw [hel]
  have hels2 : (⟨(elStr bits2).toArray⟩ : ByteArray) = el := by
    apply ByteArray.ext; apply Array.ext'; rw [hel2]
  have hlen : (extZ ext2).length = ext2.length := by simp [extZ]
  refine ⟨⟨(textOf ((5 - kk : Nat) : Int) (extZ ext2) el.data.toList).toArray⟩, kk, rfl, ?_⟩
  refine ⟨fun w => kindOf_yes _ w hs60 hr, fun w => ?_, fun a c w hg hsl => ?_, fun w hg => ?_, fun w hg => ?_, fun w => check_yes _ w hu60 hr2, ?_⟩
  · refine (shape_yes _ w hs60 hr hk).mono fun e w' ⟨g, c, he, hrow, hb⟩ => ⟨g, c, ?_, intRow_sl hrow, hb⟩
    rw [he, hels, hlen]
  · refine (make_all kk a c (extZ ext2) el w hg.pow hsl).mono fun e w' ⟨he, hb⟩ => ⟨?_, hb⟩
    rw [he, h]; rfl
  · refine (turned_yes _ w hs60 hr hk hg.pow).mono fun e w' ⟨he, hb⟩ => ⟨?_, hb⟩
    rw [he]
    dsimp only
    rw [hel]
  · refine (turned_yes _ w hu60 hr2 hk2 hg.pow).mono fun e w' ⟨he, hb⟩ => ⟨?_, hb⟩
    rw [he, htx]
    dsimp only
    rw [hel2, show 5 - (5 - kk) = kk by omega]
  · rw [ByteArray.toList_eq, ByteArray.toList_eq]
    dsimp only
    rw [htx]
    rcases hk with rfl | rfl
    · exact fun h => text_ne h.symm
    · exact text_ne

set_option maxRecDepth 100000 in
set_option maxHeartbeats 8000000 in
theorem back_law (k : Int) (hk0 : -9223372036854775808 ≤ k) (hk1 : k ≤ 9223372036854775807) (a : Option Addr) (c : Nat) (zs : List Int) (hzr : ∀ z ∈ zs, -9223372036854775808 ≤ z ∧ z ≤ 9223372036854775807) (b : Option Addr) (d : Nat) (ls : List ByteArray) (hsz : ∀ s ∈ ls, s.size ≤ 140737488351232)
    (w : World) (hg : Glob w) (hs : IntSl w a zs) (hlz : zs.length ≤ 9223372036854775807) (hsl : StrSl w b ls) (hc : ls.length ≤ d ∧ ls.length ≤ 9223372036854775807) :
    Calls Tryd.prog 10 #[.int .i64 k, .slice a zs.length c, .slice b ls.length d] w fun e w' => e = .returned (.bool true) ∧ Below w.heap.size w w' := by
  obtain ⟨hcd, hlen⟩ := hc
  have hjoin : ∀ w, StrSl w b ls → Calls Tryd.prog 40 #[.slice b ls.length d] w fun e w' => e = .returned (.tuple #[.string ⟨(joinOf ls).1.toArray⟩, .int .i64 (joinOf ls).2]) ∧ Below w.heap.size w w' := fun w h =>
    joinT_any b d ls w h hlen hcd (fun s hm => by have := hsz s hm; omega)
  obtain ⟨js, hjs⟩ : ∃ js : ByteArray, js = ⟨(joinOf ls).1.toArray⟩ := ⟨_, rfl⟩
  obtain ⟨code, hcode⟩ : ∃ code : Nat, code = (joinOf ls).2 := ⟨_, rfl⟩
  rw [← hjs, ← hcode] at hjoin
  have hcases : (code = 10 ∨ code = 2) ∨ (code = 0 ∧ ls.any badTy = false ∧ ls.length ≤ 100 ∧ js.data.toList = 40 :: joinS ls ++ [41]) := by
    unfold joinOf at hjs hcode
    cases hb : ls.any badTy with
    | true => rw [hb, if_pos rfl] at hcode; exact .inl (.inl hcode)
    | false =>
      rw [hb, if_neg (by simp)] at hjs hcode
      by_cases h100 : 100 < ls.length
      · rw [if_pos h100] at hcode; exact .inl (.inr hcode)
      · rw [if_neg h100] at hjs hcode; exact .inr ⟨hcode, rfl, by omega, by rw [hjs]; rfl⟩
  obtain ⟨u, hu⟩ : ∃ u, IntKind.u64.wrap k = u := ⟨_, rfl⟩
  have hu0 : 0 ≤ u := by rw [← hu, IntKind.wrap_u64]; omega
  obtain ⟨m, hm⟩ : ∃ m, u.tmod 2 = m := ⟨_, rfl⟩
  have hm0 : 0 ≤ m ∧ m ≤ 1 := by rw [← hm, Int.tmod_eq_emod_of_nonneg hu0]; omega
  have hwm : wrap64 m = m := by unfold wrap64; omega
  have hwm2 : wrap64 (2 + m) = 2 + m := by unfold wrap64; omega
  have hk23 : (2 + m = 2 ∨ 2 + m = 3) := by omega
  have HG := Lib.hid hg
  have HS := Lib.hid hs
  have HL := Lib.hid hsl
  have HJ := Lib.hid hjoin
  have HC := Lib.hid hcases
  have HK := Lib.hid hk23
  clear hg hs hsl hjoin hcases hjs hcode hsz hzr hu0 hk23
  have hel : (ls.length = 0) ∨ (∃ (x : ByteArray) (g off : Nat), 0 < ls.length ∧ b = some ⟨g, off, none⟩ ∧ w.cell? ⟨g, off, none⟩ = some (.string x) ∧ (elemOf x.data.toList).isSome = false) ∨ (∃ (x : ByteArray) (g off : Nat), 0 < ls.length ∧ b = some ⟨g, off, none⟩ ∧ w.cell? ⟨g, off, none⟩ = some (.string x) ∧ (elemOf x.data.toList).isSome = true) := by
    rcases Nat.eq_zero_or_pos ls.length with h | h
    · exact .inl h
    · right
      obtain ⟨g, off, hb, hcell⟩ := HL.out.at h
      rw [Nat.add_zero] at hcell
      cases he : (elemOf (ls[0]).data.toList).isSome with
      | false => exact .inl ⟨_, g, off, h, hb, hcell, he⟩
      | true => exact .inr ⟨_, g, off, h, hb, hcell, he⟩
  rcases hel with h0 | ⟨x, g, off, h0, rfl, hcell, hnum⟩ | ⟨x, g, off, h0, rfl, hcell, hnum⟩
  · have hl0 : ¬ (0 : Int) < (ls.length : Int) := by omega
    clear h0
    rcases makeOf_form HK.out zs (⟨#[105, 110, 100, 101, 120]⟩ : ByteArray).data.toList with ⟨t, hmk⟩ | ⟨x2, hmk, hx2⟩
    · obtain ⟨u2, kk, hkk, hbk⟩ := bk_of hmk
      have HMK := Lib.hid hmk
      have HBK := Lib.hid hbk
      obtain ⟨st, hst⟩ : ∃ st : ByteArray, st = ⟨t.toArray⟩ := ⟨_, rfl⟩
      rw [← hst] at hbk
      have hne : (u2.toList == st.toList) = false := by rw [beq_eq_false_iff_ne]; exact hbk.ne
      have HBK := Lib.hid hbk
      have HST := Lib.hid hst
      have HKK := Lib.hid hkk
      clear hmk hbk hst hkk
      go_enter Tryd.func10, Tryd.ntmps10
      go_wp2_with fail
      refine (make_all _ a c zs ⟨#[105, 110, 100, 101, 120]⟩ _ HG.out.pow HS.out).mono ?_
      rintro e w1 ⟨rfl, hb1⟩
      rw [show makeOf _ zs _ = _ from HMK.out]
      dsimp only
      rw [← HST.out]
      have HQ1 := Lib.hid hb1
      clear hb1
      go_wp2_with fail
      refine (HBK.out.kind _).mono ?_
      rintro e w2 ⟨rfl, hb2⟩
      have HQ2 := Lib.hid (below_next HQ1.out hb2)
      clear hb2
      go_wp2_with fail
      refine (HBK.out.shape _).mono ?_
      rintro e w3 ⟨g3, c3, rfl, hs3, hb3⟩
      have HS3 := Lib.hid hs3
      have HQ3 := Lib.hid (below_next HQ2.out hb3)
      clear hb3 hs3
      go_wp2_with fail
      refine (HBK.out.make _ _ _ (HG.out.below HQ3.out) HS3.out).mono ?_
      rintro e w4 ⟨rfl, hb4⟩
      have HQ4 := Lib.hid (below_next HQ3.out hb4)
      clear hb4
      go_wp2_with fail
      refine (HBK.out.turn _ (HG.out.below HQ4.out)).mono ?_
      rintro e w5 ⟨rfl, hb5⟩
      have HQ5 := Lib.hid (below_next HQ4.out hb5)
      clear hb5
      go_wp2_with fail
      refine (HBK.out.back _ (HG.out.below HQ5.out)).mono ?_
      rintro e w6 ⟨rfl, hb6⟩
      have HQ6 := Lib.hid (below_next HQ5.out hb6)
      clear hb6
      go_wp2_with fail
      refine (HBK.out.check _).mono ?_
      rintro e w7 ⟨rfl, hb7⟩
      have HQ := Lib.hid (below_next HQ6.out hb7)
      clear hb7 HQ1 HQ2 HQ3 HQ4 HQ5

      have HC2 := HC.out
      rcases HC2 with hcd2 | ⟨rfl, hgd, h100, hjs⟩
      · have hc0 : ((code : Int) != 0) = true := by rw [bne_iff_ne]; omega
        go_wp2_with fail
        refine (HJ.out _ (HL.out.below HQ.out)).mono ?_
        rintro e wj ⟨rfl, hbj⟩
        have HQJ := Lib.hid (below_next HQ.out hbj)
        clear hbj hcd2
        go_wp2_with fail
        refine (awake_any _ (HG.out.below HQJ.out)).mono ?_
        rintro e wa ⟨rfl, hba⟩
        go_wp2_with fail
        go_ret
        exact ⟨rfl, below_next HQJ.out hba⟩
      · have HGD := Lib.hid hgd
        have HJS := Lib.hid hjs
        clear hgd hjs
        go_wp2_with fail
        refine (HJ.out _ (HL.out.below HQ.out)).mono ?_
        rintro e wj ⟨rfl, hbj⟩
        have HQJ := Lib.hid (below_next HQ.out hbj)
        clear hbj
        go_wp2_with fail
        refine (split_short ls ls.length rfl _ (HG.out.below HQJ.out) HGD.out h100 js HJS.out).mono ?_
        rintro e ws ⟨hbs, sa, sc, rfl, hss⟩
        have HSS := Lib.hid hss
        have HQS := Lib.hid (below_next HQJ.out hbs)
        clear hbs hss
        go_wp2_with fail
        refine (strings_eq _ _ _ _ _ _ HSS.out (HL.out.below HQS.out) hlen).mono ?_
        rintro e wt ⟨rfl, hbt⟩
        have HQT := Lib.hid (below_next HQS.out hbt)
        clear hbt
        go_wp2_with fail
        refine (awake_any _ (HG.out.below HQT.out)).mono ?_
        rintro e wa ⟨rfl, hba⟩
        go_wp2_with fail
        go_ret
        exact ⟨rfl, below_next HQT.out hba⟩
    · have HMK := Lib.hid hmk
      have hx0 : ((x2 : Int) == 0) = false := by rw [beq_eq_false_iff_ne]; omega
      clear hmk hx2
      go_enter Tryd.func10, Tryd.ntmps10
      go_wp2_with fail
      refine (make_all _ a c zs ⟨#[105, 110, 100, 101, 120]⟩ _ HG.out.pow HS.out).mono ?_
      rintro e w1 ⟨rfl, hb1⟩
      rw [show makeOf _ zs _ = _ from HMK.out]
      dsimp only
      have HQ := Lib.hid hb1
      clear hb1

      have HC2 := HC.out
      rcases HC2 with hcd2 | ⟨rfl, hgd, h100, hjs⟩
      · have hc0 : ((code : Int) != 0) = true := by rw [bne_iff_ne]; omega
        go_wp2_with fail
        refine (HJ.out _ (HL.out.below HQ.out)).mono ?_
        rintro e wj ⟨rfl, hbj⟩
        have HQJ := Lib.hid (below_next HQ.out hbj)
        clear hbj hcd2
        go_wp2_with fail
        refine (awake_any _ (HG.out.below HQJ.out)).mono ?_
        rintro e wa ⟨rfl, hba⟩
        go_wp2_with fail
        go_ret
        exact ⟨rfl, below_next HQJ.out hba⟩
      · have HGD := Lib.hid hgd
        have HJS := Lib.hid hjs
        clear hgd hjs
        go_wp2_with fail
        refine (HJ.out _ (HL.out.below HQ.out)).mono ?_
        rintro e wj ⟨rfl, hbj⟩
        have HQJ := Lib.hid (below_next HQ.out hbj)
        clear hbj
        go_wp2_with fail
        refine (split_short ls ls.length rfl _ (HG.out.below HQJ.out) HGD.out h100 js HJS.out).mono ?_
        rintro e ws ⟨hbs, sa, sc, rfl, hss⟩
        have HSS := Lib.hid hss
        have HQS := Lib.hid (below_next HQJ.out hbs)
        clear hbs hss
        go_wp2_with fail
        refine (strings_eq _ _ _ _ _ _ HSS.out (HL.out.below HQS.out) hlen).mono ?_
        rintro e wt ⟨rfl, hbt⟩
        have HQT := Lib.hid (below_next HQS.out hbt)
        clear hbt
        go_wp2_with fail
        refine (awake_any _ (HG.out.below HQT.out)).mono ?_
        rintro e wa ⟨rfl, hba⟩
        go_wp2_with fail
        go_ret
        exact ⟨rfl, below_next HQT.out hba⟩
  · have hl0 : (0 : Int) < (ls.length : Int) := by omega
    have HNUM := Lib.hid hnum
    clear h0 hnum
    rcases makeOf_form HK.out zs (⟨#[105, 110, 100, 101, 120]⟩ : ByteArray).data.toList with ⟨t, hmk⟩ | ⟨x2, hmk, hx2⟩
    · obtain ⟨u2, kk, hkk, hbk⟩ := bk_of hmk
      have HMK := Lib.hid hmk
      have HBK := Lib.hid hbk
      obtain ⟨st, hst⟩ : ∃ st : ByteArray, st = ⟨t.toArray⟩ := ⟨_, rfl⟩
      rw [← hst] at hbk
      have hne : (u2.toList == st.toList) = false := by rw [beq_eq_false_iff_ne]; exact hbk.ne
      have HBK := Lib.hid hbk
      have HST := Lib.hid hst
      have HKK := Lib.hid hkk
      clear hmk hbk hst hkk
      go_enter Tryd.func10, Tryd.ntmps10
      go_wp2_with (go_at_call 18; refine (risNum_any _ _).mono ?_; rintro e w0 ⟨rfl, rfl⟩; rw [HNUM.out])
      refine (make_all _ a c zs ⟨#[105, 110, 100, 101, 120]⟩ _ HG.out.pow HS.out).mono ?_
      rintro e w1 ⟨rfl, hb1⟩
      rw [show makeOf _ zs _ = _ from HMK.out]
      dsimp only
      rw [← HST.out]
      have HQ1 := Lib.hid hb1
      clear hb1
      go_wp2_with fail
      refine (HBK.out.kind _).mono ?_
      rintro e w2 ⟨rfl, hb2⟩
      have HQ2 := Lib.hid (below_next HQ1.out hb2)
      clear hb2
      go_wp2_with fail
      refine (HBK.out.shape _).mono ?_
      rintro e w3 ⟨g3, c3, rfl, hs3, hb3⟩
      have HS3 := Lib.hid hs3
      have HQ3 := Lib.hid (below_next HQ2.out hb3)
      clear hb3 hs3
      go_wp2_with fail
      refine (HBK.out.make _ _ _ (HG.out.below HQ3.out) HS3.out).mono ?_
      rintro e w4 ⟨rfl, hb4⟩
      have HQ4 := Lib.hid (below_next HQ3.out hb4)
      clear hb4
      go_wp2_with fail
      refine (HBK.out.turn _ (HG.out.below HQ4.out)).mono ?_
      rintro e w5 ⟨rfl, hb5⟩
      have HQ5 := Lib.hid (below_next HQ4.out hb5)
      clear hb5
      go_wp2_with fail
      refine (HBK.out.back _ (HG.out.below HQ5.out)).mono ?_
      rintro e w6 ⟨rfl, hb6⟩
      have HQ6 := Lib.hid (below_next HQ5.out hb6)
      clear hb6
      go_wp2_with fail
      refine (HBK.out.check _).mono ?_
      rintro e w7 ⟨rfl, hb7⟩
      have HQ := Lib.hid (below_next HQ6.out hb7)
      clear hb7 HQ1 HQ2 HQ3 HQ4 HQ5

      have HC2 := HC.out
      rcases HC2 with hcd2 | ⟨rfl, hgd, h100, hjs⟩
      · have hc0 : ((code : Int) != 0) = true := by rw [bne_iff_ne]; omega
        go_wp2_with fail
        refine (HJ.out _ (HL.out.below HQ.out)).mono ?_
        rintro e wj ⟨rfl, hbj⟩
        have HQJ := Lib.hid (below_next HQ.out hbj)
        clear hbj hcd2
        go_wp2_with fail
        refine (awake_any _ (HG.out.below HQJ.out)).mono ?_
        rintro e wa ⟨rfl, hba⟩
        go_wp2_with fail
        go_ret
        exact ⟨rfl, below_next HQJ.out hba⟩
      · have HGD := Lib.hid hgd
        have HJS := Lib.hid hjs
        clear hgd hjs
        go_wp2_with fail
        refine (HJ.out _ (HL.out.below HQ.out)).mono ?_
        rintro e wj ⟨rfl, hbj⟩
        have HQJ := Lib.hid (below_next HQ.out hbj)
        clear hbj
        go_wp2_with fail
        refine (split_short ls ls.length rfl _ (HG.out.below HQJ.out) HGD.out h100 js HJS.out).mono ?_
        rintro e ws ⟨hbs, sa, sc, rfl, hss⟩
        have HSS := Lib.hid hss
        have HQS := Lib.hid (below_next HQJ.out hbs)
        clear hbs hss
        go_wp2_with fail
        refine (strings_eq _ _ _ _ _ _ HSS.out (HL.out.below HQS.out) hlen).mono ?_
        rintro e wt ⟨rfl, hbt⟩
        have HQT := Lib.hid (below_next HQS.out hbt)
        clear hbt
        go_wp2_with fail
        refine (awake_any _ (HG.out.below HQT.out)).mono ?_
        rintro e wa ⟨rfl, hba⟩
        go_wp2_with fail
        go_ret
        exact ⟨rfl, below_next HQT.out hba⟩
    · have HMK := Lib.hid hmk
      have hx0 : ((x2 : Int) == 0) = false := by rw [beq_eq_false_iff_ne]; omega
      clear hmk hx2
      go_enter Tryd.func10, Tryd.ntmps10
      go_wp2_with (go_at_call 18; refine (risNum_any _ _).mono ?_; rintro e w0 ⟨rfl, rfl⟩; rw [HNUM.out])
      refine (make_all _ a c zs ⟨#[105, 110, 100, 101, 120]⟩ _ HG.out.pow HS.out).mono ?_
      rintro e w1 ⟨rfl, hb1⟩
      rw [show makeOf _ zs _ = _ from HMK.out]
      dsimp only
      have HQ := Lib.hid hb1
      clear hb1

      have HC2 := HC.out
      rcases HC2 with hcd2 | ⟨rfl, hgd, h100, hjs⟩
      · have hc0 : ((code : Int) != 0) = true := by rw [bne_iff_ne]; omega
        go_wp2_with fail
        refine (HJ.out _ (HL.out.below HQ.out)).mono ?_
        rintro e wj ⟨rfl, hbj⟩
        have HQJ := Lib.hid (below_next HQ.out hbj)
        clear hbj hcd2
        go_wp2_with fail
        refine (awake_any _ (HG.out.below HQJ.out)).mono ?_
        rintro e wa ⟨rfl, hba⟩
        go_wp2_with fail
        go_ret
        exact ⟨rfl, below_next HQJ.out hba⟩
      · have HGD := Lib.hid hgd
        have HJS := Lib.hid hjs
        clear hgd hjs
        go_wp2_with fail
        refine (HJ.out _ (HL.out.below HQ.out)).mono ?_
        rintro e wj ⟨rfl, hbj⟩
        have HQJ := Lib.hid (below_next HQ.out hbj)
        clear hbj
        go_wp2_with fail
        refine (split_short ls ls.length rfl _ (HG.out.below HQJ.out) HGD.out h100 js HJS.out).mono ?_
        rintro e ws ⟨hbs, sa, sc, rfl, hss⟩
        have HSS := Lib.hid hss
        have HQS := Lib.hid (below_next HQJ.out hbs)
        clear hbs hss
        go_wp2_with fail
        refine (strings_eq _ _ _ _ _ _ HSS.out (HL.out.below HQS.out) hlen).mono ?_
        rintro e wt ⟨rfl, hbt⟩
        have HQT := Lib.hid (below_next HQS.out hbt)
        clear hbt
        go_wp2_with fail
        refine (awake_any _ (HG.out.below HQT.out)).mono ?_
        rintro e wa ⟨rfl, hba⟩
        go_wp2_with fail
        go_ret
        exact ⟨rfl, below_next HQT.out hba⟩
  · have hl0 : (0 : Int) < (ls.length : Int) := by omega
    have HNUM := Lib.hid hnum
    clear h0 hnum
    rcases makeOf_form HK.out zs x.data.toList with ⟨t, hmk⟩ | ⟨x2, hmk, hx2⟩
    · obtain ⟨u2, kk, hkk, hbk⟩ := bk_of hmk
      have HMK := Lib.hid hmk
      have HBK := Lib.hid hbk
      obtain ⟨st, hst⟩ : ∃ st : ByteArray, st = ⟨t.toArray⟩ := ⟨_, rfl⟩
      rw [← hst] at hbk
      have hne : (u2.toList == st.toList) = false := by rw [beq_eq_false_iff_ne]; exact hbk.ne
      have HBK := Lib.hid hbk
      have HST := Lib.hid hst
      have HKK := Lib.hid hkk
      clear hmk hbk hst hkk
      go_enter Tryd.func10, Tryd.ntmps10
      go_wp2_with (go_at_call 18; refine (risNum_any _ _).mono ?_; rintro e w0 ⟨rfl, rfl⟩; rw [HNUM.out])
      refine (make_all _ a c zs x _ HG.out.pow HS.out).mono ?_
      rintro e w1 ⟨rfl, hb1⟩
      rw [show makeOf _ zs _ = _ from HMK.out]
      dsimp only
      rw [← HST.out]
      have HQ1 := Lib.hid hb1
      clear hb1
      go_wp2_with fail
      refine (HBK.out.kind _).mono ?_
      rintro e w2 ⟨rfl, hb2⟩
      have HQ2 := Lib.hid (below_next HQ1.out hb2)
      clear hb2
      go_wp2_with fail
      refine (HBK.out.shape _).mono ?_
      rintro e w3 ⟨g3, c3, rfl, hs3, hb3⟩
      have HS3 := Lib.hid hs3
      have HQ3 := Lib.hid (below_next HQ2.out hb3)
      clear hb3 hs3
      go_wp2_with fail
      refine (HBK.out.make _ _ _ (HG.out.below HQ3.out) HS3.out).mono ?_
      rintro e w4 ⟨rfl, hb4⟩
      have HQ4 := Lib.hid (below_next HQ3.out hb4)
      clear hb4
      go_wp2_with fail
      refine (HBK.out.turn _ (HG.out.below HQ4.out)).mono ?_
      rintro e w5 ⟨rfl, hb5⟩
      have HQ5 := Lib.hid (below_next HQ4.out hb5)
      clear hb5
      go_wp2_with fail
      refine (HBK.out.back _ (HG.out.below HQ5.out)).mono ?_
      rintro e w6 ⟨rfl, hb6⟩
      have HQ6 := Lib.hid (below_next HQ5.out hb6)
      clear hb6
      go_wp2_with fail
      refine (HBK.out.check _).mono ?_
      rintro e w7 ⟨rfl, hb7⟩
      have HQ := Lib.hid (below_next HQ6.out hb7)
      clear hb7 HQ1 HQ2 HQ3 HQ4 HQ5

      have HC2 := HC.out
      rcases HC2 with hcd2 | ⟨rfl, hgd, h100, hjs⟩
      · have hc0 : ((code : Int) != 0) = true := by rw [bne_iff_ne]; omega
        go_wp2_with fail
        refine (HJ.out _ (HL.out.below HQ.out)).mono ?_
        rintro e wj ⟨rfl, hbj⟩
        have HQJ := Lib.hid (below_next HQ.out hbj)
        clear hbj hcd2
        go_wp2_with fail
        refine (awake_any _ (HG.out.below HQJ.out)).mono ?_
        rintro e wa ⟨rfl, hba⟩
        go_wp2_with fail
        go_ret
        exact ⟨rfl, below_next HQJ.out hba⟩
      · have HGD := Lib.hid hgd
        have HJS := Lib.hid hjs
        clear hgd hjs
        go_wp2_with fail
        refine (HJ.out _ (HL.out.below HQ.out)).mono ?_
        rintro e wj ⟨rfl, hbj⟩
        have HQJ := Lib.hid (below_next HQ.out hbj)
        clear hbj
        go_wp2_with fail
        refine (split_short ls ls.length rfl _ (HG.out.below HQJ.out) HGD.out h100 js HJS.out).mono ?_
        rintro e ws ⟨hbs, sa, sc, rfl, hss⟩
        have HSS := Lib.hid hss
        have HQS := Lib.hid (below_next HQJ.out hbs)
        clear hbs hss
        go_wp2_with fail
        refine (strings_eq _ _ _ _ _ _ HSS.out (HL.out.below HQS.out) hlen).mono ?_
        rintro e wt ⟨rfl, hbt⟩
        have HQT := Lib.hid (below_next HQS.out hbt)
        clear hbt
        go_wp2_with fail
        refine (awake_any _ (HG.out.below HQT.out)).mono ?_
        rintro e wa ⟨rfl, hba⟩
        go_wp2_with fail
        go_ret
        exact ⟨rfl, below_next HQT.out hba⟩
    · have HMK := Lib.hid hmk
      have hx0 : ((x2 : Int) == 0) = false := by rw [beq_eq_false_iff_ne]; omega
      clear hmk hx2
      go_enter Tryd.func10, Tryd.ntmps10
      go_wp2_with (go_at_call 18; refine (risNum_any _ _).mono ?_; rintro e w0 ⟨rfl, rfl⟩; rw [HNUM.out])
      refine (make_all _ a c zs x _ HG.out.pow HS.out).mono ?_
      rintro e w1 ⟨rfl, hb1⟩
      rw [show makeOf _ zs _ = _ from HMK.out]
      dsimp only
      have HQ := Lib.hid hb1
      clear hb1

      have HC2 := HC.out
      rcases HC2 with hcd2 | ⟨rfl, hgd, h100, hjs⟩
      · have hc0 : ((code : Int) != 0) = true := by rw [bne_iff_ne]; omega
        go_wp2_with fail
        refine (HJ.out _ (HL.out.below HQ.out)).mono ?_
        rintro e wj ⟨rfl, hbj⟩
        have HQJ := Lib.hid (below_next HQ.out hbj)
        clear hbj hcd2
        go_wp2_with fail
        refine (awake_any _ (HG.out.below HQJ.out)).mono ?_
        rintro e wa ⟨rfl, hba⟩
        go_wp2_with fail
        go_ret
        exact ⟨rfl, below_next HQJ.out hba⟩
      · have HGD := Lib.hid hgd
        have HJS := Lib.hid hjs
        clear hgd hjs
        go_wp2_with fail
        refine (HJ.out _ (HL.out.below HQ.out)).mono ?_
        rintro e wj ⟨rfl, hbj⟩
        have HQJ := Lib.hid (below_next HQ.out hbj)
        clear hbj
        go_wp2_with fail
        refine (split_short ls ls.length rfl _ (HG.out.below HQJ.out) HGD.out h100 js HJS.out).mono ?_
        rintro e ws ⟨hbs, sa, sc, rfl, hss⟩
        have HSS := Lib.hid hss
        have HQS := Lib.hid (below_next HQJ.out hbs)
        clear hbs hss
        go_wp2_with fail
        refine (strings_eq _ _ _ _ _ _ HSS.out (HL.out.below HQS.out) hlen).mono ?_
        rintro e wt ⟨rfl, hbt⟩
        have HQT := Lib.hid (below_next HQS.out hbt)
        clear hbt
        go_wp2_with fail
        refine (awake_any _ (HG.out.below HQT.out)).mono ?_
        rintro e wa ⟨rfl, hba⟩
        go_wp2_with fail
        go_ret
        exact ⟨rfl, below_next HQT.out hba⟩
end Go.Proofs.YthgiianmfehcaaaDoor
